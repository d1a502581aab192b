/-
  CivilAdds' walk: the law returns true for every civil and numbers. Conditions: each number fits its kind.
-/
import Derived.Test.YtafoodfbjebdcaaV
import Derived.Test.YtafoodfbjebdcaaM
import Derived.Test.YtafoodfbjebdcaaS
import Derived.WalkKit
import Derived.ProofKit
import Derived.OpenShut
import Derived.Deep.QuietTactic
import Derived.BigQuiet
import Derived.Lib.Hide
import Derived.WalkLawsBesides
import Derived.Lib.QuietBelow
import Derived.Deep.RegionHeld3
import Derived.Deep.DrawnRows
import Derived.Deep.DeepCutAuto
import Derived.IntWalk
namespace Go.Proofs.Ytafoodfbjebdcaa
attribute [local go_sem ↓] Go.wp_at_zero Go.wp_at_succ
open Go.ChangeShapes Go.WideShapes Go.ChangeAt Go.RowKit
/-- a number held within 2^30 -/
def clip (n : Int) : Int := if 1073741824 < n then 1073741824 else if n < -1073741824 then -1073741824 else n
theorem Blk8.drew {B : Nat} {w : World} {c0 c1 c2 c3 c4 c5 c6 c7 : Value} (h : Blk8 B w c0 c1 c2 c3 c4 c5 c6 c7) : Blk8 B w.drew c0 c1 c2 c3 c4 c5 c6 c7 :=
  ⟨h.lt, h.a0, h.a1, h.a2, h.a3, h.a4, h.a5, h.a6, h.a7, h.fz⟩
theorem blw_drew {B : Nat} {a w : World} (h : Below B a w) : Below B a w.drew := ⟨h.os, h.tape, h.output, h.size, h.block⟩
theorem clip_in (n : Int) : -1073741824 ≤ clip n ∧ clip n ≤ 1073741824 := by unfold clip; split <;> (try split) <;> omega
theorem clip_big {n : Int} (h : 1073741824 ≤ n) : clip n = 1073741824 := by unfold clip; split <;> (try split) <;> omega
theorem clip_small {n : Int} (h : n ≤ -1073741824) : clip n = -1073741824 := by unfold clip; split <;> (try split) <;> omega
theorem clip_mid {n : Int} (h : -1073741824 ≤ n) (h' : n ≤ 1073741824) : clip n = n := by unfold clip; split <;> (try split) <;> omega
set_option maxRecDepth 100000 in
set_option maxHeartbeats 2000000 in
theorem CivilAdds_true_out (y mo d hh mi s wd yd n k N Y M : Int) (x1 x2 x3 x4 x5 x6 x7 x8 : Int) (n1 : -5000000 ≤ N) (n2 : N ≤ 5000000) (y1 : -9999 ≤ y) (y2 : y ≤ 9999) (m1 : 1 ≤ mo) (m2 : mo ≤ 12) (h1 : 0 ≤ hh) (h2 : hh ≤ 23) (mi1 : 0 ≤ mi) (mi2 : mi ≤ 59) (s1 : 0 ≤ s) (s2 : s ≤ 59) (hY : (y * 12 + mo - 1 + clip k) / 12 = Y) (hM : (y * 12 + mo - 1 + clip k) % 12 = M) (hy : ¬ (-9999 ≤ Y ∧ Y ≤ 9999))
   (HA : (∀ w : World, Calls Try.prog 25 #[CV y mo d hh mi s wd yd, .int .i64 n] w fun e w' => e = .returned (.tuple #[CV x1 x2 x3 x4 x5 x6 x7 x8, .int .i64 0]) ∧ Below w.heap.size w w')) (HM : (∀ w : World, Calls Try.prog 26 #[CV y mo d hh mi s wd yd, .int .i64 k] w fun e w' => e = .returned (.tuple #[CV 0 0 0 0 0 0 0 0, .int .i64 7]) ∧ Below w.heap.size w w')) (HR : (∀ w : World, Calls Try.prog 23 #[CV y mo d hh mi s wd yd] w fun e w' => e = .returned (.bool true) ∧ Below w.heap.size w w')) (HN : (∀ w : World, Calls Try.prog 21 #[CV y mo d hh mi s wd yd] w fun e w' => e = .returned (.int .i64 N) ∧ Below w.heap.size w w'))
   (HO : (∀ w : World, Calls Try.prog 14 #[.int .i64 (N + clip n), .int .i64 (hh * 3600 + mi * 60 + s)] w fun e w' => e = .returned (.tuple #[CV x1 x2 x3 x4 x5 x6 x7 x8, .bool true]) ∧ Below w.heap.size w w')) (w : World) :
    Calls Try.prog 8 #[CV y mo d hh mi s wd yd, .int .i64 n, .int .i64 k] w fun e w' => e = .returned (.bool true) ∧ Below w.heap.size w w' := by
  have ck := clip_in k
  have cY := Lib.hid hY
  have cM := Lib.hid hM
  have M1 : 0 ≤ M := by omega
  have M2 : M ≤ 11 := by omega
  have Y1 : -1000000000000 ≤ Y := by omega
  have Y2 : Y ≤ 1000000000000 := by omega
  clear hY hM
  have HY0 := Lib.hid hy
  clear hy
  unfold CV at *
  go_enter Try.func8, Try.ntmps8
  have L0 : Below w.heap.size w w := Below.refl _ _
  go_wp2_with fail
  have L1 : Below w.heap.size w (w.alloc (.cells #[.int .i64 y, .int .i64 mo, .int .i64 d, .int .i64 hh, .int .i64 mi, .int .i64 s, .int .i64 wd, .int .i64 yd] 24)) := L0.alloc L0.size _
  have bp_1 := Blk8.new w (.int .i64 y) (.int .i64 mo) (.int .i64 d) (.int .i64 hh) (.int .i64 mi) (.int .i64 s) (.int .i64 wd) (.int .i64 yd) 24
  clear L0
  refine (wakes_any _).mono ?_
  rintro e w2 ⟨rfl, hb⟩
  have L2 := L1.trans (hb.mono L1.size)
  have bp_2 := bp_1.below hb
  clear bp_1
  clear hb
  clear L1
  obtain ⟨bplt, bpc0, bpc1, bpc2, bpc3, bpc4, bpc5, bpc6, bpc7, bpfz⟩ := bp_2
  go_wp2_with fail
  have bp_2 : Blk8 _ _ _ _ _ _ _ _ _ _ := ⟨bplt, bpc0, bpc1, bpc2, bpc3, bpc4, bpc5, bpc6, bpc7, bpfz⟩
  clear bplt bpc0 bpc1 bpc2 bpc3 bpc4 bpc5 bpc6 bpc7 bpfz
  refine (HA _).mono ?_
  rintro e w3 ⟨rfl, hb⟩
  have L3 := L2.trans (hb.mono L2.size)
  have bp_3 := bp_2.below hb
  clear bp_2
  clear hb
  clear L2
  obtain ⟨bplt, bpc0, bpc1, bpc2, bpc3, bpc4, bpc5, bpc6, bpc7, bpfz⟩ := bp_3
  go_wp2_with fail
  have bp_3 : Blk8 _ _ _ _ _ _ _ _ _ _ := ⟨bplt, bpc0, bpc1, bpc2, bpc3, bpc4, bpc5, bpc6, bpc7, bpfz⟩
  clear bplt bpc0 bpc1 bpc2 bpc3 bpc4 bpc5 bpc6 bpc7 bpfz
  have L4 : Below w.heap.size w (w3.alloc (.cells #[.int .i64 x1, .int .i64 x2, .int .i64 x3, .int .i64 x4, .int .i64 x5, .int .i64 x6, .int .i64 x7, .int .i64 x8] 24)) := L3.alloc L3.size _
  have bp_4 := bp_3.alloc #[.int .i64 x1, .int .i64 x2, .int .i64 x3, .int .i64 x4, .int .i64 x5, .int .i64 x6, .int .i64 x7, .int .i64 x8] 24
  clear bp_3
  have bx_4 := Blk8.new w3 (.int .i64 x1) (.int .i64 x2) (.int .i64 x3) (.int .i64 x4) (.int .i64 x5) (.int .i64 x6) (.int .i64 x7) (.int .i64 x8) 24
  clear L3
  refine (HM _).mono ?_
  rintro e w5 ⟨rfl, hb⟩
  have L5 := L4.trans (hb.mono L4.size)
  have bp_5 := bp_4.below hb
  clear bp_4
  have bx_5 := bx_4.below hb
  clear bx_4
  clear hb
  clear L4
  obtain ⟨bplt, bpc0, bpc1, bpc2, bpc3, bpc4, bpc5, bpc6, bpc7, bpfz⟩ := bp_5
  obtain ⟨bxlt, bxc0, bxc1, bxc2, bxc3, bxc4, bxc5, bxc6, bxc7, bxfz⟩ := bx_5
  go_wp2_with fail
  have bp_5 : Blk8 _ _ _ _ _ _ _ _ _ _ := ⟨bplt, bpc0, bpc1, bpc2, bpc3, bpc4, bpc5, bpc6, bpc7, bpfz⟩
  clear bplt bpc0 bpc1 bpc2 bpc3 bpc4 bpc5 bpc6 bpc7 bpfz
  have bx_5 : Blk8 _ _ _ _ _ _ _ _ _ _ := ⟨bxlt, bxc0, bxc1, bxc2, bxc3, bxc4, bxc5, bxc6, bxc7, bxfz⟩
  clear bxlt bxc0 bxc1 bxc2 bxc3 bxc4 bxc5 bxc6 bxc7 bxfz
  have L6 : Below w.heap.size w (w5.alloc (.cells #[.int .i64 0, .int .i64 0, .int .i64 0, .int .i64 0, .int .i64 0, .int .i64 0, .int .i64 0, .int .i64 0] 24)) := L5.alloc L5.size _
  have bp_6 := bp_5.alloc #[.int .i64 0, .int .i64 0, .int .i64 0, .int .i64 0, .int .i64 0, .int .i64 0, .int .i64 0, .int .i64 0] 24
  clear bp_5
  have bx_6 := bx_5.alloc #[.int .i64 0, .int .i64 0, .int .i64 0, .int .i64 0, .int .i64 0, .int .i64 0, .int .i64 0, .int .i64 0] 24
  clear bx_5
  have bz_6 := Blk8.new w5 (.int .i64 0) (.int .i64 0) (.int .i64 0) (.int .i64 0) (.int .i64 0) (.int .i64 0) (.int .i64 0) (.int .i64 0) 24
  clear L5
  refine (HR _).mono ?_
  rintro e w7 ⟨rfl, hb⟩
  have L7 := L6.trans (hb.mono L6.size)
  have bp_7 := bp_6.below hb
  clear bp_6
  have bx_7 := bx_6.below hb
  clear bx_6
  have bz_7 := bz_6.below hb
  clear bz_6
  clear hb
  clear L6
  obtain ⟨bplt, bpc0, bpc1, bpc2, bpc3, bpc4, bpc5, bpc6, bpc7, bpfz⟩ := bp_7
  obtain ⟨bxlt, bxc0, bxc1, bxc2, bxc3, bxc4, bxc5, bxc6, bxc7, bxfz⟩ := bx_7
  obtain ⟨bzlt, bzc0, bzc1, bzc2, bzc3, bzc4, bzc5, bzc6, bzc7, bzfz⟩ := bz_7
  go_wp2_with fail
  have bp_7 : Blk8 _ _ _ _ _ _ _ _ _ _ := ⟨bplt, bpc0, bpc1, bpc2, bpc3, bpc4, bpc5, bpc6, bpc7, bpfz⟩
  clear bplt bpc0 bpc1 bpc2 bpc3 bpc4 bpc5 bpc6 bpc7 bpfz
  have bx_7 : Blk8 _ _ _ _ _ _ _ _ _ _ := ⟨bxlt, bxc0, bxc1, bxc2, bxc3, bxc4, bxc5, bxc6, bxc7, bxfz⟩
  clear bxlt bxc0 bxc1 bxc2 bxc3 bxc4 bxc5 bxc6 bxc7 bxfz
  have bz_7 : Blk8 _ _ _ _ _ _ _ _ _ _ := ⟨bzlt, bzc0, bzc1, bzc2, bzc3, bzc4, bzc5, bzc6, bzc7, bzfz⟩
  clear bzlt bzc0 bzc1 bzc2 bzc3 bzc4 bzc5 bzc6 bzc7 bzfz
  refine (HN _).mono ?_
  rintro e w8 ⟨rfl, hb⟩
  have L8 := L7.trans (hb.mono L7.size)
  have bp_8 := bp_7.below hb
  clear bp_7
  have bx_8 := bx_7.below hb
  clear bx_7
  have bz_8 := bz_7.below hb
  clear bz_7
  clear hb
  clear L7
  go_upto_region 8 with fail
  go_cut [12, 13] (fun s12 s13 wc => s13 = .bool true ∧ ∃ B, s12 = .pointer (some ⟨B, 0, none⟩) ∧ Below w.heap.size w wc ∧ Blk8 w.heap.size wc (.int .i64 y) (.int .i64 mo) (.int .i64 d) (.int .i64 hh) (.int .i64 mi) (.int .i64 s) (.int .i64 wd) (.int .i64 yd) ∧ Blk8 w3.heap.size wc (.int .i64 x1) (.int .i64 x2) (.int .i64 x3) (.int .i64 x4) (.int .i64 x5) (.int .i64 x6) (.int .i64 x7) (.int .i64 x8) ∧ Blk8 w5.heap.size wc (.int .i64 0) (.int .i64 0) (.int .i64 0) (.int .i64 0) (.int .i64 0) (.int .i64 0) (.int .i64 0) (.int .i64 0) ∧ Blk8 B wc (.int .i64 x1) (.int .i64 x2) (.int .i64 x3) (.int .i64 x4) (.int .i64 x5) (.int .i64 x6) (.int .i64 x7) (.int .i64 x8))
  case first =>
    by_cases q1 : 1073741824 < n
    · rw [clip_big (by omega)] at HO
      obtain ⟨bplt, bpc0, bpc1, bpc2, bpc3, bpc4, bpc5, bpc6, bpc7, bpfz⟩ := bp_8
      go_wp2_with fail
      have bp_8 : Blk8 _ _ _ _ _ _ _ _ _ _ := ⟨bplt, bpc0, bpc1, bpc2, bpc3, bpc4, bpc5, bpc6, bpc7, bpfz⟩
      clear bplt bpc0 bpc1 bpc2 bpc3 bpc4 bpc5 bpc6 bpc7 bpfz
      refine (HO _).mono ?_
      rintro e w9 ⟨rfl, hb⟩
      have L9 := L8.trans (hb.mono L8.size)
      have bp_9 := bp_8.below hb
      clear bp_8
      have bx_9 := bx_8.below hb
      clear bx_8
      have bz_9 := bz_8.below hb
      clear bz_8
      clear hb
      clear L8
      go_wp2_with fail
      have L10 : Below w.heap.size w (w9.alloc (.cells #[.int .i64 x1, .int .i64 x2, .int .i64 x3, .int .i64 x4, .int .i64 x5, .int .i64 x6, .int .i64 x7, .int .i64 x8] 24)) := L9.alloc L9.size _
      have bp_10 := bp_9.alloc #[.int .i64 x1, .int .i64 x2, .int .i64 x3, .int .i64 x4, .int .i64 x5, .int .i64 x6, .int .i64 x7, .int .i64 x8] 24
      clear bp_9
      have bx_10 := bx_9.alloc #[.int .i64 x1, .int .i64 x2, .int .i64 x3, .int .i64 x4, .int .i64 x5, .int .i64 x6, .int .i64 x7, .int .i64 x8] 24
      clear bx_9
      have bz_10 := bz_9.alloc #[.int .i64 x1, .int .i64 x2, .int .i64 x3, .int .i64 x4, .int .i64 x5, .int .i64 x6, .int .i64 x7, .int .i64 x8] 24
      clear bz_9
      have bd_10 := Blk8.new w9 (.int .i64 x1) (.int .i64 x2) (.int .i64 x3) (.int .i64 x4) (.int .i64 x5) (.int .i64 x6) (.int .i64 x7) (.int .i64 x8) 24
      clear L9
      go_meet
      exact ⟨rfl, _, rfl, L10, bp_10, bx_10, bz_10, bd_10⟩
    · by_cases q2 : n < -1073741824
      · rw [clip_small (by omega)] at HO
        obtain ⟨bplt, bpc0, bpc1, bpc2, bpc3, bpc4, bpc5, bpc6, bpc7, bpfz⟩ := bp_8
        go_wp2_with fail
        have bp_8 : Blk8 _ _ _ _ _ _ _ _ _ _ := ⟨bplt, bpc0, bpc1, bpc2, bpc3, bpc4, bpc5, bpc6, bpc7, bpfz⟩
        clear bplt bpc0 bpc1 bpc2 bpc3 bpc4 bpc5 bpc6 bpc7 bpfz
        refine (HO _).mono ?_
        rintro e w9 ⟨rfl, hb⟩
        have L9 := L8.trans (hb.mono L8.size)
        have bp_9 := bp_8.below hb
        clear bp_8
        have bx_9 := bx_8.below hb
        clear bx_8
        have bz_9 := bz_8.below hb
        clear bz_8
        clear hb
        clear L8
        go_wp2_with fail
        have L10 : Below w.heap.size w (w9.alloc (.cells #[.int .i64 x1, .int .i64 x2, .int .i64 x3, .int .i64 x4, .int .i64 x5, .int .i64 x6, .int .i64 x7, .int .i64 x8] 24)) := L9.alloc L9.size _
        have bp_10 := bp_9.alloc #[.int .i64 x1, .int .i64 x2, .int .i64 x3, .int .i64 x4, .int .i64 x5, .int .i64 x6, .int .i64 x7, .int .i64 x8] 24
        clear bp_9
        have bx_10 := bx_9.alloc #[.int .i64 x1, .int .i64 x2, .int .i64 x3, .int .i64 x4, .int .i64 x5, .int .i64 x6, .int .i64 x7, .int .i64 x8] 24
        clear bx_9
        have bz_10 := bz_9.alloc #[.int .i64 x1, .int .i64 x2, .int .i64 x3, .int .i64 x4, .int .i64 x5, .int .i64 x6, .int .i64 x7, .int .i64 x8] 24
        clear bz_9
        have bd_10 := Blk8.new w9 (.int .i64 x1) (.int .i64 x2) (.int .i64 x3) (.int .i64 x4) (.int .i64 x5) (.int .i64 x6) (.int .i64 x7) (.int .i64 x8) 24
        clear L9
        go_meet
        exact ⟨rfl, _, rfl, L10, bp_10, bx_10, bz_10, bd_10⟩
      · rw [clip_mid (by omega) (by omega)] at HO
        obtain ⟨bplt, bpc0, bpc1, bpc2, bpc3, bpc4, bpc5, bpc6, bpc7, bpfz⟩ := bp_8
        go_wp2_with fail
        have bp_8 : Blk8 _ _ _ _ _ _ _ _ _ _ := ⟨bplt, bpc0, bpc1, bpc2, bpc3, bpc4, bpc5, bpc6, bpc7, bpfz⟩
        clear bplt bpc0 bpc1 bpc2 bpc3 bpc4 bpc5 bpc6 bpc7 bpfz
        refine (HO _).mono ?_
        rintro e w9 ⟨rfl, hb⟩
        have L9 := L8.trans (hb.mono L8.size)
        have bp_9 := bp_8.below hb
        clear bp_8
        have bx_9 := bx_8.below hb
        clear bx_8
        have bz_9 := bz_8.below hb
        clear bz_8
        clear hb
        clear L8
        go_wp2_with fail
        have L10 : Below w.heap.size w (w9.alloc (.cells #[.int .i64 x1, .int .i64 x2, .int .i64 x3, .int .i64 x4, .int .i64 x5, .int .i64 x6, .int .i64 x7, .int .i64 x8] 24)) := L9.alloc L9.size _
        have bp_10 := bp_9.alloc #[.int .i64 x1, .int .i64 x2, .int .i64 x3, .int .i64 x4, .int .i64 x5, .int .i64 x6, .int .i64 x7, .int .i64 x8] 24
        clear bp_9
        have bx_10 := bx_9.alloc #[.int .i64 x1, .int .i64 x2, .int .i64 x3, .int .i64 x4, .int .i64 x5, .int .i64 x6, .int .i64 x7, .int .i64 x8] 24
        clear bx_9
        have bz_10 := bz_9.alloc #[.int .i64 x1, .int .i64 x2, .int .i64 x3, .int .i64 x4, .int .i64 x5, .int .i64 x6, .int .i64 x7, .int .i64 x8] 24
        clear bz_9
        have bd_10 := Blk8.new w9 (.int .i64 x1) (.int .i64 x2) (.int .i64 x3) (.int .i64 x4) (.int .i64 x5) (.int .i64 x6) (.int .i64 x7) (.int .i64 x8) 24
        clear L9
        go_meet
        exact ⟨rfl, _, rfl, L10, bp_10, bx_10, bz_10, bd_10⟩
  case rest =>
    clear HO HA HM HR HN L8 bp_8 bx_8 bz_8
    obtain ⟨rfl, B, rfl, L40, bp_40, bx_40, bz_40, bd_40⟩ := hcut
    obtain ⟨bxlt, bxc0, bxc1, bxc2, bxc3, bxc4, bxc5, bxc6, bxc7, bxfz⟩ := bx_40
    obtain ⟨bdlt, bdc0, bdc1, bdc2, bdc3, bdc4, bdc5, bdc6, bdc7, bdfz⟩ := bd_40
    go_upto_region 11 with fail
    have bx_40 : Blk8 _ _ _ _ _ _ _ _ _ _ := ⟨bxlt, bxc0, bxc1, bxc2, bxc3, bxc4, bxc5, bxc6, bxc7, bxfz⟩
    clear bxlt bxc0 bxc1 bxc2 bxc3 bxc4 bxc5 bxc6 bxc7 bxfz
    have bd_40 : Blk8 _ _ _ _ _ _ _ _ _ _ := ⟨bdlt, bdc0, bdc1, bdc2, bdc3, bdc4, bdc5, bdc6, bdc7, bdfz⟩
    clear bdlt bdc0 bdc1 bdc2 bdc3 bdc4 bdc5 bdc6 bdc7 bdfz
    clear bx_40 bd_40
    go_cut [14] (fun s14 wd => s14 = .int .i64 (y * 12 + mo - 1 + clip k) ∧ wd = wc)
    case first =>
      obtain ⟨bplt, bpc0, bpc1, bpc2, bpc3, bpc4, bpc5, bpc6, bpc7, bpfz⟩ := bp_40
      clear cY cM
      by_cases q1 : 1073741824 < k
      · have E := Lib.hid (clip_big (n := k) (by omega))
        clear ck
        go_wp2_with fail
        go_meet
        exact ⟨by rw [E.out], rfl⟩
      · by_cases q2 : k < -1073741824
        · have E := Lib.hid (clip_small (n := k) (by omega))
          clear ck
          go_wp2_with fail
          go_meet
          exact ⟨by rw [E.out], rfl⟩
        · have E := Lib.hid (clip_mid (n := k) (by omega) (by omega))
          clear ck
          go_wp2_with fail
          all_goals
            go_meet
            exact ⟨by rw [E.out], rfl⟩
    case rest =>
      obtain ⟨rfl, rfl⟩ := hcut
      have K1 : -10000000000 ≤ y * 12 + mo - 1 + clip k := by omega
      have K2 : y * 12 + mo - 1 + clip k ≤ 10000000000 := by omega
      generalize y * 12 + mo - 1 + clip k = K at *
      go_upto_region 12 with fail
      go_cut [15, 16] (fun s15 s16 wd => ∃ q r : Int, s15 = .int .i64 q ∧ s16 = .int .i64 r ∧ ((0 ≤ r ∧ q = Y ∧ r = M) ∨ (r < 0 ∧ q - 1 = Y ∧ r + 12 = M)) ∧ wd = wc)
      case first =>
        by_cases q0 : 0 ≤ K
        · have r0 : 0 ≤ K % 12 := by omega
          go_wp2_with fail
          go_meet
          exact ⟨_, _, rfl, rfl, Or.inl ⟨r0, cY.out, cM.out⟩, rfl⟩
        · obtain ⟨f1, f2, b1, b2, b3, b4⟩ := tdm2 K 12 (by omega) (by omega)
          have H1 := Lib.hid f1
          have H2 := Lib.hid f2
          clear f1 f2
          go_wp2_with fail
          go_meet
          refine ⟨_, _, rfl, rfl, ?_, rfl⟩
          by_cases q4 : K.tmod 12 < 0
          · exact Or.inr ⟨q4, (H1.out q4).1.trans cY.out, (H1.out q4).2.trans cM.out⟩
          · exact Or.inl ⟨by omega, (H2.out (by omega)).1.trans cY.out, (H2.out (by omega)).2.trans cM.out⟩
      case rest =>
        obtain ⟨q, r, rfl, rfl, hqr, rfl⟩ := hcut
        clear cY cM K1 K2
        go_upto_if 107 with fail
        go_cut [15, 16] (fun s15 s16 wd => s15 = .int .i64 Y ∧ s16 = .int .i64 M ∧ wd = wc)
        case first =>
          rcases hqr with ⟨r0, rfl, rfl⟩ | ⟨r0, e1, e2⟩
          · go_wp2_with fail
            go_meet
            exact ⟨rfl, rfl, rfl⟩
          · have E1 := Lib.hid e1
            have E2 := Lib.hid e2
            have q1 : -1000000000000 ≤ q := by omega
            have q2 : q ≤ 1000000000001 := by omega
            have q3 : -12 ≤ r := by omega
            clear e1 e2
            go_wp2_with fail
            go_meet
            exact ⟨by rw [← E1.out], by rw [← E2.out], rfl⟩
        case rest =>
          obtain ⟨rfl, rfl, rfl⟩ := hcut
          clear hqr
          go_wp2_with fail
          refine (yrR_no Y HY0.out _).mono ?_
          rintro e w' ⟨rfl, rfl⟩
          obtain ⟨bzlt, bzc0, bzc1, bzc2, bzc3, bzc4, bzc5, bzc6, bzc7, bzfz⟩ := bz_40
          go_wp2_with fail
          have bz_40 : Blk8 _ _ _ _ _ _ _ _ _ _ := ⟨bzlt, bzc0, bzc1, bzc2, bzc3, bzc4, bzc5, bzc6, bzc7, bzfz⟩
          clear bzlt bzc0 bzc1 bzc2 bzc3 bzc4 bzc5 bzc6 bzc7 bzfz
          go_ret
          exact ⟨rfl, L40⟩
set_option maxRecDepth 100000 in
set_option maxHeartbeats 2000000 in
theorem CivilAdds_true_keep (y mo d hh mi s wd yd n k N Y M : Int) (x1 x2 x3 x4 x5 x6 x7 x8 : Int) (z1 z2 z3 z4 z5 z6 z7 z8 : Int) (n1 : -5000000 ≤ N) (n2 : N ≤ 5000000) (y1 : -9999 ≤ y) (y2 : y ≤ 9999) (m1 : 1 ≤ mo) (m2 : mo ≤ 12) (h1 : 0 ≤ hh) (h2 : hh ≤ 23) (mi1 : 0 ≤ mi) (mi2 : mi ≤ 59) (s1 : 0 ≤ s) (s2 : s ≤ 59) (hY : (y * 12 + mo - 1 + clip k) / 12 = Y) (hM : (y * 12 + mo - 1 + clip k) % 12 = M) (hy : -9999 ≤ Y) (hy2 : Y ≤ 9999) (D N2 : Int) (_D1 : 28 ≤ D) (_D2 : D ≤ 31) (_d1 : 1 ≤ d) (_d2 : d ≤ 31) (hd : d ≤ D) (HD : (∀ w : World, Calls Try.prog 18 #[.int .i64 Y, .int .i64 (M + 1)] w fun e w' => e = .returned (.int .i64 D) ∧ Below w.heap.size w w'))
   (HA : (∀ w : World, Calls Try.prog 25 #[CV y mo d hh mi s wd yd, .int .i64 n] w fun e w' => e = .returned (.tuple #[CV x1 x2 x3 x4 x5 x6 x7 x8, .int .i64 0]) ∧ Below w.heap.size w w')) (HM : (∀ w : World, Calls Try.prog 26 #[CV y mo d hh mi s wd yd, .int .i64 k] w fun e w' => e = .returned (.tuple #[CV z1 z2 z3 z4 z5 z6 z7 z8, .int .i64 0]) ∧ Below w.heap.size w w')) (HR : (∀ w : World, Calls Try.prog 23 #[CV y mo d hh mi s wd yd] w fun e w' => e = .returned (.bool true) ∧ Below w.heap.size w w')) (HN : (∀ w : World, Calls Try.prog 21 #[CV y mo d hh mi s wd yd] w fun e w' => e = .returned (.int .i64 N) ∧ Below w.heap.size w w'))
   (HO : (∀ w : World, Calls Try.prog 14 #[.int .i64 (N + clip n), .int .i64 (hh * 3600 + mi * 60 + s)] w fun e w' => e = .returned (.tuple #[CV x1 x2 x3 x4 x5 x6 x7 x8, .bool true]) ∧ Below w.heap.size w w'))
   (HN2 : (∀ w : World, Calls Try.prog 21 #[CV Y (M + 1) d 0 0 0 0 0] w fun e w' => e = .returned (.int .i64 N2) ∧ Below w.heap.size w w')) (HO2 : (∀ w : World, Calls Try.prog 14 #[.int .i64 N2, .int .i64 (hh * 3600 + mi * 60 + s)] w fun e w' => e = .returned (.tuple #[CV z1 z2 z3 z4 z5 z6 z7 z8, .bool true]) ∧ Below w.heap.size w w')) (w : World) :
    Calls Try.prog 8 #[CV y mo d hh mi s wd yd, .int .i64 n, .int .i64 k] w fun e w' => e = .returned (.bool true) ∧ Below w.heap.size w w' := by
  have ck := clip_in k
  have cY := Lib.hid hY
  have cM := Lib.hid hM
  have M1 : 0 ≤ M := by omega
  have M2 : M ≤ 11 := by omega
  have Y1 : -1000000000000 ≤ Y := by omega
  have Y2 : Y ≤ 1000000000000 := by omega
  clear hY hM
  unfold CV at *
  go_enter Try.func8, Try.ntmps8
  have L0 : Below w.heap.size w w := Below.refl _ _
  go_wp2_with fail
  have L1 : Below w.heap.size w (w.alloc (.cells #[.int .i64 y, .int .i64 mo, .int .i64 d, .int .i64 hh, .int .i64 mi, .int .i64 s, .int .i64 wd, .int .i64 yd] 24)) := L0.alloc L0.size _
  have bp_1 := Blk8.new w (.int .i64 y) (.int .i64 mo) (.int .i64 d) (.int .i64 hh) (.int .i64 mi) (.int .i64 s) (.int .i64 wd) (.int .i64 yd) 24
  clear L0
  refine (wakes_any _).mono ?_
  rintro e w2 ⟨rfl, hb⟩
  have L2 := L1.trans (hb.mono L1.size)
  have bp_2 := bp_1.below hb
  clear bp_1
  clear hb
  clear L1
  obtain ⟨bplt, bpc0, bpc1, bpc2, bpc3, bpc4, bpc5, bpc6, bpc7, bpfz⟩ := bp_2
  go_wp2_with fail
  have bp_2 : Blk8 _ _ _ _ _ _ _ _ _ _ := ⟨bplt, bpc0, bpc1, bpc2, bpc3, bpc4, bpc5, bpc6, bpc7, bpfz⟩
  clear bplt bpc0 bpc1 bpc2 bpc3 bpc4 bpc5 bpc6 bpc7 bpfz
  refine (HA _).mono ?_
  rintro e w3 ⟨rfl, hb⟩
  have L3 := L2.trans (hb.mono L2.size)
  have bp_3 := bp_2.below hb
  clear bp_2
  clear hb
  clear L2
  obtain ⟨bplt, bpc0, bpc1, bpc2, bpc3, bpc4, bpc5, bpc6, bpc7, bpfz⟩ := bp_3
  go_wp2_with fail
  have bp_3 : Blk8 _ _ _ _ _ _ _ _ _ _ := ⟨bplt, bpc0, bpc1, bpc2, bpc3, bpc4, bpc5, bpc6, bpc7, bpfz⟩
  clear bplt bpc0 bpc1 bpc2 bpc3 bpc4 bpc5 bpc6 bpc7 bpfz
  have L4 : Below w.heap.size w (w3.alloc (.cells #[.int .i64 x1, .int .i64 x2, .int .i64 x3, .int .i64 x4, .int .i64 x5, .int .i64 x6, .int .i64 x7, .int .i64 x8] 24)) := L3.alloc L3.size _
  have bp_4 := bp_3.alloc #[.int .i64 x1, .int .i64 x2, .int .i64 x3, .int .i64 x4, .int .i64 x5, .int .i64 x6, .int .i64 x7, .int .i64 x8] 24
  clear bp_3
  have bx_4 := Blk8.new w3 (.int .i64 x1) (.int .i64 x2) (.int .i64 x3) (.int .i64 x4) (.int .i64 x5) (.int .i64 x6) (.int .i64 x7) (.int .i64 x8) 24
  clear L3
  refine (HM _).mono ?_
  rintro e w5 ⟨rfl, hb⟩
  have L5 := L4.trans (hb.mono L4.size)
  have bp_5 := bp_4.below hb
  clear bp_4
  have bx_5 := bx_4.below hb
  clear bx_4
  clear hb
  clear L4
  obtain ⟨bplt, bpc0, bpc1, bpc2, bpc3, bpc4, bpc5, bpc6, bpc7, bpfz⟩ := bp_5
  obtain ⟨bxlt, bxc0, bxc1, bxc2, bxc3, bxc4, bxc5, bxc6, bxc7, bxfz⟩ := bx_5
  go_wp2_with fail
  have bp_5 : Blk8 _ _ _ _ _ _ _ _ _ _ := ⟨bplt, bpc0, bpc1, bpc2, bpc3, bpc4, bpc5, bpc6, bpc7, bpfz⟩
  clear bplt bpc0 bpc1 bpc2 bpc3 bpc4 bpc5 bpc6 bpc7 bpfz
  have bx_5 : Blk8 _ _ _ _ _ _ _ _ _ _ := ⟨bxlt, bxc0, bxc1, bxc2, bxc3, bxc4, bxc5, bxc6, bxc7, bxfz⟩
  clear bxlt bxc0 bxc1 bxc2 bxc3 bxc4 bxc5 bxc6 bxc7 bxfz
  have L6 : Below w.heap.size w (w5.alloc (.cells #[.int .i64 z1, .int .i64 z2, .int .i64 z3, .int .i64 z4, .int .i64 z5, .int .i64 z6, .int .i64 z7, .int .i64 z8] 24)) := L5.alloc L5.size _
  have bp_6 := bp_5.alloc #[.int .i64 z1, .int .i64 z2, .int .i64 z3, .int .i64 z4, .int .i64 z5, .int .i64 z6, .int .i64 z7, .int .i64 z8] 24
  clear bp_5
  have bx_6 := bx_5.alloc #[.int .i64 z1, .int .i64 z2, .int .i64 z3, .int .i64 z4, .int .i64 z5, .int .i64 z6, .int .i64 z7, .int .i64 z8] 24
  clear bx_5
  have bz_6 := Blk8.new w5 (.int .i64 z1) (.int .i64 z2) (.int .i64 z3) (.int .i64 z4) (.int .i64 z5) (.int .i64 z6) (.int .i64 z7) (.int .i64 z8) 24
  clear L5
  refine (HR _).mono ?_
  rintro e w7 ⟨rfl, hb⟩
  have L7 := L6.trans (hb.mono L6.size)
  have bp_7 := bp_6.below hb
  clear bp_6
  have bx_7 := bx_6.below hb
  clear bx_6
  have bz_7 := bz_6.below hb
  clear bz_6
  clear hb
  clear L6
  obtain ⟨bplt, bpc0, bpc1, bpc2, bpc3, bpc4, bpc5, bpc6, bpc7, bpfz⟩ := bp_7
  obtain ⟨bxlt, bxc0, bxc1, bxc2, bxc3, bxc4, bxc5, bxc6, bxc7, bxfz⟩ := bx_7
  obtain ⟨bzlt, bzc0, bzc1, bzc2, bzc3, bzc4, bzc5, bzc6, bzc7, bzfz⟩ := bz_7
  go_wp2_with fail
  have bp_7 : Blk8 _ _ _ _ _ _ _ _ _ _ := ⟨bplt, bpc0, bpc1, bpc2, bpc3, bpc4, bpc5, bpc6, bpc7, bpfz⟩
  clear bplt bpc0 bpc1 bpc2 bpc3 bpc4 bpc5 bpc6 bpc7 bpfz
  have bx_7 : Blk8 _ _ _ _ _ _ _ _ _ _ := ⟨bxlt, bxc0, bxc1, bxc2, bxc3, bxc4, bxc5, bxc6, bxc7, bxfz⟩
  clear bxlt bxc0 bxc1 bxc2 bxc3 bxc4 bxc5 bxc6 bxc7 bxfz
  have bz_7 : Blk8 _ _ _ _ _ _ _ _ _ _ := ⟨bzlt, bzc0, bzc1, bzc2, bzc3, bzc4, bzc5, bzc6, bzc7, bzfz⟩
  clear bzlt bzc0 bzc1 bzc2 bzc3 bzc4 bzc5 bzc6 bzc7 bzfz
  refine (HN _).mono ?_
  rintro e w8 ⟨rfl, hb⟩
  have L8 := L7.trans (hb.mono L7.size)
  have bp_8 := bp_7.below hb
  clear bp_7
  have bx_8 := bx_7.below hb
  clear bx_7
  have bz_8 := bz_7.below hb
  clear bz_7
  clear hb
  clear L7
  go_upto_region 8 with fail
  go_cut [12, 13] (fun s12 s13 wc => s13 = .bool true ∧ ∃ B, s12 = .pointer (some ⟨B, 0, none⟩) ∧ Below w.heap.size w wc ∧ Blk8 w.heap.size wc (.int .i64 y) (.int .i64 mo) (.int .i64 d) (.int .i64 hh) (.int .i64 mi) (.int .i64 s) (.int .i64 wd) (.int .i64 yd) ∧ Blk8 w3.heap.size wc (.int .i64 x1) (.int .i64 x2) (.int .i64 x3) (.int .i64 x4) (.int .i64 x5) (.int .i64 x6) (.int .i64 x7) (.int .i64 x8) ∧ Blk8 w5.heap.size wc (.int .i64 z1) (.int .i64 z2) (.int .i64 z3) (.int .i64 z4) (.int .i64 z5) (.int .i64 z6) (.int .i64 z7) (.int .i64 z8) ∧ Blk8 B wc (.int .i64 x1) (.int .i64 x2) (.int .i64 x3) (.int .i64 x4) (.int .i64 x5) (.int .i64 x6) (.int .i64 x7) (.int .i64 x8))
  case first =>
    by_cases q1 : 1073741824 < n
    · rw [clip_big (by omega)] at HO
      obtain ⟨bplt, bpc0, bpc1, bpc2, bpc3, bpc4, bpc5, bpc6, bpc7, bpfz⟩ := bp_8
      go_wp2_with fail
      have bp_8 : Blk8 _ _ _ _ _ _ _ _ _ _ := ⟨bplt, bpc0, bpc1, bpc2, bpc3, bpc4, bpc5, bpc6, bpc7, bpfz⟩
      clear bplt bpc0 bpc1 bpc2 bpc3 bpc4 bpc5 bpc6 bpc7 bpfz
      refine (HO _).mono ?_
      rintro e w9 ⟨rfl, hb⟩
      have L9 := L8.trans (hb.mono L8.size)
      have bp_9 := bp_8.below hb
      clear bp_8
      have bx_9 := bx_8.below hb
      clear bx_8
      have bz_9 := bz_8.below hb
      clear bz_8
      clear hb
      clear L8
      go_wp2_with fail
      have L10 : Below w.heap.size w (w9.alloc (.cells #[.int .i64 x1, .int .i64 x2, .int .i64 x3, .int .i64 x4, .int .i64 x5, .int .i64 x6, .int .i64 x7, .int .i64 x8] 24)) := L9.alloc L9.size _
      have bp_10 := bp_9.alloc #[.int .i64 x1, .int .i64 x2, .int .i64 x3, .int .i64 x4, .int .i64 x5, .int .i64 x6, .int .i64 x7, .int .i64 x8] 24
      clear bp_9
      have bx_10 := bx_9.alloc #[.int .i64 x1, .int .i64 x2, .int .i64 x3, .int .i64 x4, .int .i64 x5, .int .i64 x6, .int .i64 x7, .int .i64 x8] 24
      clear bx_9
      have bz_10 := bz_9.alloc #[.int .i64 x1, .int .i64 x2, .int .i64 x3, .int .i64 x4, .int .i64 x5, .int .i64 x6, .int .i64 x7, .int .i64 x8] 24
      clear bz_9
      have bd_10 := Blk8.new w9 (.int .i64 x1) (.int .i64 x2) (.int .i64 x3) (.int .i64 x4) (.int .i64 x5) (.int .i64 x6) (.int .i64 x7) (.int .i64 x8) 24
      clear L9
      go_meet
      exact ⟨rfl, _, rfl, L10, bp_10, bx_10, bz_10, bd_10⟩
    · by_cases q2 : n < -1073741824
      · rw [clip_small (by omega)] at HO
        obtain ⟨bplt, bpc0, bpc1, bpc2, bpc3, bpc4, bpc5, bpc6, bpc7, bpfz⟩ := bp_8
        go_wp2_with fail
        have bp_8 : Blk8 _ _ _ _ _ _ _ _ _ _ := ⟨bplt, bpc0, bpc1, bpc2, bpc3, bpc4, bpc5, bpc6, bpc7, bpfz⟩
        clear bplt bpc0 bpc1 bpc2 bpc3 bpc4 bpc5 bpc6 bpc7 bpfz
        refine (HO _).mono ?_
        rintro e w9 ⟨rfl, hb⟩
        have L9 := L8.trans (hb.mono L8.size)
        have bp_9 := bp_8.below hb
        clear bp_8
        have bx_9 := bx_8.below hb
        clear bx_8
        have bz_9 := bz_8.below hb
        clear bz_8
        clear hb
        clear L8
        go_wp2_with fail
        have L10 : Below w.heap.size w (w9.alloc (.cells #[.int .i64 x1, .int .i64 x2, .int .i64 x3, .int .i64 x4, .int .i64 x5, .int .i64 x6, .int .i64 x7, .int .i64 x8] 24)) := L9.alloc L9.size _
        have bp_10 := bp_9.alloc #[.int .i64 x1, .int .i64 x2, .int .i64 x3, .int .i64 x4, .int .i64 x5, .int .i64 x6, .int .i64 x7, .int .i64 x8] 24
        clear bp_9
        have bx_10 := bx_9.alloc #[.int .i64 x1, .int .i64 x2, .int .i64 x3, .int .i64 x4, .int .i64 x5, .int .i64 x6, .int .i64 x7, .int .i64 x8] 24
        clear bx_9
        have bz_10 := bz_9.alloc #[.int .i64 x1, .int .i64 x2, .int .i64 x3, .int .i64 x4, .int .i64 x5, .int .i64 x6, .int .i64 x7, .int .i64 x8] 24
        clear bz_9
        have bd_10 := Blk8.new w9 (.int .i64 x1) (.int .i64 x2) (.int .i64 x3) (.int .i64 x4) (.int .i64 x5) (.int .i64 x6) (.int .i64 x7) (.int .i64 x8) 24
        clear L9
        go_meet
        exact ⟨rfl, _, rfl, L10, bp_10, bx_10, bz_10, bd_10⟩
      · rw [clip_mid (by omega) (by omega)] at HO
        obtain ⟨bplt, bpc0, bpc1, bpc2, bpc3, bpc4, bpc5, bpc6, bpc7, bpfz⟩ := bp_8
        go_wp2_with fail
        have bp_8 : Blk8 _ _ _ _ _ _ _ _ _ _ := ⟨bplt, bpc0, bpc1, bpc2, bpc3, bpc4, bpc5, bpc6, bpc7, bpfz⟩
        clear bplt bpc0 bpc1 bpc2 bpc3 bpc4 bpc5 bpc6 bpc7 bpfz
        refine (HO _).mono ?_
        rintro e w9 ⟨rfl, hb⟩
        have L9 := L8.trans (hb.mono L8.size)
        have bp_9 := bp_8.below hb
        clear bp_8
        have bx_9 := bx_8.below hb
        clear bx_8
        have bz_9 := bz_8.below hb
        clear bz_8
        clear hb
        clear L8
        go_wp2_with fail
        have L10 : Below w.heap.size w (w9.alloc (.cells #[.int .i64 x1, .int .i64 x2, .int .i64 x3, .int .i64 x4, .int .i64 x5, .int .i64 x6, .int .i64 x7, .int .i64 x8] 24)) := L9.alloc L9.size _
        have bp_10 := bp_9.alloc #[.int .i64 x1, .int .i64 x2, .int .i64 x3, .int .i64 x4, .int .i64 x5, .int .i64 x6, .int .i64 x7, .int .i64 x8] 24
        clear bp_9
        have bx_10 := bx_9.alloc #[.int .i64 x1, .int .i64 x2, .int .i64 x3, .int .i64 x4, .int .i64 x5, .int .i64 x6, .int .i64 x7, .int .i64 x8] 24
        clear bx_9
        have bz_10 := bz_9.alloc #[.int .i64 x1, .int .i64 x2, .int .i64 x3, .int .i64 x4, .int .i64 x5, .int .i64 x6, .int .i64 x7, .int .i64 x8] 24
        clear bz_9
        have bd_10 := Blk8.new w9 (.int .i64 x1) (.int .i64 x2) (.int .i64 x3) (.int .i64 x4) (.int .i64 x5) (.int .i64 x6) (.int .i64 x7) (.int .i64 x8) 24
        clear L9
        go_meet
        exact ⟨rfl, _, rfl, L10, bp_10, bx_10, bz_10, bd_10⟩
  case rest =>
    clear HO HA HM HR HN L8 bp_8 bx_8 bz_8
    obtain ⟨rfl, B, rfl, L40, bp_40, bx_40, bz_40, bd_40⟩ := hcut
    obtain ⟨bxlt, bxc0, bxc1, bxc2, bxc3, bxc4, bxc5, bxc6, bxc7, bxfz⟩ := bx_40
    obtain ⟨bdlt, bdc0, bdc1, bdc2, bdc3, bdc4, bdc5, bdc6, bdc7, bdfz⟩ := bd_40
    go_upto_region 11 with fail
    have bx_40 : Blk8 _ _ _ _ _ _ _ _ _ _ := ⟨bxlt, bxc0, bxc1, bxc2, bxc3, bxc4, bxc5, bxc6, bxc7, bxfz⟩
    clear bxlt bxc0 bxc1 bxc2 bxc3 bxc4 bxc5 bxc6 bxc7 bxfz
    have bd_40 : Blk8 _ _ _ _ _ _ _ _ _ _ := ⟨bdlt, bdc0, bdc1, bdc2, bdc3, bdc4, bdc5, bdc6, bdc7, bdfz⟩
    clear bdlt bdc0 bdc1 bdc2 bdc3 bdc4 bdc5 bdc6 bdc7 bdfz
    clear bx_40 bd_40
    go_cut [14] (fun s14 wd => s14 = .int .i64 (y * 12 + mo - 1 + clip k) ∧ wd = wc)
    case first =>
      obtain ⟨bplt, bpc0, bpc1, bpc2, bpc3, bpc4, bpc5, bpc6, bpc7, bpfz⟩ := bp_40
      clear cY cM
      by_cases q1 : 1073741824 < k
      · have E := Lib.hid (clip_big (n := k) (by omega))
        clear ck
        go_wp2_with fail
        go_meet
        exact ⟨by rw [E.out], rfl⟩
      · by_cases q2 : k < -1073741824
        · have E := Lib.hid (clip_small (n := k) (by omega))
          clear ck
          go_wp2_with fail
          go_meet
          exact ⟨by rw [E.out], rfl⟩
        · have E := Lib.hid (clip_mid (n := k) (by omega) (by omega))
          clear ck
          go_wp2_with fail
          all_goals
            go_meet
            exact ⟨by rw [E.out], rfl⟩
    case rest =>
      obtain ⟨rfl, rfl⟩ := hcut
      have K1 : -10000000000 ≤ y * 12 + mo - 1 + clip k := by omega
      have K2 : y * 12 + mo - 1 + clip k ≤ 10000000000 := by omega
      generalize y * 12 + mo - 1 + clip k = K at *
      go_upto_region 12 with fail
      go_cut [15, 16] (fun s15 s16 wd => ∃ q r : Int, s15 = .int .i64 q ∧ s16 = .int .i64 r ∧ ((0 ≤ r ∧ q = Y ∧ r = M) ∨ (r < 0 ∧ q - 1 = Y ∧ r + 12 = M)) ∧ wd = wc)
      case first =>
        by_cases q0 : 0 ≤ K
        · have r0 : 0 ≤ K % 12 := by omega
          go_wp2_with fail
          go_meet
          exact ⟨_, _, rfl, rfl, Or.inl ⟨r0, cY.out, cM.out⟩, rfl⟩
        · obtain ⟨f1, f2, b1, b2, b3, b4⟩ := tdm2 K 12 (by omega) (by omega)
          have H1 := Lib.hid f1
          have H2 := Lib.hid f2
          clear f1 f2
          go_wp2_with fail
          go_meet
          refine ⟨_, _, rfl, rfl, ?_, rfl⟩
          by_cases q4 : K.tmod 12 < 0
          · exact Or.inr ⟨q4, (H1.out q4).1.trans cY.out, (H1.out q4).2.trans cM.out⟩
          · exact Or.inl ⟨by omega, (H2.out (by omega)).1.trans cY.out, (H2.out (by omega)).2.trans cM.out⟩
      case rest =>
        obtain ⟨q, r, rfl, rfl, hqr, rfl⟩ := hcut
        clear cY cM K1 K2
        go_upto_if 107 with fail
        go_cut [15, 16] (fun s15 s16 wd => s15 = .int .i64 Y ∧ s16 = .int .i64 M ∧ wd = wc)
        case first =>
          rcases hqr with ⟨r0, rfl, rfl⟩ | ⟨r0, e1, e2⟩
          · go_wp2_with fail
            go_meet
            exact ⟨rfl, rfl, rfl⟩
          · have E1 := Lib.hid e1
            have E2 := Lib.hid e2
            have q1 : -1000000000000 ≤ q := by omega
            have q2 : q ≤ 1000000000001 := by omega
            have q3 : -12 ≤ r := by omega
            clear e1 e2
            go_wp2_with fail
            go_meet
            exact ⟨by rw [← E1.out], by rw [← E2.out], rfl⟩
        case rest =>
          obtain ⟨rfl, rfl, rfl⟩ := hcut
          clear hqr
          go_wp2_with fail
          refine (yrR_yes Y hy hy2 _).mono ?_
          rintro e w' ⟨rfl, rfl⟩
          go_wp2_with fail
          generalize wc = v42 at *
          have pbp0 := fun dr os => cell_regrown bp_40.a0 dr os
          have pbp1 := fun dr os => cell_regrown bp_40.a1 dr os
          have pbp2 := fun dr os => cell_regrown bp_40.a2 dr os
          have pbp3 := fun dr os => cell_regrown bp_40.a3 dr os
          have pbp4 := fun dr os => cell_regrown bp_40.a4 dr os
          have pbp5 := fun dr os => cell_regrown bp_40.a5 dr os
          have pbp6 := fun dr os => cell_regrown bp_40.a6 dr os
          have pbp7 := fun dr os => cell_regrown bp_40.a7 dr os
          refine wp_region_quiet_below (by kernel_rfl) (by kernel_rfl) ?_
          repeat (any_goals (first | go_big_quiet_step ((go_at_call 18; exact Calls.regrown_of (HD _))) | quiet_step ((go_at_call 18; exact Calls.regrown_of (HD _)))))
          refine wpQuiet_nil ?_
          intro _ hw'
          obtain ⟨⟨dq43, osq43⟩, hw''⟩ := hw'
          subst hw''
          clear pbp0 pbp1 pbp2 pbp3 pbp4 pbp5 pbp6 pbp7
          have L43 := L40.trans ((below_regrown v42 dq43 osq43).mono L40.size)
          have bp_43 := bp_40.below (below_regrown v42 dq43 osq43)
          clear bp_40
          have bz_43 := bz_40.below (below_regrown v42 dq43 osq43)
          clear bz_40
          clear L40
          generalize (Go.Sort.grow (redrawn v42 dq43) osq43) = v44 at *
          go_upto_region 18 with fail
          have wr0 := Lib.hid (IntWalk.i64_in (M + 1) (by omega))
          have wr1 := Lib.hid (IntWalk.i64_in (hh * 3600) (by omega))
          have wr2 := Lib.hid (IntWalk.i64_in (mi * 60) (by omega))
          have wr3 := Lib.hid (IntWalk.i64_in (hh * 3600 + mi * 60) (by omega))
          have wr4 := Lib.hid (IntWalk.i64_in (hh * 3600 + mi * 60 + s) (by omega))
          have WR0 : IntKind.i64.wrap (M + 1) = M + 1 := wr0.out
          have WR1 : IntKind.i64.wrap (hh * 3600) = hh * 3600 := wr1.out
          have WR2 : IntKind.i64.wrap (mi * 60) = mi * 60 := wr2.out
          have WR3 : IntKind.i64.wrap (hh * 3600 + mi * 60) = hh * 3600 + mi * 60 := wr3.out
          have WR4 : IntKind.i64.wrap (hh * 3600 + mi * 60 + s) = hh * 3600 + mi * 60 + s := wr4.out
          generalize v44 = v45 at *
          have bp0 := bp_43
          have bz0 := bz_43
          obtain ⟨qlt, q0, q1, q2, q3, q4, q5, q6, q7, qf⟩ := bp_43
          have ne0bp := Nat.ne_of_lt bp0.lt
          have ne0bp' := ne0bp.symm
          have ne0bz := Nat.ne_of_lt bz0.lt
          have ne0bz' := ne0bz.symm
          go_region_held3 (fun w' => w'.cell? ⟨w.heap.size, 3, none⟩ = some (.int .i64 hh) ∧ w'.cell? ⟨w.heap.size, 4, none⟩ = some (.int .i64 mi) ∧ w'.cell? ⟨w.heap.size, 5, none⟩ = some (.int .i64 s)) (first | (with_reducible exact ⟨x23, x24, x25⟩) | (with_reducible exact ⟨x13, x14, x15⟩) | (with_reducible exact ⟨q3, q4, q5⟩) | (refine ⟨?_, ?_, ?_⟩ <;> (repeat rw [World.cell?_setCell_far _ _ _ _ (by first | exact ne0bp | exact ne0bp' | exact ne1bp | exact ne1bp' | exact ne2bp | exact ne2bp')]) <;> with_reducible assumption) | go_keep) ((first | (go_at_call 21; refine (HN2 _).mono ?_; rintro e ws1 ⟨rfl, hb1⟩; have bp1 : Blk8 w.heap.size ws1 (.int .i64 y) (.int .i64 mo) (.int .i64 d) (.int .i64 hh) (.int .i64 mi) (.int .i64 s) (.int .i64 wd) (.int .i64 yd) := (by (refine Blk8.below ?_ hb1); (repeat' (first | (with_reducible assumption) | (with_reducible refine Blk8.alloc ?_ _ _) | (with_reducible refine Blk8.drew ?_) | (with_reducible refine Blk8.drewN ?_ _))); done); have bz1 : Blk8 w5.heap.size ws1 (.int .i64 z1) (.int .i64 z2) (.int .i64 z3) (.int .i64 z4) (.int .i64 z5) (.int .i64 z6) (.int .i64 z7) (.int .i64 z8) := (by (refine Blk8.below ?_ hb1); (repeat' (first | (with_reducible assumption) | (with_reducible refine Blk8.alloc ?_ _ _) | (with_reducible refine Blk8.drew ?_) | (with_reducible refine Blk8.drewN ?_ _))); done); have ne1bp := Nat.ne_of_lt bp1.lt; have ne1bp' := ne1bp.symm; have ne1bz := Nat.ne_of_lt bz1.lt; have ne1bz' := ne1bz.symm; (try (with_reducible have bnv451 : Blk8 v45.heap.size ws1 (.int .i64 0) (.int .i64 0) (.int .i64 0) (.int .i64 0) (.int .i64 0) (.int .i64 0) (.int .i64 0) (.int .i64 0) := Blk8.below (Blk8.new v45 (.int .i64 0) (.int .i64 0) (.int .i64 0) (.int .i64 0) (.int .i64 0) (.int .i64 0) (.int .i64 0) (.int .i64 0) 24) hb1)); (try (with_reducible have bnv451 : Blk8 v45.heap.size ws1 (.int .i64 0) (.int .i64 0) (.int .i64 0) (.int .i64 0) (.int .i64 0) (.int .i64 0) (.int .i64 0) (.int .i64 0) := Blk8.below (Blk8.drew (Blk8.new v45 (.int .i64 0) (.int .i64 0) (.int .i64 0) (.int .i64 0) (.int .i64 0) (.int .i64 0) (.int .i64 0) (.int .i64 0) 24)) hb1)); (try (have bnv451 : Blk8 v45.heap.size ws1 (.int .i64 0) (.int .i64 0) (.int .i64 0) (.int .i64 0) (.int .i64 0) (.int .i64 0) (.int .i64 0) (.int .i64 0) := Blk8.below (Blk8.new v45.drew (.int .i64 0) (.int .i64 0) (.int .i64 0) (.int .i64 0) (.int .i64 0) (.int .i64 0) (.int .i64 0) (.int .i64 0) 24) hb1)); obtain ⟨x1lt, x10, x11, x12, x13, x14, x15, x16, x17, x1f⟩ := bp1; have bp1 : Blk8 _ _ _ _ _ _ _ _ _ _ := ⟨x1lt, x10, x11, x12, x13, x14, x15, x16, x17, x1f⟩) | (go_at_call 14; refine (HO2 _).mono ?_; rintro e ws2 ⟨rfl, hb2⟩; have bp2 : Blk8 w.heap.size ws2 (.int .i64 y) (.int .i64 mo) (.int .i64 d) (.int .i64 hh) (.int .i64 mi) (.int .i64 s) (.int .i64 wd) (.int .i64 yd) := (by (refine Blk8.below ?_ hb2); (repeat' (first | (with_reducible assumption) | (with_reducible refine Blk8.alloc ?_ _ _) | (with_reducible refine Blk8.drew ?_) | (with_reducible refine Blk8.drewN ?_ _))); done); have bz2 : Blk8 w5.heap.size ws2 (.int .i64 z1) (.int .i64 z2) (.int .i64 z3) (.int .i64 z4) (.int .i64 z5) (.int .i64 z6) (.int .i64 z7) (.int .i64 z8) := (by (refine Blk8.below ?_ hb2); (repeat' (first | (with_reducible assumption) | (with_reducible refine Blk8.alloc ?_ _ _) | (with_reducible refine Blk8.drew ?_) | (with_reducible refine Blk8.drewN ?_ _))); done); have ne2bp := Nat.ne_of_lt bp2.lt; have ne2bp' := ne2bp.symm; have ne2bz := Nat.ne_of_lt bz2.lt; have ne2bz' := ne2bz.symm; (try (with_reducible have bnv452 : Blk8 v45.heap.size ws2 (.int .i64 0) (.int .i64 0) (.int .i64 0) (.int .i64 0) (.int .i64 0) (.int .i64 0) (.int .i64 0) (.int .i64 0) := Blk8.below bnv451 hb2)); (try (with_reducible have bnv452 : Blk8 v45.heap.size ws2 (.int .i64 0) (.int .i64 0) (.int .i64 0) (.int .i64 0) (.int .i64 0) (.int .i64 0) (.int .i64 0) (.int .i64 0) := Blk8.below (Blk8.drew bnv451) hb2)); (try (with_reducible have bnws12 : Blk8 ws1.heap.size ws2 (.int .i64 0) (.int .i64 0) (.int .i64 0) (.int .i64 0) (.int .i64 0) (.int .i64 0) (.int .i64 0) (.int .i64 0) := Blk8.below (Blk8.new ws1 (.int .i64 0) (.int .i64 0) (.int .i64 0) (.int .i64 0) (.int .i64 0) (.int .i64 0) (.int .i64 0) (.int .i64 0) 24) hb2)); (try (with_reducible have bnws12 : Blk8 ws1.heap.size ws2 (.int .i64 0) (.int .i64 0) (.int .i64 0) (.int .i64 0) (.int .i64 0) (.int .i64 0) (.int .i64 0) (.int .i64 0) := Blk8.below (Blk8.drew (Blk8.new ws1 (.int .i64 0) (.int .i64 0) (.int .i64 0) (.int .i64 0) (.int .i64 0) (.int .i64 0) (.int .i64 0) (.int .i64 0) 24)) hb2)); (try (have bnws12 : Blk8 ws1.heap.size ws2 (.int .i64 0) (.int .i64 0) (.int .i64 0) (.int .i64 0) (.int .i64 0) (.int .i64 0) (.int .i64 0) (.int .i64 0) := Blk8.below (Blk8.new ws1.drew (.int .i64 0) (.int .i64 0) (.int .i64 0) (.int .i64 0) (.int .i64 0) (.int .i64 0) (.int .i64 0) (.int .i64 0) 24) hb2)); obtain ⟨x2lt, x20, x21, x22, x23, x24, x25, x26, x27, x2f⟩ := bp2; have bp2 : Blk8 _ _ _ _ _ _ _ _ _ _ := ⟨x2lt, x20, x21, x22, x23, x24, x25, x26, x27, x2f⟩; (try (obtain ⟨v45zl, v45z0, v45z1, v45z2, v45z3, v45z4, v45z5, v45z6, v45z7, v45zf⟩ := bnv452)); (try (obtain ⟨ws1zl, ws1z0, ws1z1, ws1z2, ws1z3, ws1z4, ws1z5, ws1z6, ws1z7, ws1zf⟩ := bnws12)); obtain ⟨bzylt, bzy0, bzy1, bzy2, bzy3, bzy4, bzy5, bzy6, bzy7, bzyf⟩ := bz2)))
          all_goals
            clear WR0 WR1 WR2 WR3 WR4
            go_wp2_with fail
            go_ret
            exact ⟨rfl, by (repeat' (first | (with_reducible exact L43) | (with_reducible refine Below.setCell ?_ ?_ _) | (with_reducible refine Below.alloc ?_ ?_ _) | (with_reducible refine blw_drew ?_) | (with_reducible refine blw_drewN ?_ _) | (with_reducible refine Below.trans ?_ (hb2.mono ?_)) | (with_reducible refine Below.trans ?_ (hb1.mono ?_)) | omega | (simp; omega)))⟩
set_option maxRecDepth 100000 in
set_option maxHeartbeats 2000000 in
theorem CivilAdds_true_last (y mo d hh mi s wd yd n k N Y M : Int) (x1 x2 x3 x4 x5 x6 x7 x8 : Int) (z1 z2 z3 z4 z5 z6 z7 z8 : Int) (n1 : -5000000 ≤ N) (n2 : N ≤ 5000000) (y1 : -9999 ≤ y) (y2 : y ≤ 9999) (m1 : 1 ≤ mo) (m2 : mo ≤ 12) (h1 : 0 ≤ hh) (h2 : hh ≤ 23) (mi1 : 0 ≤ mi) (mi2 : mi ≤ 59) (s1 : 0 ≤ s) (s2 : s ≤ 59) (hY : (y * 12 + mo - 1 + clip k) / 12 = Y) (hM : (y * 12 + mo - 1 + clip k) % 12 = M) (hy : -9999 ≤ Y) (hy2 : Y ≤ 9999) (D N2 : Int) (_D1 : 28 ≤ D) (_D2 : D ≤ 31) (_d1 : 1 ≤ d) (_d2 : d ≤ 31) (hd : ¬ d ≤ D) (HD : (∀ w : World, Calls Try.prog 18 #[.int .i64 Y, .int .i64 (M + 1)] w fun e w' => e = .returned (.int .i64 D) ∧ Below w.heap.size w w'))
   (HA : (∀ w : World, Calls Try.prog 25 #[CV y mo d hh mi s wd yd, .int .i64 n] w fun e w' => e = .returned (.tuple #[CV x1 x2 x3 x4 x5 x6 x7 x8, .int .i64 0]) ∧ Below w.heap.size w w')) (HM : (∀ w : World, Calls Try.prog 26 #[CV y mo d hh mi s wd yd, .int .i64 k] w fun e w' => e = .returned (.tuple #[CV z1 z2 z3 z4 z5 z6 z7 z8, .int .i64 0]) ∧ Below w.heap.size w w')) (HR : (∀ w : World, Calls Try.prog 23 #[CV y mo d hh mi s wd yd] w fun e w' => e = .returned (.bool true) ∧ Below w.heap.size w w')) (HN : (∀ w : World, Calls Try.prog 21 #[CV y mo d hh mi s wd yd] w fun e w' => e = .returned (.int .i64 N) ∧ Below w.heap.size w w'))
   (HO : (∀ w : World, Calls Try.prog 14 #[.int .i64 (N + clip n), .int .i64 (hh * 3600 + mi * 60 + s)] w fun e w' => e = .returned (.tuple #[CV x1 x2 x3 x4 x5 x6 x7 x8, .bool true]) ∧ Below w.heap.size w w'))
   (HN2 : (∀ w : World, Calls Try.prog 21 #[CV Y (M + 1) D 0 0 0 0 0] w fun e w' => e = .returned (.int .i64 N2) ∧ Below w.heap.size w w')) (HO2 : (∀ w : World, Calls Try.prog 14 #[.int .i64 N2, .int .i64 (hh * 3600 + mi * 60 + s)] w fun e w' => e = .returned (.tuple #[CV z1 z2 z3 z4 z5 z6 z7 z8, .bool true]) ∧ Below w.heap.size w w')) (w : World) :
    Calls Try.prog 8 #[CV y mo d hh mi s wd yd, .int .i64 n, .int .i64 k] w fun e w' => e = .returned (.bool true) ∧ Below w.heap.size w w' := by
  have ck := clip_in k
  have cY := Lib.hid hY
  have cM := Lib.hid hM
  have M1 : 0 ≤ M := by omega
  have M2 : M ≤ 11 := by omega
  have Y1 : -1000000000000 ≤ Y := by omega
  have Y2 : Y ≤ 1000000000000 := by omega
  clear hY hM
  unfold CV at *
  go_enter Try.func8, Try.ntmps8
  have L0 : Below w.heap.size w w := Below.refl _ _
  go_wp2_with fail
  have L1 : Below w.heap.size w (w.alloc (.cells #[.int .i64 y, .int .i64 mo, .int .i64 d, .int .i64 hh, .int .i64 mi, .int .i64 s, .int .i64 wd, .int .i64 yd] 24)) := L0.alloc L0.size _
  have bp_1 := Blk8.new w (.int .i64 y) (.int .i64 mo) (.int .i64 d) (.int .i64 hh) (.int .i64 mi) (.int .i64 s) (.int .i64 wd) (.int .i64 yd) 24
  clear L0
  refine (wakes_any _).mono ?_
  rintro e w2 ⟨rfl, hb⟩
  have L2 := L1.trans (hb.mono L1.size)
  have bp_2 := bp_1.below hb
  clear bp_1
  clear hb
  clear L1
  obtain ⟨bplt, bpc0, bpc1, bpc2, bpc3, bpc4, bpc5, bpc6, bpc7, bpfz⟩ := bp_2
  go_wp2_with fail
  have bp_2 : Blk8 _ _ _ _ _ _ _ _ _ _ := ⟨bplt, bpc0, bpc1, bpc2, bpc3, bpc4, bpc5, bpc6, bpc7, bpfz⟩
  clear bplt bpc0 bpc1 bpc2 bpc3 bpc4 bpc5 bpc6 bpc7 bpfz
  refine (HA _).mono ?_
  rintro e w3 ⟨rfl, hb⟩
  have L3 := L2.trans (hb.mono L2.size)
  have bp_3 := bp_2.below hb
  clear bp_2
  clear hb
  clear L2
  obtain ⟨bplt, bpc0, bpc1, bpc2, bpc3, bpc4, bpc5, bpc6, bpc7, bpfz⟩ := bp_3
  go_wp2_with fail
  have bp_3 : Blk8 _ _ _ _ _ _ _ _ _ _ := ⟨bplt, bpc0, bpc1, bpc2, bpc3, bpc4, bpc5, bpc6, bpc7, bpfz⟩
  clear bplt bpc0 bpc1 bpc2 bpc3 bpc4 bpc5 bpc6 bpc7 bpfz
  have L4 : Below w.heap.size w (w3.alloc (.cells #[.int .i64 x1, .int .i64 x2, .int .i64 x3, .int .i64 x4, .int .i64 x5, .int .i64 x6, .int .i64 x7, .int .i64 x8] 24)) := L3.alloc L3.size _
  have bp_4 := bp_3.alloc #[.int .i64 x1, .int .i64 x2, .int .i64 x3, .int .i64 x4, .int .i64 x5, .int .i64 x6, .int .i64 x7, .int .i64 x8] 24
  clear bp_3
  have bx_4 := Blk8.new w3 (.int .i64 x1) (.int .i64 x2) (.int .i64 x3) (.int .i64 x4) (.int .i64 x5) (.int .i64 x6) (.int .i64 x7) (.int .i64 x8) 24
  clear L3
  refine (HM _).mono ?_
  rintro e w5 ⟨rfl, hb⟩
  have L5 := L4.trans (hb.mono L4.size)
  have bp_5 := bp_4.below hb
  clear bp_4
  have bx_5 := bx_4.below hb
  clear bx_4
  clear hb
  clear L4
  obtain ⟨bplt, bpc0, bpc1, bpc2, bpc3, bpc4, bpc5, bpc6, bpc7, bpfz⟩ := bp_5
  obtain ⟨bxlt, bxc0, bxc1, bxc2, bxc3, bxc4, bxc5, bxc6, bxc7, bxfz⟩ := bx_5
  go_wp2_with fail
  have bp_5 : Blk8 _ _ _ _ _ _ _ _ _ _ := ⟨bplt, bpc0, bpc1, bpc2, bpc3, bpc4, bpc5, bpc6, bpc7, bpfz⟩
  clear bplt bpc0 bpc1 bpc2 bpc3 bpc4 bpc5 bpc6 bpc7 bpfz
  have bx_5 : Blk8 _ _ _ _ _ _ _ _ _ _ := ⟨bxlt, bxc0, bxc1, bxc2, bxc3, bxc4, bxc5, bxc6, bxc7, bxfz⟩
  clear bxlt bxc0 bxc1 bxc2 bxc3 bxc4 bxc5 bxc6 bxc7 bxfz
  have L6 : Below w.heap.size w (w5.alloc (.cells #[.int .i64 z1, .int .i64 z2, .int .i64 z3, .int .i64 z4, .int .i64 z5, .int .i64 z6, .int .i64 z7, .int .i64 z8] 24)) := L5.alloc L5.size _
  have bp_6 := bp_5.alloc #[.int .i64 z1, .int .i64 z2, .int .i64 z3, .int .i64 z4, .int .i64 z5, .int .i64 z6, .int .i64 z7, .int .i64 z8] 24
  clear bp_5
  have bx_6 := bx_5.alloc #[.int .i64 z1, .int .i64 z2, .int .i64 z3, .int .i64 z4, .int .i64 z5, .int .i64 z6, .int .i64 z7, .int .i64 z8] 24
  clear bx_5
  have bz_6 := Blk8.new w5 (.int .i64 z1) (.int .i64 z2) (.int .i64 z3) (.int .i64 z4) (.int .i64 z5) (.int .i64 z6) (.int .i64 z7) (.int .i64 z8) 24
  clear L5
  refine (HR _).mono ?_
  rintro e w7 ⟨rfl, hb⟩
  have L7 := L6.trans (hb.mono L6.size)
  have bp_7 := bp_6.below hb
  clear bp_6
  have bx_7 := bx_6.below hb
  clear bx_6
  have bz_7 := bz_6.below hb
  clear bz_6
  clear hb
  clear L6
  obtain ⟨bplt, bpc0, bpc1, bpc2, bpc3, bpc4, bpc5, bpc6, bpc7, bpfz⟩ := bp_7
  obtain ⟨bxlt, bxc0, bxc1, bxc2, bxc3, bxc4, bxc5, bxc6, bxc7, bxfz⟩ := bx_7
  obtain ⟨bzlt, bzc0, bzc1, bzc2, bzc3, bzc4, bzc5, bzc6, bzc7, bzfz⟩ := bz_7
  go_wp2_with fail
  have bp_7 : Blk8 _ _ _ _ _ _ _ _ _ _ := ⟨bplt, bpc0, bpc1, bpc2, bpc3, bpc4, bpc5, bpc6, bpc7, bpfz⟩
  clear bplt bpc0 bpc1 bpc2 bpc3 bpc4 bpc5 bpc6 bpc7 bpfz
  have bx_7 : Blk8 _ _ _ _ _ _ _ _ _ _ := ⟨bxlt, bxc0, bxc1, bxc2, bxc3, bxc4, bxc5, bxc6, bxc7, bxfz⟩
  clear bxlt bxc0 bxc1 bxc2 bxc3 bxc4 bxc5 bxc6 bxc7 bxfz
  have bz_7 : Blk8 _ _ _ _ _ _ _ _ _ _ := ⟨bzlt, bzc0, bzc1, bzc2, bzc3, bzc4, bzc5, bzc6, bzc7, bzfz⟩
  clear bzlt bzc0 bzc1 bzc2 bzc3 bzc4 bzc5 bzc6 bzc7 bzfz
  refine (HN _).mono ?_
  rintro e w8 ⟨rfl, hb⟩
  have L8 := L7.trans (hb.mono L7.size)
  have bp_8 := bp_7.below hb
  clear bp_7
  have bx_8 := bx_7.below hb
  clear bx_7
  have bz_8 := bz_7.below hb
  clear bz_7
  clear hb
  clear L7
  go_upto_region 8 with fail
  go_cut [12, 13] (fun s12 s13 wc => s13 = .bool true ∧ ∃ B, s12 = .pointer (some ⟨B, 0, none⟩) ∧ Below w.heap.size w wc ∧ Blk8 w.heap.size wc (.int .i64 y) (.int .i64 mo) (.int .i64 d) (.int .i64 hh) (.int .i64 mi) (.int .i64 s) (.int .i64 wd) (.int .i64 yd) ∧ Blk8 w3.heap.size wc (.int .i64 x1) (.int .i64 x2) (.int .i64 x3) (.int .i64 x4) (.int .i64 x5) (.int .i64 x6) (.int .i64 x7) (.int .i64 x8) ∧ Blk8 w5.heap.size wc (.int .i64 z1) (.int .i64 z2) (.int .i64 z3) (.int .i64 z4) (.int .i64 z5) (.int .i64 z6) (.int .i64 z7) (.int .i64 z8) ∧ Blk8 B wc (.int .i64 x1) (.int .i64 x2) (.int .i64 x3) (.int .i64 x4) (.int .i64 x5) (.int .i64 x6) (.int .i64 x7) (.int .i64 x8))
  case first =>
    by_cases q1 : 1073741824 < n
    · rw [clip_big (by omega)] at HO
      obtain ⟨bplt, bpc0, bpc1, bpc2, bpc3, bpc4, bpc5, bpc6, bpc7, bpfz⟩ := bp_8
      go_wp2_with fail
      have bp_8 : Blk8 _ _ _ _ _ _ _ _ _ _ := ⟨bplt, bpc0, bpc1, bpc2, bpc3, bpc4, bpc5, bpc6, bpc7, bpfz⟩
      clear bplt bpc0 bpc1 bpc2 bpc3 bpc4 bpc5 bpc6 bpc7 bpfz
      refine (HO _).mono ?_
      rintro e w9 ⟨rfl, hb⟩
      have L9 := L8.trans (hb.mono L8.size)
      have bp_9 := bp_8.below hb
      clear bp_8
      have bx_9 := bx_8.below hb
      clear bx_8
      have bz_9 := bz_8.below hb
      clear bz_8
      clear hb
      clear L8
      go_wp2_with fail
      have L10 : Below w.heap.size w (w9.alloc (.cells #[.int .i64 x1, .int .i64 x2, .int .i64 x3, .int .i64 x4, .int .i64 x5, .int .i64 x6, .int .i64 x7, .int .i64 x8] 24)) := L9.alloc L9.size _
      have bp_10 := bp_9.alloc #[.int .i64 x1, .int .i64 x2, .int .i64 x3, .int .i64 x4, .int .i64 x5, .int .i64 x6, .int .i64 x7, .int .i64 x8] 24
      clear bp_9
      have bx_10 := bx_9.alloc #[.int .i64 x1, .int .i64 x2, .int .i64 x3, .int .i64 x4, .int .i64 x5, .int .i64 x6, .int .i64 x7, .int .i64 x8] 24
      clear bx_9
      have bz_10 := bz_9.alloc #[.int .i64 x1, .int .i64 x2, .int .i64 x3, .int .i64 x4, .int .i64 x5, .int .i64 x6, .int .i64 x7, .int .i64 x8] 24
      clear bz_9
      have bd_10 := Blk8.new w9 (.int .i64 x1) (.int .i64 x2) (.int .i64 x3) (.int .i64 x4) (.int .i64 x5) (.int .i64 x6) (.int .i64 x7) (.int .i64 x8) 24
      clear L9
      go_meet
      exact ⟨rfl, _, rfl, L10, bp_10, bx_10, bz_10, bd_10⟩
    · by_cases q2 : n < -1073741824
      · rw [clip_small (by omega)] at HO
        obtain ⟨bplt, bpc0, bpc1, bpc2, bpc3, bpc4, bpc5, bpc6, bpc7, bpfz⟩ := bp_8
        go_wp2_with fail
        have bp_8 : Blk8 _ _ _ _ _ _ _ _ _ _ := ⟨bplt, bpc0, bpc1, bpc2, bpc3, bpc4, bpc5, bpc6, bpc7, bpfz⟩
        clear bplt bpc0 bpc1 bpc2 bpc3 bpc4 bpc5 bpc6 bpc7 bpfz
        refine (HO _).mono ?_
        rintro e w9 ⟨rfl, hb⟩
        have L9 := L8.trans (hb.mono L8.size)
        have bp_9 := bp_8.below hb
        clear bp_8
        have bx_9 := bx_8.below hb
        clear bx_8
        have bz_9 := bz_8.below hb
        clear bz_8
        clear hb
        clear L8
        go_wp2_with fail
        have L10 : Below w.heap.size w (w9.alloc (.cells #[.int .i64 x1, .int .i64 x2, .int .i64 x3, .int .i64 x4, .int .i64 x5, .int .i64 x6, .int .i64 x7, .int .i64 x8] 24)) := L9.alloc L9.size _
        have bp_10 := bp_9.alloc #[.int .i64 x1, .int .i64 x2, .int .i64 x3, .int .i64 x4, .int .i64 x5, .int .i64 x6, .int .i64 x7, .int .i64 x8] 24
        clear bp_9
        have bx_10 := bx_9.alloc #[.int .i64 x1, .int .i64 x2, .int .i64 x3, .int .i64 x4, .int .i64 x5, .int .i64 x6, .int .i64 x7, .int .i64 x8] 24
        clear bx_9
        have bz_10 := bz_9.alloc #[.int .i64 x1, .int .i64 x2, .int .i64 x3, .int .i64 x4, .int .i64 x5, .int .i64 x6, .int .i64 x7, .int .i64 x8] 24
        clear bz_9
        have bd_10 := Blk8.new w9 (.int .i64 x1) (.int .i64 x2) (.int .i64 x3) (.int .i64 x4) (.int .i64 x5) (.int .i64 x6) (.int .i64 x7) (.int .i64 x8) 24
        clear L9
        go_meet
        exact ⟨rfl, _, rfl, L10, bp_10, bx_10, bz_10, bd_10⟩
      · rw [clip_mid (by omega) (by omega)] at HO
        obtain ⟨bplt, bpc0, bpc1, bpc2, bpc3, bpc4, bpc5, bpc6, bpc7, bpfz⟩ := bp_8
        go_wp2_with fail
        have bp_8 : Blk8 _ _ _ _ _ _ _ _ _ _ := ⟨bplt, bpc0, bpc1, bpc2, bpc3, bpc4, bpc5, bpc6, bpc7, bpfz⟩
        clear bplt bpc0 bpc1 bpc2 bpc3 bpc4 bpc5 bpc6 bpc7 bpfz
        refine (HO _).mono ?_
        rintro e w9 ⟨rfl, hb⟩
        have L9 := L8.trans (hb.mono L8.size)
        have bp_9 := bp_8.below hb
        clear bp_8
        have bx_9 := bx_8.below hb
        clear bx_8
        have bz_9 := bz_8.below hb
        clear bz_8
        clear hb
        clear L8
        go_wp2_with fail
        have L10 : Below w.heap.size w (w9.alloc (.cells #[.int .i64 x1, .int .i64 x2, .int .i64 x3, .int .i64 x4, .int .i64 x5, .int .i64 x6, .int .i64 x7, .int .i64 x8] 24)) := L9.alloc L9.size _
        have bp_10 := bp_9.alloc #[.int .i64 x1, .int .i64 x2, .int .i64 x3, .int .i64 x4, .int .i64 x5, .int .i64 x6, .int .i64 x7, .int .i64 x8] 24
        clear bp_9
        have bx_10 := bx_9.alloc #[.int .i64 x1, .int .i64 x2, .int .i64 x3, .int .i64 x4, .int .i64 x5, .int .i64 x6, .int .i64 x7, .int .i64 x8] 24
        clear bx_9
        have bz_10 := bz_9.alloc #[.int .i64 x1, .int .i64 x2, .int .i64 x3, .int .i64 x4, .int .i64 x5, .int .i64 x6, .int .i64 x7, .int .i64 x8] 24
        clear bz_9
        have bd_10 := Blk8.new w9 (.int .i64 x1) (.int .i64 x2) (.int .i64 x3) (.int .i64 x4) (.int .i64 x5) (.int .i64 x6) (.int .i64 x7) (.int .i64 x8) 24
        clear L9
        go_meet
        exact ⟨rfl, _, rfl, L10, bp_10, bx_10, bz_10, bd_10⟩
  case rest =>
    clear HO HA HM HR HN L8 bp_8 bx_8 bz_8
    obtain ⟨rfl, B, rfl, L40, bp_40, bx_40, bz_40, bd_40⟩ := hcut
    obtain ⟨bxlt, bxc0, bxc1, bxc2, bxc3, bxc4, bxc5, bxc6, bxc7, bxfz⟩ := bx_40
    obtain ⟨bdlt, bdc0, bdc1, bdc2, bdc3, bdc4, bdc5, bdc6, bdc7, bdfz⟩ := bd_40
    go_upto_region 11 with fail
    have bx_40 : Blk8 _ _ _ _ _ _ _ _ _ _ := ⟨bxlt, bxc0, bxc1, bxc2, bxc3, bxc4, bxc5, bxc6, bxc7, bxfz⟩
    clear bxlt bxc0 bxc1 bxc2 bxc3 bxc4 bxc5 bxc6 bxc7 bxfz
    have bd_40 : Blk8 _ _ _ _ _ _ _ _ _ _ := ⟨bdlt, bdc0, bdc1, bdc2, bdc3, bdc4, bdc5, bdc6, bdc7, bdfz⟩
    clear bdlt bdc0 bdc1 bdc2 bdc3 bdc4 bdc5 bdc6 bdc7 bdfz
    clear bx_40 bd_40
    go_cut [14] (fun s14 wd => s14 = .int .i64 (y * 12 + mo - 1 + clip k) ∧ wd = wc)
    case first =>
      obtain ⟨bplt, bpc0, bpc1, bpc2, bpc3, bpc4, bpc5, bpc6, bpc7, bpfz⟩ := bp_40
      clear cY cM
      by_cases q1 : 1073741824 < k
      · have E := Lib.hid (clip_big (n := k) (by omega))
        clear ck
        go_wp2_with fail
        go_meet
        exact ⟨by rw [E.out], rfl⟩
      · by_cases q2 : k < -1073741824
        · have E := Lib.hid (clip_small (n := k) (by omega))
          clear ck
          go_wp2_with fail
          go_meet
          exact ⟨by rw [E.out], rfl⟩
        · have E := Lib.hid (clip_mid (n := k) (by omega) (by omega))
          clear ck
          go_wp2_with fail
          all_goals
            go_meet
            exact ⟨by rw [E.out], rfl⟩
    case rest =>
      obtain ⟨rfl, rfl⟩ := hcut
      have K1 : -10000000000 ≤ y * 12 + mo - 1 + clip k := by omega
      have K2 : y * 12 + mo - 1 + clip k ≤ 10000000000 := by omega
      generalize y * 12 + mo - 1 + clip k = K at *
      go_upto_region 12 with fail
      go_cut [15, 16] (fun s15 s16 wd => ∃ q r : Int, s15 = .int .i64 q ∧ s16 = .int .i64 r ∧ ((0 ≤ r ∧ q = Y ∧ r = M) ∨ (r < 0 ∧ q - 1 = Y ∧ r + 12 = M)) ∧ wd = wc)
      case first =>
        by_cases q0 : 0 ≤ K
        · have r0 : 0 ≤ K % 12 := by omega
          go_wp2_with fail
          go_meet
          exact ⟨_, _, rfl, rfl, Or.inl ⟨r0, cY.out, cM.out⟩, rfl⟩
        · obtain ⟨f1, f2, b1, b2, b3, b4⟩ := tdm2 K 12 (by omega) (by omega)
          have H1 := Lib.hid f1
          have H2 := Lib.hid f2
          clear f1 f2
          go_wp2_with fail
          go_meet
          refine ⟨_, _, rfl, rfl, ?_, rfl⟩
          by_cases q4 : K.tmod 12 < 0
          · exact Or.inr ⟨q4, (H1.out q4).1.trans cY.out, (H1.out q4).2.trans cM.out⟩
          · exact Or.inl ⟨by omega, (H2.out (by omega)).1.trans cY.out, (H2.out (by omega)).2.trans cM.out⟩
      case rest =>
        obtain ⟨q, r, rfl, rfl, hqr, rfl⟩ := hcut
        clear cY cM K1 K2
        go_upto_if 107 with fail
        go_cut [15, 16] (fun s15 s16 wd => s15 = .int .i64 Y ∧ s16 = .int .i64 M ∧ wd = wc)
        case first =>
          rcases hqr with ⟨r0, rfl, rfl⟩ | ⟨r0, e1, e2⟩
          · go_wp2_with fail
            go_meet
            exact ⟨rfl, rfl, rfl⟩
          · have E1 := Lib.hid e1
            have E2 := Lib.hid e2
            have q1 : -1000000000000 ≤ q := by omega
            have q2 : q ≤ 1000000000001 := by omega
            have q3 : -12 ≤ r := by omega
            clear e1 e2
            go_wp2_with fail
            go_meet
            exact ⟨by rw [← E1.out], by rw [← E2.out], rfl⟩
        case rest =>
          obtain ⟨rfl, rfl, rfl⟩ := hcut
          clear hqr
          go_wp2_with fail
          refine (yrR_yes Y hy hy2 _).mono ?_
          rintro e w' ⟨rfl, rfl⟩
          go_wp2_with fail
          generalize wc = v42 at *
          have pbp0 := fun dr os => cell_regrown bp_40.a0 dr os
          have pbp1 := fun dr os => cell_regrown bp_40.a1 dr os
          have pbp2 := fun dr os => cell_regrown bp_40.a2 dr os
          have pbp3 := fun dr os => cell_regrown bp_40.a3 dr os
          have pbp4 := fun dr os => cell_regrown bp_40.a4 dr os
          have pbp5 := fun dr os => cell_regrown bp_40.a5 dr os
          have pbp6 := fun dr os => cell_regrown bp_40.a6 dr os
          have pbp7 := fun dr os => cell_regrown bp_40.a7 dr os
          refine wp_region_quiet_below (by kernel_rfl) (by kernel_rfl) ?_
          repeat (any_goals (first | go_big_quiet_step ((go_at_call 18; exact Calls.regrown_of (HD _))) | quiet_step ((go_at_call 18; exact Calls.regrown_of (HD _)))))
          refine wpQuiet_nil ?_
          intro _ hw'
          obtain ⟨⟨dq43, osq43⟩, hw''⟩ := hw'
          subst hw''
          clear pbp0 pbp1 pbp2 pbp3 pbp4 pbp5 pbp6 pbp7
          have L43 := L40.trans ((below_regrown v42 dq43 osq43).mono L40.size)
          have bp_43 := bp_40.below (below_regrown v42 dq43 osq43)
          clear bp_40
          have bz_43 := bz_40.below (below_regrown v42 dq43 osq43)
          clear bz_40
          clear L40
          generalize (Go.Sort.grow (redrawn v42 dq43) osq43) = v44 at *
          go_upto_region 18 with fail
          have wr0 := Lib.hid (IntWalk.i64_in (M + 1) (by omega))
          have wr1 := Lib.hid (IntWalk.i64_in (hh * 3600) (by omega))
          have wr2 := Lib.hid (IntWalk.i64_in (mi * 60) (by omega))
          have wr3 := Lib.hid (IntWalk.i64_in (hh * 3600 + mi * 60) (by omega))
          have wr4 := Lib.hid (IntWalk.i64_in (hh * 3600 + mi * 60 + s) (by omega))
          have WR0 : IntKind.i64.wrap (M + 1) = M + 1 := wr0.out
          have WR1 : IntKind.i64.wrap (hh * 3600) = hh * 3600 := wr1.out
          have WR2 : IntKind.i64.wrap (mi * 60) = mi * 60 := wr2.out
          have WR3 : IntKind.i64.wrap (hh * 3600 + mi * 60) = hh * 3600 + mi * 60 := wr3.out
          have WR4 : IntKind.i64.wrap (hh * 3600 + mi * 60 + s) = hh * 3600 + mi * 60 + s := wr4.out
          generalize v44 = v45 at *
          have bp0 := bp_43
          have bz0 := bz_43
          obtain ⟨qlt, q0, q1, q2, q3, q4, q5, q6, q7, qf⟩ := bp_43
          have ne0bp := Nat.ne_of_lt bp0.lt
          have ne0bp' := ne0bp.symm
          have ne0bz := Nat.ne_of_lt bz0.lt
          have ne0bz' := ne0bz.symm
          go_region_held3 (fun w' => w'.cell? ⟨w.heap.size, 3, none⟩ = some (.int .i64 hh) ∧ w'.cell? ⟨w.heap.size, 4, none⟩ = some (.int .i64 mi) ∧ w'.cell? ⟨w.heap.size, 5, none⟩ = some (.int .i64 s)) (first | (with_reducible exact ⟨x23, x24, x25⟩) | (with_reducible exact ⟨x13, x14, x15⟩) | (with_reducible exact ⟨q3, q4, q5⟩) | (refine ⟨?_, ?_, ?_⟩ <;> (repeat rw [World.cell?_setCell_far _ _ _ _ (by first | exact ne0bp | exact ne0bp' | exact ne1bp | exact ne1bp' | exact ne2bp | exact ne2bp')]) <;> with_reducible assumption) | go_keep) ((first | (go_at_call 21; refine (HN2 _).mono ?_; rintro e ws1 ⟨rfl, hb1⟩; have bp1 : Blk8 w.heap.size ws1 (.int .i64 y) (.int .i64 mo) (.int .i64 d) (.int .i64 hh) (.int .i64 mi) (.int .i64 s) (.int .i64 wd) (.int .i64 yd) := (by (refine Blk8.below ?_ hb1); (repeat' (first | (with_reducible assumption) | (with_reducible refine Blk8.alloc ?_ _ _) | (with_reducible refine Blk8.drew ?_) | (with_reducible refine Blk8.drewN ?_ _))); done); have bz1 : Blk8 w5.heap.size ws1 (.int .i64 z1) (.int .i64 z2) (.int .i64 z3) (.int .i64 z4) (.int .i64 z5) (.int .i64 z6) (.int .i64 z7) (.int .i64 z8) := (by (refine Blk8.below ?_ hb1); (repeat' (first | (with_reducible assumption) | (with_reducible refine Blk8.alloc ?_ _ _) | (with_reducible refine Blk8.drew ?_) | (with_reducible refine Blk8.drewN ?_ _))); done); have ne1bp := Nat.ne_of_lt bp1.lt; have ne1bp' := ne1bp.symm; have ne1bz := Nat.ne_of_lt bz1.lt; have ne1bz' := ne1bz.symm; (try (with_reducible have bnv451 : Blk8 v45.heap.size ws1 (.int .i64 0) (.int .i64 0) (.int .i64 0) (.int .i64 0) (.int .i64 0) (.int .i64 0) (.int .i64 0) (.int .i64 0) := Blk8.below (Blk8.new v45 (.int .i64 0) (.int .i64 0) (.int .i64 0) (.int .i64 0) (.int .i64 0) (.int .i64 0) (.int .i64 0) (.int .i64 0) 24) hb1)); (try (with_reducible have bnv451 : Blk8 v45.heap.size ws1 (.int .i64 0) (.int .i64 0) (.int .i64 0) (.int .i64 0) (.int .i64 0) (.int .i64 0) (.int .i64 0) (.int .i64 0) := Blk8.below (Blk8.drew (Blk8.new v45 (.int .i64 0) (.int .i64 0) (.int .i64 0) (.int .i64 0) (.int .i64 0) (.int .i64 0) (.int .i64 0) (.int .i64 0) 24)) hb1)); (try (have bnv451 : Blk8 v45.heap.size ws1 (.int .i64 0) (.int .i64 0) (.int .i64 0) (.int .i64 0) (.int .i64 0) (.int .i64 0) (.int .i64 0) (.int .i64 0) := Blk8.below (Blk8.new v45.drew (.int .i64 0) (.int .i64 0) (.int .i64 0) (.int .i64 0) (.int .i64 0) (.int .i64 0) (.int .i64 0) (.int .i64 0) 24) hb1)); obtain ⟨x1lt, x10, x11, x12, x13, x14, x15, x16, x17, x1f⟩ := bp1; have bp1 : Blk8 _ _ _ _ _ _ _ _ _ _ := ⟨x1lt, x10, x11, x12, x13, x14, x15, x16, x17, x1f⟩) | (go_at_call 14; refine (HO2 _).mono ?_; rintro e ws2 ⟨rfl, hb2⟩; have bp2 : Blk8 w.heap.size ws2 (.int .i64 y) (.int .i64 mo) (.int .i64 d) (.int .i64 hh) (.int .i64 mi) (.int .i64 s) (.int .i64 wd) (.int .i64 yd) := (by (refine Blk8.below ?_ hb2); (repeat' (first | (with_reducible assumption) | (with_reducible refine Blk8.alloc ?_ _ _) | (with_reducible refine Blk8.drew ?_) | (with_reducible refine Blk8.drewN ?_ _))); done); have bz2 : Blk8 w5.heap.size ws2 (.int .i64 z1) (.int .i64 z2) (.int .i64 z3) (.int .i64 z4) (.int .i64 z5) (.int .i64 z6) (.int .i64 z7) (.int .i64 z8) := (by (refine Blk8.below ?_ hb2); (repeat' (first | (with_reducible assumption) | (with_reducible refine Blk8.alloc ?_ _ _) | (with_reducible refine Blk8.drew ?_) | (with_reducible refine Blk8.drewN ?_ _))); done); have ne2bp := Nat.ne_of_lt bp2.lt; have ne2bp' := ne2bp.symm; have ne2bz := Nat.ne_of_lt bz2.lt; have ne2bz' := ne2bz.symm; (try (with_reducible have bnv452 : Blk8 v45.heap.size ws2 (.int .i64 0) (.int .i64 0) (.int .i64 0) (.int .i64 0) (.int .i64 0) (.int .i64 0) (.int .i64 0) (.int .i64 0) := Blk8.below bnv451 hb2)); (try (with_reducible have bnv452 : Blk8 v45.heap.size ws2 (.int .i64 0) (.int .i64 0) (.int .i64 0) (.int .i64 0) (.int .i64 0) (.int .i64 0) (.int .i64 0) (.int .i64 0) := Blk8.below (Blk8.drew bnv451) hb2)); (try (with_reducible have bnws12 : Blk8 ws1.heap.size ws2 (.int .i64 0) (.int .i64 0) (.int .i64 0) (.int .i64 0) (.int .i64 0) (.int .i64 0) (.int .i64 0) (.int .i64 0) := Blk8.below (Blk8.new ws1 (.int .i64 0) (.int .i64 0) (.int .i64 0) (.int .i64 0) (.int .i64 0) (.int .i64 0) (.int .i64 0) (.int .i64 0) 24) hb2)); (try (with_reducible have bnws12 : Blk8 ws1.heap.size ws2 (.int .i64 0) (.int .i64 0) (.int .i64 0) (.int .i64 0) (.int .i64 0) (.int .i64 0) (.int .i64 0) (.int .i64 0) := Blk8.below (Blk8.drew (Blk8.new ws1 (.int .i64 0) (.int .i64 0) (.int .i64 0) (.int .i64 0) (.int .i64 0) (.int .i64 0) (.int .i64 0) (.int .i64 0) 24)) hb2)); (try (have bnws12 : Blk8 ws1.heap.size ws2 (.int .i64 0) (.int .i64 0) (.int .i64 0) (.int .i64 0) (.int .i64 0) (.int .i64 0) (.int .i64 0) (.int .i64 0) := Blk8.below (Blk8.new ws1.drew (.int .i64 0) (.int .i64 0) (.int .i64 0) (.int .i64 0) (.int .i64 0) (.int .i64 0) (.int .i64 0) (.int .i64 0) 24) hb2)); obtain ⟨x2lt, x20, x21, x22, x23, x24, x25, x26, x27, x2f⟩ := bp2; have bp2 : Blk8 _ _ _ _ _ _ _ _ _ _ := ⟨x2lt, x20, x21, x22, x23, x24, x25, x26, x27, x2f⟩; (try (obtain ⟨v45zl, v45z0, v45z1, v45z2, v45z3, v45z4, v45z5, v45z6, v45z7, v45zf⟩ := bnv452)); (try (obtain ⟨ws1zl, ws1z0, ws1z1, ws1z2, ws1z3, ws1z4, ws1z5, ws1z6, ws1z7, ws1zf⟩ := bnws12)); obtain ⟨bzylt, bzy0, bzy1, bzy2, bzy3, bzy4, bzy5, bzy6, bzy7, bzyf⟩ := bz2)))
          all_goals
            clear WR0 WR1 WR2 WR3 WR4
            go_wp2_with fail
            go_ret
            exact ⟨rfl, by (repeat' (first | (with_reducible exact L43) | (with_reducible refine Below.setCell ?_ ?_ _) | (with_reducible refine Below.alloc ?_ ?_ _) | (with_reducible refine blw_drew ?_) | (with_reducible refine blw_drewN ?_ _) | (with_reducible refine Below.trans ?_ (hb2.mono ?_)) | (with_reducible refine Below.trans ?_ (hb1.mono ?_)) | omega | (simp; omega)))⟩
end Go.Proofs.Ytafoodfbjebdcaa
