/-
  CivilWeek's walk: the law returns true for every civil and numbers. Conditions: each number fits its kind.
-/
import Derived.Test.YtafoodfbjebdcaaV
import Derived.Test.YtafoodfbjebdcaaR
import Derived.WalkKit
import Derived.ProofKit
import Derived.OpenShut
import Derived.Deep.QuietTactic
import Derived.BigQuiet
import Derived.Lib.Hide
import Derived.WalkLawsBesides
import Derived.Lib.QuietBelow
namespace Go.Proofs.Ytafoodfbjebdcaa
namespace CivT
theorem bw_at (y f l : Int) (_l1 : 1 ≤ l) (_l7 : l ≤ 7) : Cal.num y 1 1 + l - 7 ≤ bw y f l ∧ bw y f l ≤ Cal.num y 1 1 + l - 1 ∧ (bw y f l + 4 - f) % 7 = 0 := by
  unfold bw past; split <;> omega
theorem num_succ (y : Int) : Cal.num y 1 1 + 365 ≤ Cal.num (y + 1) 1 1 ∧ Cal.num (y + 1) 1 1 ≤ Cal.num y 1 1 + 366 := by
  rw [num_one, num_one, Cal.fst_succ]; split <;> omega
theorem num_mono {y z : Int} (h : y < z) : Cal.num y 1 1 + 365 ≤ Cal.num z 1 1 := by
  have a := num_succ y
  have b := Cal.fst_mono (show y + 1 ≤ z by omega)
  rw [num_one] at *; rw [num_one] at *; omega
theorem bw_succ (y f l : Int) (l1 : 1 ≤ l) (l7 : l ≤ 7) : bw (y + 1) f l = bw y f l + 364 ∨ bw (y + 1) f l = bw y f l + 371 := by
  have a := bw_at y f l l1 l7
  have b := bw_at (y + 1) f l l1 l7
  have c := num_succ y
  omega
theorem bw_mono {y z : Int} (f l : Int) (l1 : 1 ≤ l) (l7 : l ≤ 7) (h : y < z) : bw y f l < bw z f l := by
  have a := bw_at y f l l1 l7
  have b := bw_at z f l l1 l7
  have c := num_mono h
  omega
def IsW (n f l U : Int) : Prop := bw U f l ≤ n ∧ n < bw (U + 1) f l
theorem isW_inj {n f l U V : Int} (l1 : 1 ≤ l) (l7 : l ≤ 7) (h : IsW n f l U) (g : IsW n f l V) : U = V := by
  obtain ⟨h1, h2⟩ := h
  obtain ⟨g1, g2⟩ := g
  rcases Int.lt_trichotomy U V with c | c | c
  · rcases (by omega : U + 1 = V ∨ U + 1 < V) with e | e
    · subst e; omega
    · have := bw_mono f l l1 l7 e; omega
  · exact c
  · rcases (by omega : V + 1 = U ∨ V + 1 < U) with e | e
    · subst e; omega
    · have := bw_mono f l l1 l7 e; omega
theorem wk_isW (n f l : Int) (l1 : 1 ≤ l) (l7 : l ≤ 7) : IsW n f l (wkY (Cal.Year n) n f l) := by
  have k := Cal.num_in (Cal.told_ok n).1
  rw [(Cal.told_ok n).2] at k
  have n0 := num_one (Cal.Year n)
  have n1 := num_one (Cal.Year n + 1)
  have s0 := num_succ (Cal.Year n - 1)
  have s2 := num_succ (Cal.Year n + 1)
  have b0 := bw_at (Cal.Year n - 1) f l l1 l7
  have b2 := bw_at (Cal.Year n + 1 + 1) f l l1 l7
  rw [show Cal.Year n - 1 + 1 = Cal.Year n by omega] at s0
  unfold wkY IsW
  split
  · exact ⟨by assumption, by omega⟩
  · split
    · exact ⟨by assumption, by omega⟩
    · rw [show Cal.Year n - 1 + 1 = Cal.Year n by omega]; exact ⟨by omega, by omega⟩
theorem wk_eq {n f l U : Int} (l1 : 1 ≤ l) (l7 : l ≤ 7) (h : IsW n f l U) : wkY (Cal.Year n) n f l = U ∧ wkW (Cal.Year n) n f l = (n - bw U f l) / 7 + 1 := by
  have e := isW_inj l1 l7 (wk_isW n f l l1 l7) h
  unfold wkW
  rw [e]; exact ⟨rfl, rfl⟩
/-- a week later, and a day later -/
theorem week_next (n f l : Int) (l1 : 1 ≤ l) (l7 : l ≤ 7) (f0 : 0 ≤ f) (f6 : f ≤ 6) :
    let U := wkY (Cal.Year n) n f l
    let V := wkW (Cal.Year n) n f l
    let Z := wkY (Cal.Year (n + 7)) (n + 7) f l
    let W := wkW (Cal.Year (n + 7)) (n + 7) f l
    let A := wkY (Cal.Year (n + 1)) (n + 1) f l
    let B := wkW (Cal.Year (n + 1)) (n + 1) f l
    1 ≤ V ∧ V ≤ 53 ∧ ((Z = U ∧ W = V + 1) ∨ (Z = U + 1 ∧ W = 1 ∧ 52 ≤ V)) ∧ (((n + 1 + 4) % 7 = f ∧ A = Z ∧ B = W) ∨ ((n + 1 + 4) % 7 ≠ f ∧ A = U ∧ B = V)) := by
  intro U V Z W A B
  have hU := wk_isW n f l l1 l7
  obtain ⟨_, hV⟩ := wk_eq l1 l7 hU
  change IsW n f l U at hU
  change V = (n - bw U f l) / 7 + 1 at hV
  obtain ⟨u1, u2⟩ := hU
  have s := bw_succ U f l l1 l7
  have s' := bw_succ (U + 1) f l l1 l7
  have c := (bw_at U f l l1 l7).2.2
  have c' := (bw_at (U + 1) f l l1 l7).2.2
  have z : (n + 7 < bw (U + 1) f l ∧ Z = U ∧ W = (n + 7 - bw U f l) / 7 + 1) ∨ (bw (U + 1) f l ≤ n + 7 ∧ Z = U + 1 ∧ W = (n + 7 - bw (U + 1) f l) / 7 + 1) := by
    by_cases q : n + 7 < bw (U + 1) f l
    · exact Or.inl ⟨q, wk_eq l1 l7 ⟨by omega, q⟩⟩
    · exact Or.inr ⟨by omega, wk_eq l1 l7 ⟨by omega, by omega⟩⟩
  have o : (n + 1 < bw (U + 1) f l ∧ A = U ∧ B = (n + 1 - bw U f l) / 7 + 1) ∨ (bw (U + 1) f l ≤ n + 1 ∧ A = U + 1 ∧ B = (n + 1 - bw (U + 1) f l) / 7 + 1) := by
    by_cases q : n + 1 < bw (U + 1) f l
    · exact Or.inl ⟨q, wk_eq l1 l7 ⟨by omega, q⟩⟩
    · exact Or.inr ⟨by omega, wk_eq l1 l7 ⟨by omega, by omega⟩⟩
  clear_value U V Z W A B
  generalize bw (U + 1 + 1) f l = b2 at *
  generalize bw (U + 1) f l = b1 at *
  generalize bw U f l = b0 at *
  refine ⟨by omega, by omega, by omega, by omega⟩
end CivT
open Go.ChangeShapes Go.WideShapes Go.ChangeAt Go.RowKit
set_option maxHeartbeats 1000000 in
theorem CivilWeek_no (y mo d h mi s wd yd f l : Int) (HW : (∀ w : World, Calls Try.prog 28 #[CV y mo d h mi s wd yd, .int .i64 f, .int .i64 l] w fun e w' => e = .returned (.tuple #[.int .i64 0, .int .i64 0, .int .i64 2]) ∧ Below w.heap.size w w')) (w : World) :
    Calls Try.prog 10 #[CV y mo d h mi s wd yd, .int .i64 f, .int .i64 l] w fun e w' => e = .returned (.bool true) ∧ Below w.heap.size w w' := by
  unfold CV at *
  go_enter Try.func10, Try.ntmps10
  have L0 : Below w.heap.size w w := Below.refl _ _
  go_wp2_with fail
  have L1 : Below w.heap.size w (w.alloc (.cells #[.int .i64 y, .int .i64 mo, .int .i64 d, .int .i64 h, .int .i64 mi, .int .i64 s, .int .i64 wd, .int .i64 yd] 24)) := L0.alloc L0.size _
  have bp_1 := Blk8.new w (.int .i64 y) (.int .i64 mo) (.int .i64 d) (.int .i64 h) (.int .i64 mi) (.int .i64 s) (.int .i64 wd) (.int .i64 yd) 24
  clear L0
  refine (wakes_any _).mono ?_
  rintro e w2 ⟨rfl, hb⟩
  have L2 := L1.trans (hb.mono L1.size)
  have bp_2 := bp_1.below hb
  clear bp_1
  clear hb
  clear L1
  obtain ⟨bplt, bpc0, bpc1, bpc2, bpc3, bpc4, bpc5, bpc6, bpc7, bpfz⟩ := bp_2
  go_wp2_with fail
  have bp_2 : Blk8 _ _ _ _ _ _ _ _ _ _ := ⟨bplt, bpc0, bpc1, bpc2, bpc3, bpc4, bpc5, bpc6, bpc7, bpfz⟩
  clear bplt bpc0 bpc1 bpc2 bpc3 bpc4 bpc5 bpc6 bpc7 bpfz
  refine (HW _).mono ?_
  rintro e w3 ⟨rfl, hb⟩
  have L3 := L2.trans (hb.mono L2.size)
  have bp_3 := bp_2.below hb
  clear bp_2
  clear hb
  clear L2
  obtain ⟨bplt, bpc0, bpc1, bpc2, bpc3, bpc4, bpc5, bpc6, bpc7, bpfz⟩ := bp_3
  go_wp2_with fail
  have bp_3 : Blk8 _ _ _ _ _ _ _ _ _ _ := ⟨bplt, bpc0, bpc1, bpc2, bpc3, bpc4, bpc5, bpc6, bpc7, bpfz⟩
  clear bplt bpc0 bpc1 bpc2 bpc3 bpc4 bpc5 bpc6 bpc7 bpfz
  go_ret
  exact ⟨rfl, L3⟩
set_option maxHeartbeats 1000000 in
theorem CivilWeek_out (y mo d h mi s wd yd f l : Int) (U V : Int) (v1 : 1 ≤ V) (v2 : V ≤ 53) (u1 : y - 1 ≤ U) (u2 : U ≤ y + 1) (y1 : -9999 ≤ y) (y2 : y ≤ 9999) (HW : (∀ w : World, Calls Try.prog 28 #[CV y mo d h mi s wd yd, .int .i64 f, .int .i64 l] w fun e w' => e = .returned (.tuple #[.int .i64 U, .int .i64 V, .int .i64 0]) ∧ Below w.heap.size w w')) (HA : (∀ w : World, Calls Try.prog 25 #[CV y mo d h mi s wd yd, .int .i64 7] w fun e w' => e = .returned (.tuple #[civ0, .int .i64 7]) ∧ Below w.heap.size w w')) (w : World) :
    Calls Try.prog 10 #[CV y mo d h mi s wd yd, .int .i64 f, .int .i64 l] w fun e w' => e = .returned (.bool true) ∧ Below w.heap.size w w' := by
  unfold CV civ0 at *
  go_enter Try.func10, Try.ntmps10
  have L0 : Below w.heap.size w w := Below.refl _ _
  go_wp2_with fail
  have L1 : Below w.heap.size w (w.alloc (.cells #[.int .i64 y, .int .i64 mo, .int .i64 d, .int .i64 h, .int .i64 mi, .int .i64 s, .int .i64 wd, .int .i64 yd] 24)) := L0.alloc L0.size _
  have bp_1 := Blk8.new w (.int .i64 y) (.int .i64 mo) (.int .i64 d) (.int .i64 h) (.int .i64 mi) (.int .i64 s) (.int .i64 wd) (.int .i64 yd) 24
  clear L0
  refine (wakes_any _).mono ?_
  rintro e w2 ⟨rfl, hb⟩
  have L2 := L1.trans (hb.mono L1.size)
  have bp_2 := bp_1.below hb
  clear bp_1
  clear hb
  clear L1
  obtain ⟨bplt, bpc0, bpc1, bpc2, bpc3, bpc4, bpc5, bpc6, bpc7, bpfz⟩ := bp_2
  go_wp2_with fail
  have bp_2 : Blk8 _ _ _ _ _ _ _ _ _ _ := ⟨bplt, bpc0, bpc1, bpc2, bpc3, bpc4, bpc5, bpc6, bpc7, bpfz⟩
  clear bplt bpc0 bpc1 bpc2 bpc3 bpc4 bpc5 bpc6 bpc7 bpfz
  refine (HW _).mono ?_
  rintro e w3 ⟨rfl, hb⟩
  have L3 := L2.trans (hb.mono L2.size)
  have bp_3 := bp_2.below hb
  clear bp_2
  clear hb
  clear L2
  obtain ⟨bplt, bpc0, bpc1, bpc2, bpc3, bpc4, bpc5, bpc6, bpc7, bpfz⟩ := bp_3
  go_wp2_with fail
  have bp_3 : Blk8 _ _ _ _ _ _ _ _ _ _ := ⟨bplt, bpc0, bpc1, bpc2, bpc3, bpc4, bpc5, bpc6, bpc7, bpfz⟩
  clear bplt bpc0 bpc1 bpc2 bpc3 bpc4 bpc5 bpc6 bpc7 bpfz
  refine (HA _).mono ?_
  rintro e w4 ⟨rfl, hb⟩
  have L4 := L3.trans (hb.mono L3.size)
  have bp_4 := bp_3.below hb
  clear bp_3
  clear hb
  clear L3
  obtain ⟨bplt, bpc0, bpc1, bpc2, bpc3, bpc4, bpc5, bpc6, bpc7, bpfz⟩ := bp_4
  go_wp2_with fail
  have bp_4 : Blk8 _ _ _ _ _ _ _ _ _ _ := ⟨bplt, bpc0, bpc1, bpc2, bpc3, bpc4, bpc5, bpc6, bpc7, bpfz⟩
  clear bplt bpc0 bpc1 bpc2 bpc3 bpc4 bpc5 bpc6 bpc7 bpfz
  go_ret
  exact ⟨rfl, L4.alloc L4.size _⟩
set_option maxHeartbeats 1000000 in
theorem CivilWeek_same_day (y mo d h mi s wd yd f l : Int) (U V : Int) (v1 : 1 ≤ V) (v2 : V ≤ 53) (u1 : y - 1 ≤ U) (u2 : U ≤ y + 1) (y1 : -9999 ≤ y) (y2 : y ≤ 9999) (HW : (∀ w : World, Calls Try.prog 28 #[CV y mo d h mi s wd yd, .int .i64 f, .int .i64 l] w fun e w' => e = .returned (.tuple #[.int .i64 U, .int .i64 V, .int .i64 0]) ∧ Below w.heap.size w w')) (a1 a2 a3 a4 a5 a6 a7 a8 : Int) (HA : (∀ w : World, Calls Try.prog 25 #[CV y mo d h mi s wd yd, .int .i64 7] w fun e w' => e = .returned (.tuple #[CV a1 a2 a3 a4 a5 a6 a7 a8, .int .i64 0]) ∧ Below w.heap.size w w')) (HZ : (∀ w : World, Calls Try.prog 28 #[CV a1 a2 a3 a4 a5 a6 a7 a8, .int .i64 f, .int .i64 l] w fun e w' => e = .returned (.tuple #[.int .i64 (U), .int .i64 (V + 1), .int .i64 0]) ∧ Below w.heap.size w w')) (o1 o2 o3 o4 o5 o6 o7 o8 : Int) (ho : (o7 == f) = true) (HO : (∀ w : World, Calls Try.prog 25 #[CV y mo d h mi s wd yd, .int .i64 1] w fun e w' => e = .returned (.tuple #[CV o1 o2 o3 o4 o5 o6 o7 o8, .int .i64 0]) ∧ Below w.heap.size w w')) (HB : (∀ w : World, Calls Try.prog 28 #[CV o1 o2 o3 o4 o5 o6 o7 o8, .int .i64 f, .int .i64 l] w fun e w' => e = .returned (.tuple #[.int .i64 (U), .int .i64 (V + 1), .int .i64 0]) ∧ Below w.heap.size w w')) (w : World) :
    Calls Try.prog 10 #[CV y mo d h mi s wd yd, .int .i64 f, .int .i64 l] w fun e w' => e = .returned (.bool true) ∧ Below w.heap.size w w' := by
  unfold CV at *
  go_enter Try.func10, Try.ntmps10
  have L0 : Below w.heap.size w w := Below.refl _ _
  go_wp2_with fail
  have L1 : Below w.heap.size w (w.alloc (.cells #[.int .i64 y, .int .i64 mo, .int .i64 d, .int .i64 h, .int .i64 mi, .int .i64 s, .int .i64 wd, .int .i64 yd] 24)) := L0.alloc L0.size _
  have bp_1 := Blk8.new w (.int .i64 y) (.int .i64 mo) (.int .i64 d) (.int .i64 h) (.int .i64 mi) (.int .i64 s) (.int .i64 wd) (.int .i64 yd) 24
  clear L0
  refine (wakes_any _).mono ?_
  rintro e w2 ⟨rfl, hb⟩
  have L2 := L1.trans (hb.mono L1.size)
  have bp_2 := bp_1.below hb
  clear bp_1
  clear hb
  clear L1
  obtain ⟨bplt, bpc0, bpc1, bpc2, bpc3, bpc4, bpc5, bpc6, bpc7, bpfz⟩ := bp_2
  go_wp2_with fail
  have bp_2 : Blk8 _ _ _ _ _ _ _ _ _ _ := ⟨bplt, bpc0, bpc1, bpc2, bpc3, bpc4, bpc5, bpc6, bpc7, bpfz⟩
  clear bplt bpc0 bpc1 bpc2 bpc3 bpc4 bpc5 bpc6 bpc7 bpfz
  refine (HW _).mono ?_
  rintro e w3 ⟨rfl, hb⟩
  have L3 := L2.trans (hb.mono L2.size)
  have bp_3 := bp_2.below hb
  clear bp_2
  clear hb
  clear L2
  obtain ⟨bplt, bpc0, bpc1, bpc2, bpc3, bpc4, bpc5, bpc6, bpc7, bpfz⟩ := bp_3
  go_wp2_with fail
  have bp_3 : Blk8 _ _ _ _ _ _ _ _ _ _ := ⟨bplt, bpc0, bpc1, bpc2, bpc3, bpc4, bpc5, bpc6, bpc7, bpfz⟩
  clear bplt bpc0 bpc1 bpc2 bpc3 bpc4 bpc5 bpc6 bpc7 bpfz
  refine (HA _).mono ?_
  rintro e w4 ⟨rfl, hb⟩
  have L4 := L3.trans (hb.mono L3.size)
  have bp_4 := bp_3.below hb
  clear bp_3
  clear hb
  clear L3
  obtain ⟨bplt, bpc0, bpc1, bpc2, bpc3, bpc4, bpc5, bpc6, bpc7, bpfz⟩ := bp_4
  go_wp2_with fail
  have bp_4 : Blk8 _ _ _ _ _ _ _ _ _ _ := ⟨bplt, bpc0, bpc1, bpc2, bpc3, bpc4, bpc5, bpc6, bpc7, bpfz⟩
  clear bplt bpc0 bpc1 bpc2 bpc3 bpc4 bpc5 bpc6 bpc7 bpfz
  have L5 : Below w.heap.size w (w4.alloc (.cells #[.int .i64 a1, .int .i64 a2, .int .i64 a3, .int .i64 a4, .int .i64 a5, .int .i64 a6, .int .i64 a7, .int .i64 a8] 24)) := L4.alloc L4.size _
  have bp_5 := bp_4.alloc #[.int .i64 a1, .int .i64 a2, .int .i64 a3, .int .i64 a4, .int .i64 a5, .int .i64 a6, .int .i64 a7, .int .i64 a8] 24
  clear bp_4
  have ba_5 := Blk8.new w4 (.int .i64 a1) (.int .i64 a2) (.int .i64 a3) (.int .i64 a4) (.int .i64 a5) (.int .i64 a6) (.int .i64 a7) (.int .i64 a8) 24
  clear L4
  refine (HZ _).mono ?_
  rintro e w6 ⟨rfl, hb⟩
  have L6 := L5.trans (hb.mono L5.size)
  have bp_6 := bp_5.below hb
  clear bp_5
  have ba_6 := ba_5.below hb
  clear ba_5
  clear hb
  clear L5
  obtain ⟨bplt, bpc0, bpc1, bpc2, bpc3, bpc4, bpc5, bpc6, bpc7, bpfz⟩ := bp_6
  obtain ⟨balt, bac0, bac1, bac2, bac3, bac4, bac5, bac6, bac7, bafz⟩ := ba_6
  go_wp2_with fail
  have bp_6 : Blk8 _ _ _ _ _ _ _ _ _ _ := ⟨bplt, bpc0, bpc1, bpc2, bpc3, bpc4, bpc5, bpc6, bpc7, bpfz⟩
  clear bplt bpc0 bpc1 bpc2 bpc3 bpc4 bpc5 bpc6 bpc7 bpfz
  have ba_6 : Blk8 _ _ _ _ _ _ _ _ _ _ := ⟨balt, bac0, bac1, bac2, bac3, bac4, bac5, bac6, bac7, bafz⟩
  clear balt bac0 bac1 bac2 bac3 bac4 bac5 bac6 bac7 bafz
  refine (HO _).mono ?_
  rintro e w7 ⟨rfl, hb⟩
  have L7 := L6.trans (hb.mono L6.size)
  have bp_7 := bp_6.below hb
  clear bp_6
  have ba_7 := ba_6.below hb
  clear ba_6
  clear hb
  clear L6
  obtain ⟨bplt, bpc0, bpc1, bpc2, bpc3, bpc4, bpc5, bpc6, bpc7, bpfz⟩ := bp_7
  go_wp2_with fail
  have bp_7 : Blk8 _ _ _ _ _ _ _ _ _ _ := ⟨bplt, bpc0, bpc1, bpc2, bpc3, bpc4, bpc5, bpc6, bpc7, bpfz⟩
  clear bplt bpc0 bpc1 bpc2 bpc3 bpc4 bpc5 bpc6 bpc7 bpfz
  have L8 : Below w.heap.size w (w7.alloc (.cells #[.int .i64 o1, .int .i64 o2, .int .i64 o3, .int .i64 o4, .int .i64 o5, .int .i64 o6, .int .i64 o7, .int .i64 o8] 24)) := L7.alloc L7.size _
  have bp_8 := bp_7.alloc #[.int .i64 o1, .int .i64 o2, .int .i64 o3, .int .i64 o4, .int .i64 o5, .int .i64 o6, .int .i64 o7, .int .i64 o8] 24
  clear bp_7
  have ba_8 := ba_7.alloc #[.int .i64 o1, .int .i64 o2, .int .i64 o3, .int .i64 o4, .int .i64 o5, .int .i64 o6, .int .i64 o7, .int .i64 o8] 24
  clear ba_7
  have bo_8 := Blk8.new w7 (.int .i64 o1) (.int .i64 o2) (.int .i64 o3) (.int .i64 o4) (.int .i64 o5) (.int .i64 o6) (.int .i64 o7) (.int .i64 o8) 24
  clear L7
  refine (HB _).mono ?_
  rintro e w9 ⟨rfl, hb⟩
  have L9 := L8.trans (hb.mono L8.size)
  have bp_9 := bp_8.below hb
  clear bp_8
  have ba_9 := ba_8.below hb
  clear ba_8
  have bo_9 := bo_8.below hb
  clear bo_8
  clear hb
  clear L8
  obtain ⟨bolt, boc0, boc1, boc2, boc3, boc4, boc5, boc6, boc7, bofz⟩ := bo_9
  go_wp2_with fail
  have bo_9 : Blk8 _ _ _ _ _ _ _ _ _ _ := ⟨bolt, boc0, boc1, boc2, boc3, boc4, boc5, boc6, boc7, bofz⟩
  clear bolt boc0 boc1 boc2 boc3 boc4 boc5 boc6 boc7 bofz
  go_ret
  exact ⟨rfl, L9⟩
set_option maxHeartbeats 1000000 in
theorem CivilWeek_same_mid (y mo d h mi s wd yd f l : Int) (U V : Int) (v1 : 1 ≤ V) (v2 : V ≤ 53) (u1 : y - 1 ≤ U) (u2 : U ≤ y + 1) (y1 : -9999 ≤ y) (y2 : y ≤ 9999) (HW : (∀ w : World, Calls Try.prog 28 #[CV y mo d h mi s wd yd, .int .i64 f, .int .i64 l] w fun e w' => e = .returned (.tuple #[.int .i64 U, .int .i64 V, .int .i64 0]) ∧ Below w.heap.size w w')) (a1 a2 a3 a4 a5 a6 a7 a8 : Int) (HA : (∀ w : World, Calls Try.prog 25 #[CV y mo d h mi s wd yd, .int .i64 7] w fun e w' => e = .returned (.tuple #[CV a1 a2 a3 a4 a5 a6 a7 a8, .int .i64 0]) ∧ Below w.heap.size w w')) (HZ : (∀ w : World, Calls Try.prog 28 #[CV a1 a2 a3 a4 a5 a6 a7 a8, .int .i64 f, .int .i64 l] w fun e w' => e = .returned (.tuple #[.int .i64 (U), .int .i64 (V + 1), .int .i64 0]) ∧ Below w.heap.size w w')) (o1 o2 o3 o4 o5 o6 o7 o8 : Int) (ho : (o7 == f) = false) (HO : (∀ w : World, Calls Try.prog 25 #[CV y mo d h mi s wd yd, .int .i64 1] w fun e w' => e = .returned (.tuple #[CV o1 o2 o3 o4 o5 o6 o7 o8, .int .i64 0]) ∧ Below w.heap.size w w')) (HB : (∀ w : World, Calls Try.prog 28 #[CV o1 o2 o3 o4 o5 o6 o7 o8, .int .i64 f, .int .i64 l] w fun e w' => e = .returned (.tuple #[.int .i64 (U), .int .i64 (V), .int .i64 0]) ∧ Below w.heap.size w w')) (w : World) :
    Calls Try.prog 10 #[CV y mo d h mi s wd yd, .int .i64 f, .int .i64 l] w fun e w' => e = .returned (.bool true) ∧ Below w.heap.size w w' := by
  unfold CV at *
  go_enter Try.func10, Try.ntmps10
  have L0 : Below w.heap.size w w := Below.refl _ _
  go_wp2_with fail
  have L1 : Below w.heap.size w (w.alloc (.cells #[.int .i64 y, .int .i64 mo, .int .i64 d, .int .i64 h, .int .i64 mi, .int .i64 s, .int .i64 wd, .int .i64 yd] 24)) := L0.alloc L0.size _
  have bp_1 := Blk8.new w (.int .i64 y) (.int .i64 mo) (.int .i64 d) (.int .i64 h) (.int .i64 mi) (.int .i64 s) (.int .i64 wd) (.int .i64 yd) 24
  clear L0
  refine (wakes_any _).mono ?_
  rintro e w2 ⟨rfl, hb⟩
  have L2 := L1.trans (hb.mono L1.size)
  have bp_2 := bp_1.below hb
  clear bp_1
  clear hb
  clear L1
  obtain ⟨bplt, bpc0, bpc1, bpc2, bpc3, bpc4, bpc5, bpc6, bpc7, bpfz⟩ := bp_2
  go_wp2_with fail
  have bp_2 : Blk8 _ _ _ _ _ _ _ _ _ _ := ⟨bplt, bpc0, bpc1, bpc2, bpc3, bpc4, bpc5, bpc6, bpc7, bpfz⟩
  clear bplt bpc0 bpc1 bpc2 bpc3 bpc4 bpc5 bpc6 bpc7 bpfz
  refine (HW _).mono ?_
  rintro e w3 ⟨rfl, hb⟩
  have L3 := L2.trans (hb.mono L2.size)
  have bp_3 := bp_2.below hb
  clear bp_2
  clear hb
  clear L2
  obtain ⟨bplt, bpc0, bpc1, bpc2, bpc3, bpc4, bpc5, bpc6, bpc7, bpfz⟩ := bp_3
  go_wp2_with fail
  have bp_3 : Blk8 _ _ _ _ _ _ _ _ _ _ := ⟨bplt, bpc0, bpc1, bpc2, bpc3, bpc4, bpc5, bpc6, bpc7, bpfz⟩
  clear bplt bpc0 bpc1 bpc2 bpc3 bpc4 bpc5 bpc6 bpc7 bpfz
  refine (HA _).mono ?_
  rintro e w4 ⟨rfl, hb⟩
  have L4 := L3.trans (hb.mono L3.size)
  have bp_4 := bp_3.below hb
  clear bp_3
  clear hb
  clear L3
  obtain ⟨bplt, bpc0, bpc1, bpc2, bpc3, bpc4, bpc5, bpc6, bpc7, bpfz⟩ := bp_4
  go_wp2_with fail
  have bp_4 : Blk8 _ _ _ _ _ _ _ _ _ _ := ⟨bplt, bpc0, bpc1, bpc2, bpc3, bpc4, bpc5, bpc6, bpc7, bpfz⟩
  clear bplt bpc0 bpc1 bpc2 bpc3 bpc4 bpc5 bpc6 bpc7 bpfz
  have L5 : Below w.heap.size w (w4.alloc (.cells #[.int .i64 a1, .int .i64 a2, .int .i64 a3, .int .i64 a4, .int .i64 a5, .int .i64 a6, .int .i64 a7, .int .i64 a8] 24)) := L4.alloc L4.size _
  have bp_5 := bp_4.alloc #[.int .i64 a1, .int .i64 a2, .int .i64 a3, .int .i64 a4, .int .i64 a5, .int .i64 a6, .int .i64 a7, .int .i64 a8] 24
  clear bp_4
  have ba_5 := Blk8.new w4 (.int .i64 a1) (.int .i64 a2) (.int .i64 a3) (.int .i64 a4) (.int .i64 a5) (.int .i64 a6) (.int .i64 a7) (.int .i64 a8) 24
  clear L4
  refine (HZ _).mono ?_
  rintro e w6 ⟨rfl, hb⟩
  have L6 := L5.trans (hb.mono L5.size)
  have bp_6 := bp_5.below hb
  clear bp_5
  have ba_6 := ba_5.below hb
  clear ba_5
  clear hb
  clear L5
  obtain ⟨bplt, bpc0, bpc1, bpc2, bpc3, bpc4, bpc5, bpc6, bpc7, bpfz⟩ := bp_6
  obtain ⟨balt, bac0, bac1, bac2, bac3, bac4, bac5, bac6, bac7, bafz⟩ := ba_6
  go_wp2_with fail
  have bp_6 : Blk8 _ _ _ _ _ _ _ _ _ _ := ⟨bplt, bpc0, bpc1, bpc2, bpc3, bpc4, bpc5, bpc6, bpc7, bpfz⟩
  clear bplt bpc0 bpc1 bpc2 bpc3 bpc4 bpc5 bpc6 bpc7 bpfz
  have ba_6 : Blk8 _ _ _ _ _ _ _ _ _ _ := ⟨balt, bac0, bac1, bac2, bac3, bac4, bac5, bac6, bac7, bafz⟩
  clear balt bac0 bac1 bac2 bac3 bac4 bac5 bac6 bac7 bafz
  refine (HO _).mono ?_
  rintro e w7 ⟨rfl, hb⟩
  have L7 := L6.trans (hb.mono L6.size)
  have bp_7 := bp_6.below hb
  clear bp_6
  have ba_7 := ba_6.below hb
  clear ba_6
  clear hb
  clear L6
  obtain ⟨bplt, bpc0, bpc1, bpc2, bpc3, bpc4, bpc5, bpc6, bpc7, bpfz⟩ := bp_7
  go_wp2_with fail
  have bp_7 : Blk8 _ _ _ _ _ _ _ _ _ _ := ⟨bplt, bpc0, bpc1, bpc2, bpc3, bpc4, bpc5, bpc6, bpc7, bpfz⟩
  clear bplt bpc0 bpc1 bpc2 bpc3 bpc4 bpc5 bpc6 bpc7 bpfz
  have L8 : Below w.heap.size w (w7.alloc (.cells #[.int .i64 o1, .int .i64 o2, .int .i64 o3, .int .i64 o4, .int .i64 o5, .int .i64 o6, .int .i64 o7, .int .i64 o8] 24)) := L7.alloc L7.size _
  have bp_8 := bp_7.alloc #[.int .i64 o1, .int .i64 o2, .int .i64 o3, .int .i64 o4, .int .i64 o5, .int .i64 o6, .int .i64 o7, .int .i64 o8] 24
  clear bp_7
  have ba_8 := ba_7.alloc #[.int .i64 o1, .int .i64 o2, .int .i64 o3, .int .i64 o4, .int .i64 o5, .int .i64 o6, .int .i64 o7, .int .i64 o8] 24
  clear ba_7
  have bo_8 := Blk8.new w7 (.int .i64 o1) (.int .i64 o2) (.int .i64 o3) (.int .i64 o4) (.int .i64 o5) (.int .i64 o6) (.int .i64 o7) (.int .i64 o8) 24
  clear L7
  refine (HB _).mono ?_
  rintro e w9 ⟨rfl, hb⟩
  have L9 := L8.trans (hb.mono L8.size)
  have bp_9 := bp_8.below hb
  clear bp_8
  have ba_9 := ba_8.below hb
  clear ba_8
  have bo_9 := bo_8.below hb
  clear bo_8
  clear hb
  clear L8
  obtain ⟨bolt, boc0, boc1, boc2, boc3, boc4, boc5, boc6, boc7, bofz⟩ := bo_9
  go_wp2_with fail
  have bo_9 : Blk8 _ _ _ _ _ _ _ _ _ _ := ⟨bolt, boc0, boc1, boc2, boc3, boc4, boc5, boc6, boc7, bofz⟩
  clear bolt boc0 boc1 boc2 boc3 boc4 boc5 boc6 boc7 bofz
  go_ret
  exact ⟨rfl, L9⟩
set_option maxHeartbeats 1000000 in
theorem CivilWeek_next_day (y mo d h mi s wd yd f l : Int) (U V : Int) (v1 : 1 ≤ V) (v2 : V ≤ 53) (u1 : y - 1 ≤ U) (u2 : U ≤ y + 1) (y1 : -9999 ≤ y) (y2 : y ≤ 9999) (HW : (∀ w : World, Calls Try.prog 28 #[CV y mo d h mi s wd yd, .int .i64 f, .int .i64 l] w fun e w' => e = .returned (.tuple #[.int .i64 U, .int .i64 V, .int .i64 0]) ∧ Below w.heap.size w w')) (v3 : 52 ≤ V) (a1 a2 a3 a4 a5 a6 a7 a8 : Int) (HA : (∀ w : World, Calls Try.prog 25 #[CV y mo d h mi s wd yd, .int .i64 7] w fun e w' => e = .returned (.tuple #[CV a1 a2 a3 a4 a5 a6 a7 a8, .int .i64 0]) ∧ Below w.heap.size w w')) (HZ : (∀ w : World, Calls Try.prog 28 #[CV a1 a2 a3 a4 a5 a6 a7 a8, .int .i64 f, .int .i64 l] w fun e w' => e = .returned (.tuple #[.int .i64 (U + 1), .int .i64 (1), .int .i64 0]) ∧ Below w.heap.size w w')) (o1 o2 o3 o4 o5 o6 o7 o8 : Int) (ho : (o7 == f) = true) (HO : (∀ w : World, Calls Try.prog 25 #[CV y mo d h mi s wd yd, .int .i64 1] w fun e w' => e = .returned (.tuple #[CV o1 o2 o3 o4 o5 o6 o7 o8, .int .i64 0]) ∧ Below w.heap.size w w')) (HB : (∀ w : World, Calls Try.prog 28 #[CV o1 o2 o3 o4 o5 o6 o7 o8, .int .i64 f, .int .i64 l] w fun e w' => e = .returned (.tuple #[.int .i64 (U + 1), .int .i64 (1), .int .i64 0]) ∧ Below w.heap.size w w')) (w : World) :
    Calls Try.prog 10 #[CV y mo d h mi s wd yd, .int .i64 f, .int .i64 l] w fun e w' => e = .returned (.bool true) ∧ Below w.heap.size w w' := by
  unfold CV at *
  go_enter Try.func10, Try.ntmps10
  have L0 : Below w.heap.size w w := Below.refl _ _
  go_wp2_with fail
  have L1 : Below w.heap.size w (w.alloc (.cells #[.int .i64 y, .int .i64 mo, .int .i64 d, .int .i64 h, .int .i64 mi, .int .i64 s, .int .i64 wd, .int .i64 yd] 24)) := L0.alloc L0.size _
  have bp_1 := Blk8.new w (.int .i64 y) (.int .i64 mo) (.int .i64 d) (.int .i64 h) (.int .i64 mi) (.int .i64 s) (.int .i64 wd) (.int .i64 yd) 24
  clear L0
  refine (wakes_any _).mono ?_
  rintro e w2 ⟨rfl, hb⟩
  have L2 := L1.trans (hb.mono L1.size)
  have bp_2 := bp_1.below hb
  clear bp_1
  clear hb
  clear L1
  obtain ⟨bplt, bpc0, bpc1, bpc2, bpc3, bpc4, bpc5, bpc6, bpc7, bpfz⟩ := bp_2
  go_wp2_with fail
  have bp_2 : Blk8 _ _ _ _ _ _ _ _ _ _ := ⟨bplt, bpc0, bpc1, bpc2, bpc3, bpc4, bpc5, bpc6, bpc7, bpfz⟩
  clear bplt bpc0 bpc1 bpc2 bpc3 bpc4 bpc5 bpc6 bpc7 bpfz
  refine (HW _).mono ?_
  rintro e w3 ⟨rfl, hb⟩
  have L3 := L2.trans (hb.mono L2.size)
  have bp_3 := bp_2.below hb
  clear bp_2
  clear hb
  clear L2
  obtain ⟨bplt, bpc0, bpc1, bpc2, bpc3, bpc4, bpc5, bpc6, bpc7, bpfz⟩ := bp_3
  go_wp2_with fail
  have bp_3 : Blk8 _ _ _ _ _ _ _ _ _ _ := ⟨bplt, bpc0, bpc1, bpc2, bpc3, bpc4, bpc5, bpc6, bpc7, bpfz⟩
  clear bplt bpc0 bpc1 bpc2 bpc3 bpc4 bpc5 bpc6 bpc7 bpfz
  refine (HA _).mono ?_
  rintro e w4 ⟨rfl, hb⟩
  have L4 := L3.trans (hb.mono L3.size)
  have bp_4 := bp_3.below hb
  clear bp_3
  clear hb
  clear L3
  obtain ⟨bplt, bpc0, bpc1, bpc2, bpc3, bpc4, bpc5, bpc6, bpc7, bpfz⟩ := bp_4
  go_wp2_with fail
  have bp_4 : Blk8 _ _ _ _ _ _ _ _ _ _ := ⟨bplt, bpc0, bpc1, bpc2, bpc3, bpc4, bpc5, bpc6, bpc7, bpfz⟩
  clear bplt bpc0 bpc1 bpc2 bpc3 bpc4 bpc5 bpc6 bpc7 bpfz
  have L5 : Below w.heap.size w (w4.alloc (.cells #[.int .i64 a1, .int .i64 a2, .int .i64 a3, .int .i64 a4, .int .i64 a5, .int .i64 a6, .int .i64 a7, .int .i64 a8] 24)) := L4.alloc L4.size _
  have bp_5 := bp_4.alloc #[.int .i64 a1, .int .i64 a2, .int .i64 a3, .int .i64 a4, .int .i64 a5, .int .i64 a6, .int .i64 a7, .int .i64 a8] 24
  clear bp_4
  have ba_5 := Blk8.new w4 (.int .i64 a1) (.int .i64 a2) (.int .i64 a3) (.int .i64 a4) (.int .i64 a5) (.int .i64 a6) (.int .i64 a7) (.int .i64 a8) 24
  clear L4
  refine (HZ _).mono ?_
  rintro e w6 ⟨rfl, hb⟩
  have L6 := L5.trans (hb.mono L5.size)
  have bp_6 := bp_5.below hb
  clear bp_5
  have ba_6 := ba_5.below hb
  clear ba_5
  clear hb
  clear L5
  obtain ⟨bplt, bpc0, bpc1, bpc2, bpc3, bpc4, bpc5, bpc6, bpc7, bpfz⟩ := bp_6
  obtain ⟨balt, bac0, bac1, bac2, bac3, bac4, bac5, bac6, bac7, bafz⟩ := ba_6
  go_wp2_with fail
  have bp_6 : Blk8 _ _ _ _ _ _ _ _ _ _ := ⟨bplt, bpc0, bpc1, bpc2, bpc3, bpc4, bpc5, bpc6, bpc7, bpfz⟩
  clear bplt bpc0 bpc1 bpc2 bpc3 bpc4 bpc5 bpc6 bpc7 bpfz
  have ba_6 : Blk8 _ _ _ _ _ _ _ _ _ _ := ⟨balt, bac0, bac1, bac2, bac3, bac4, bac5, bac6, bac7, bafz⟩
  clear balt bac0 bac1 bac2 bac3 bac4 bac5 bac6 bac7 bafz
  refine (HO _).mono ?_
  rintro e w7 ⟨rfl, hb⟩
  have L7 := L6.trans (hb.mono L6.size)
  have bp_7 := bp_6.below hb
  clear bp_6
  have ba_7 := ba_6.below hb
  clear ba_6
  clear hb
  clear L6
  obtain ⟨bplt, bpc0, bpc1, bpc2, bpc3, bpc4, bpc5, bpc6, bpc7, bpfz⟩ := bp_7
  go_wp2_with fail
  have bp_7 : Blk8 _ _ _ _ _ _ _ _ _ _ := ⟨bplt, bpc0, bpc1, bpc2, bpc3, bpc4, bpc5, bpc6, bpc7, bpfz⟩
  clear bplt bpc0 bpc1 bpc2 bpc3 bpc4 bpc5 bpc6 bpc7 bpfz
  have L8 : Below w.heap.size w (w7.alloc (.cells #[.int .i64 o1, .int .i64 o2, .int .i64 o3, .int .i64 o4, .int .i64 o5, .int .i64 o6, .int .i64 o7, .int .i64 o8] 24)) := L7.alloc L7.size _
  have bp_8 := bp_7.alloc #[.int .i64 o1, .int .i64 o2, .int .i64 o3, .int .i64 o4, .int .i64 o5, .int .i64 o6, .int .i64 o7, .int .i64 o8] 24
  clear bp_7
  have ba_8 := ba_7.alloc #[.int .i64 o1, .int .i64 o2, .int .i64 o3, .int .i64 o4, .int .i64 o5, .int .i64 o6, .int .i64 o7, .int .i64 o8] 24
  clear ba_7
  have bo_8 := Blk8.new w7 (.int .i64 o1) (.int .i64 o2) (.int .i64 o3) (.int .i64 o4) (.int .i64 o5) (.int .i64 o6) (.int .i64 o7) (.int .i64 o8) 24
  clear L7
  refine (HB _).mono ?_
  rintro e w9 ⟨rfl, hb⟩
  have L9 := L8.trans (hb.mono L8.size)
  have bp_9 := bp_8.below hb
  clear bp_8
  have ba_9 := ba_8.below hb
  clear ba_8
  have bo_9 := bo_8.below hb
  clear bo_8
  clear hb
  clear L8
  obtain ⟨bolt, boc0, boc1, boc2, boc3, boc4, boc5, boc6, boc7, bofz⟩ := bo_9
  go_wp2_with fail
  have bo_9 : Blk8 _ _ _ _ _ _ _ _ _ _ := ⟨bolt, boc0, boc1, boc2, boc3, boc4, boc5, boc6, boc7, bofz⟩
  clear bolt boc0 boc1 boc2 boc3 boc4 boc5 boc6 boc7 bofz
  go_ret
  exact ⟨rfl, L9⟩
set_option maxHeartbeats 1000000 in
theorem CivilWeek_next_mid (y mo d h mi s wd yd f l : Int) (U V : Int) (v1 : 1 ≤ V) (v2 : V ≤ 53) (u1 : y - 1 ≤ U) (u2 : U ≤ y + 1) (y1 : -9999 ≤ y) (y2 : y ≤ 9999) (HW : (∀ w : World, Calls Try.prog 28 #[CV y mo d h mi s wd yd, .int .i64 f, .int .i64 l] w fun e w' => e = .returned (.tuple #[.int .i64 U, .int .i64 V, .int .i64 0]) ∧ Below w.heap.size w w')) (v3 : 52 ≤ V) (a1 a2 a3 a4 a5 a6 a7 a8 : Int) (HA : (∀ w : World, Calls Try.prog 25 #[CV y mo d h mi s wd yd, .int .i64 7] w fun e w' => e = .returned (.tuple #[CV a1 a2 a3 a4 a5 a6 a7 a8, .int .i64 0]) ∧ Below w.heap.size w w')) (HZ : (∀ w : World, Calls Try.prog 28 #[CV a1 a2 a3 a4 a5 a6 a7 a8, .int .i64 f, .int .i64 l] w fun e w' => e = .returned (.tuple #[.int .i64 (U + 1), .int .i64 (1), .int .i64 0]) ∧ Below w.heap.size w w')) (o1 o2 o3 o4 o5 o6 o7 o8 : Int) (ho : (o7 == f) = false) (HO : (∀ w : World, Calls Try.prog 25 #[CV y mo d h mi s wd yd, .int .i64 1] w fun e w' => e = .returned (.tuple #[CV o1 o2 o3 o4 o5 o6 o7 o8, .int .i64 0]) ∧ Below w.heap.size w w')) (HB : (∀ w : World, Calls Try.prog 28 #[CV o1 o2 o3 o4 o5 o6 o7 o8, .int .i64 f, .int .i64 l] w fun e w' => e = .returned (.tuple #[.int .i64 (U), .int .i64 (V), .int .i64 0]) ∧ Below w.heap.size w w')) (w : World) :
    Calls Try.prog 10 #[CV y mo d h mi s wd yd, .int .i64 f, .int .i64 l] w fun e w' => e = .returned (.bool true) ∧ Below w.heap.size w w' := by
  unfold CV at *
  go_enter Try.func10, Try.ntmps10
  have L0 : Below w.heap.size w w := Below.refl _ _
  go_wp2_with fail
  have L1 : Below w.heap.size w (w.alloc (.cells #[.int .i64 y, .int .i64 mo, .int .i64 d, .int .i64 h, .int .i64 mi, .int .i64 s, .int .i64 wd, .int .i64 yd] 24)) := L0.alloc L0.size _
  have bp_1 := Blk8.new w (.int .i64 y) (.int .i64 mo) (.int .i64 d) (.int .i64 h) (.int .i64 mi) (.int .i64 s) (.int .i64 wd) (.int .i64 yd) 24
  clear L0
  refine (wakes_any _).mono ?_
  rintro e w2 ⟨rfl, hb⟩
  have L2 := L1.trans (hb.mono L1.size)
  have bp_2 := bp_1.below hb
  clear bp_1
  clear hb
  clear L1
  obtain ⟨bplt, bpc0, bpc1, bpc2, bpc3, bpc4, bpc5, bpc6, bpc7, bpfz⟩ := bp_2
  go_wp2_with fail
  have bp_2 : Blk8 _ _ _ _ _ _ _ _ _ _ := ⟨bplt, bpc0, bpc1, bpc2, bpc3, bpc4, bpc5, bpc6, bpc7, bpfz⟩
  clear bplt bpc0 bpc1 bpc2 bpc3 bpc4 bpc5 bpc6 bpc7 bpfz
  refine (HW _).mono ?_
  rintro e w3 ⟨rfl, hb⟩
  have L3 := L2.trans (hb.mono L2.size)
  have bp_3 := bp_2.below hb
  clear bp_2
  clear hb
  clear L2
  obtain ⟨bplt, bpc0, bpc1, bpc2, bpc3, bpc4, bpc5, bpc6, bpc7, bpfz⟩ := bp_3
  go_wp2_with fail
  have bp_3 : Blk8 _ _ _ _ _ _ _ _ _ _ := ⟨bplt, bpc0, bpc1, bpc2, bpc3, bpc4, bpc5, bpc6, bpc7, bpfz⟩
  clear bplt bpc0 bpc1 bpc2 bpc3 bpc4 bpc5 bpc6 bpc7 bpfz
  refine (HA _).mono ?_
  rintro e w4 ⟨rfl, hb⟩
  have L4 := L3.trans (hb.mono L3.size)
  have bp_4 := bp_3.below hb
  clear bp_3
  clear hb
  clear L3
  obtain ⟨bplt, bpc0, bpc1, bpc2, bpc3, bpc4, bpc5, bpc6, bpc7, bpfz⟩ := bp_4
  go_wp2_with fail
  have bp_4 : Blk8 _ _ _ _ _ _ _ _ _ _ := ⟨bplt, bpc0, bpc1, bpc2, bpc3, bpc4, bpc5, bpc6, bpc7, bpfz⟩
  clear bplt bpc0 bpc1 bpc2 bpc3 bpc4 bpc5 bpc6 bpc7 bpfz
  have L5 : Below w.heap.size w (w4.alloc (.cells #[.int .i64 a1, .int .i64 a2, .int .i64 a3, .int .i64 a4, .int .i64 a5, .int .i64 a6, .int .i64 a7, .int .i64 a8] 24)) := L4.alloc L4.size _
  have bp_5 := bp_4.alloc #[.int .i64 a1, .int .i64 a2, .int .i64 a3, .int .i64 a4, .int .i64 a5, .int .i64 a6, .int .i64 a7, .int .i64 a8] 24
  clear bp_4
  have ba_5 := Blk8.new w4 (.int .i64 a1) (.int .i64 a2) (.int .i64 a3) (.int .i64 a4) (.int .i64 a5) (.int .i64 a6) (.int .i64 a7) (.int .i64 a8) 24
  clear L4
  refine (HZ _).mono ?_
  rintro e w6 ⟨rfl, hb⟩
  have L6 := L5.trans (hb.mono L5.size)
  have bp_6 := bp_5.below hb
  clear bp_5
  have ba_6 := ba_5.below hb
  clear ba_5
  clear hb
  clear L5
  obtain ⟨bplt, bpc0, bpc1, bpc2, bpc3, bpc4, bpc5, bpc6, bpc7, bpfz⟩ := bp_6
  obtain ⟨balt, bac0, bac1, bac2, bac3, bac4, bac5, bac6, bac7, bafz⟩ := ba_6
  go_wp2_with fail
  have bp_6 : Blk8 _ _ _ _ _ _ _ _ _ _ := ⟨bplt, bpc0, bpc1, bpc2, bpc3, bpc4, bpc5, bpc6, bpc7, bpfz⟩
  clear bplt bpc0 bpc1 bpc2 bpc3 bpc4 bpc5 bpc6 bpc7 bpfz
  have ba_6 : Blk8 _ _ _ _ _ _ _ _ _ _ := ⟨balt, bac0, bac1, bac2, bac3, bac4, bac5, bac6, bac7, bafz⟩
  clear balt bac0 bac1 bac2 bac3 bac4 bac5 bac6 bac7 bafz
  refine (HO _).mono ?_
  rintro e w7 ⟨rfl, hb⟩
  have L7 := L6.trans (hb.mono L6.size)
  have bp_7 := bp_6.below hb
  clear bp_6
  have ba_7 := ba_6.below hb
  clear ba_6
  clear hb
  clear L6
  obtain ⟨bplt, bpc0, bpc1, bpc2, bpc3, bpc4, bpc5, bpc6, bpc7, bpfz⟩ := bp_7
  go_wp2_with fail
  have bp_7 : Blk8 _ _ _ _ _ _ _ _ _ _ := ⟨bplt, bpc0, bpc1, bpc2, bpc3, bpc4, bpc5, bpc6, bpc7, bpfz⟩
  clear bplt bpc0 bpc1 bpc2 bpc3 bpc4 bpc5 bpc6 bpc7 bpfz
  have L8 : Below w.heap.size w (w7.alloc (.cells #[.int .i64 o1, .int .i64 o2, .int .i64 o3, .int .i64 o4, .int .i64 o5, .int .i64 o6, .int .i64 o7, .int .i64 o8] 24)) := L7.alloc L7.size _
  have bp_8 := bp_7.alloc #[.int .i64 o1, .int .i64 o2, .int .i64 o3, .int .i64 o4, .int .i64 o5, .int .i64 o6, .int .i64 o7, .int .i64 o8] 24
  clear bp_7
  have ba_8 := ba_7.alloc #[.int .i64 o1, .int .i64 o2, .int .i64 o3, .int .i64 o4, .int .i64 o5, .int .i64 o6, .int .i64 o7, .int .i64 o8] 24
  clear ba_7
  have bo_8 := Blk8.new w7 (.int .i64 o1) (.int .i64 o2) (.int .i64 o3) (.int .i64 o4) (.int .i64 o5) (.int .i64 o6) (.int .i64 o7) (.int .i64 o8) 24
  clear L7
  refine (HB _).mono ?_
  rintro e w9 ⟨rfl, hb⟩
  have L9 := L8.trans (hb.mono L8.size)
  have bp_9 := bp_8.below hb
  clear bp_8
  have ba_9 := ba_8.below hb
  clear ba_8
  have bo_9 := bo_8.below hb
  clear bo_8
  clear hb
  clear L8
  obtain ⟨bolt, boc0, boc1, boc2, boc3, boc4, boc5, boc6, boc7, bofz⟩ := bo_9
  go_wp2_with fail
  have bo_9 : Blk8 _ _ _ _ _ _ _ _ _ _ := ⟨bolt, boc0, boc1, boc2, boc3, boc4, boc5, boc6, boc7, bofz⟩
  clear bolt boc0 boc1 boc2 boc3 boc4 boc5 boc6 boc7 bofz
  go_ret
  exact ⟨rfl, L9⟩
theorem CivilWeek_ok (y mo d h mi s wd yd f l : Int) (hr : Rt y mo d h mi s wd yd) (f0 : 0 ≤ f) (f6 : f ≤ 6) (l1 : 1 ≤ l) (l7 : l ≤ 7) (w : World) :
    Calls Try.prog 10 #[CV y mo d h mi s wd yd, .int .i64 f, .int .i64 l] w fun e w' => e = .returned (.bool true) ∧ Below w.heap.size w w' := by
  have q := Rt_num hr
  obtain ⟨y1, y2, _, _, _, _, n1, n2, ey, s0, s1⟩ := q
  have HW := Week_yes y mo d h mi s wd yd f l hr f0 f6 l1 l7
  have wy := CivT.wkY_in y (Cal.num y mo d) f l
  have nx := CivT.week_next (Cal.num y mo d) f l l1 l7 f0 f6
  simp only [ey] at nx
  obtain ⟨x1, x2, x3, x4⟩ := nx
  by_cases hy : -9999 ≤ Cal.Year (Cal.num y mo d + 7) ∧ Cal.Year (Cal.num y mo d + 7) ≤ 9999
  · have m1 : Cal.Year (Cal.num y mo d) ≤ Cal.Year (Cal.num y mo d + 1) := (CivT.year_le _ _).1 (by have := (CivT.year_le (Cal.num y mo d) (Cal.Year (Cal.num y mo d))).2 (by omega); omega)
    have m2 : Cal.Year (Cal.num y mo d + 1) ≤ Cal.Year (Cal.num y mo d + 7) := (CivT.year_le _ _).1 (by have := (CivT.year_le (Cal.num y mo d + 1) (Cal.Year (Cal.num y mo d + 1))).2 (by omega); omega)
    obtain ⟨a1, a2, a3, a4, a5, a6, a7, a8, ra, na, ta, HA⟩ := AddDays_to y mo d h mi s wd yd 7 hr (by omega) (by omega) hy.1 hy.2
    obtain ⟨o1, o2, o3, o4, o5, o6, o7, o8, ro, no, to, HO⟩ := AddDays_to y mo d h mi s wd yd 1 hr (by omega) (by omega) (by omega) (by omega)
    have HZ := Week_yes a1 a2 a3 a4 a5 a6 a7 a8 f l ra f0 f6 l1 l7
    have HB := Week_yes o1 o2 o3 o4 o5 o6 o7 o8 f l ro f0 f6 l1 l7
    have qa := (Rt_num ra).2.2.2.2.2.2.2.2.1
    have qo := (Rt_num ro).2.2.2.2.2.2.2.2.1
    have e7 : o7 = (Cal.num y mo d + 1 + 4) % 7 := by obtain ⟨_, _, _, _, _, _, _, _, e, _⟩ := ro; rw [e, no]
    rw [na] at qa HZ
    rw [no] at qo HB
    rw [qa] at x3 x4
    rw [qo] at x4
    rw [← e7] at x4
    rcases x3 with ⟨z1, z2⟩ | ⟨z1, z2, z3⟩
    · rw [z1, z2] at HZ
      rcases x4 with ⟨z4, z5, z6⟩ | ⟨z4, z5, z6⟩
      · rw [z5, z6, z1, z2] at HB
        exact CivilWeek_same_day y mo d h mi s wd yd f l _ _ x1 x2 wy.1 wy.2 y1 y2 HW a1 a2 a3 a4 a5 a6 a7 a8 HA HZ o1 o2 o3 o4 o5 o6 o7 o8 (by rw [z4]; exact beq_self_eq_true _) HO HB w
      · rw [z5, z6] at HB
        exact CivilWeek_same_mid y mo d h mi s wd yd f l _ _ x1 x2 wy.1 wy.2 y1 y2 HW a1 a2 a3 a4 a5 a6 a7 a8 HA HZ o1 o2 o3 o4 o5 o6 o7 o8 (beq_eq_false_iff_ne.2 z4) HO HB w
    · rw [z1, z2] at HZ
      rcases x4 with ⟨z4, z5, z6⟩ | ⟨z4, z5, z6⟩
      · rw [z5, z6, z1, z2] at HB
        exact CivilWeek_next_day y mo d h mi s wd yd f l _ _ x1 x2 wy.1 wy.2 y1 y2 HW z3 a1 a2 a3 a4 a5 a6 a7 a8 HA HZ o1 o2 o3 o4 o5 o6 o7 o8 (by rw [z4]; exact beq_self_eq_true _) HO HB w
      · rw [z5, z6] at HB
        exact CivilWeek_next_mid y mo d h mi s wd yd f l _ _ x1 x2 wy.1 wy.2 y1 y2 HW z3 a1 a2 a3 a4 a5 a6 a7 a8 HA HZ o1 o2 o3 o4 o5 o6 o7 o8 (beq_eq_false_iff_ne.2 z4) HO HB w
  · exact CivilWeek_out y mo d h mi s wd yd f l _ _ x1 x2 wy.1 wy.2 y1 y2 HW (AddDays_out y mo d h mi s wd yd 7 hr (by omega) (by omega) hy) w
theorem CivilWeek_walk (y mo d h mi s wd yd f l : Int) (_b0 : -9223372036854775808 ≤ y) (_b0' : y ≤ 9223372036854775807) (_b1 : -9223372036854775808 ≤ mo) (_b1' : mo ≤ 9223372036854775807) (_b2 : -9223372036854775808 ≤ d) (_b2' : d ≤ 9223372036854775807) (_b3 : -9223372036854775808 ≤ h) (_b3' : h ≤ 9223372036854775807) (_b4 : -9223372036854775808 ≤ mi) (_b4' : mi ≤ 9223372036854775807) (_b5 : -9223372036854775808 ≤ s) (_b5' : s ≤ 9223372036854775807) (_b6 : -9223372036854775808 ≤ wd) (_b6' : wd ≤ 9223372036854775807) (_b7 : -9223372036854775808 ≤ yd) (_b7' : yd ≤ 9223372036854775807) (_b8 : -9223372036854775808 ≤ f) (_b8' : f ≤ 9223372036854775807) (_b9 : -9223372036854775808 ≤ l) (_b9' : l ≤ 9223372036854775807) (w : World) :
    Calls Try.prog 10 #[.agg #[.int .i64 y, .int .i64 mo, .int .i64 d, .int .i64 h, .int .i64 mi, .int .i64 s, .int .i64 wd, .int .i64 yd], .int .i64 f, .int .i64 l] w fun e w' => e = .returned (.bool true) ∧ Below w.heap.size w w' := by
  change Calls Try.prog 10 #[CV y mo d h mi s wd yd, .int .i64 f, .int .i64 l] w _
  by_cases hr : Rt y mo d h mi s wd yd ∧ 0 ≤ f ∧ f ≤ 6 ∧ 1 ≤ l ∧ l ≤ 7
  · exact CivilWeek_ok y mo d h mi s wd yd f l hr.1 hr.2.1 hr.2.2.1 hr.2.2.2.1 hr.2.2.2.2 w
  · exact CivilWeek_no y mo d h mi s wd yd f l (Week_no y mo d h mi s wd yd f l hr) w
end Go.Proofs.Ytafoodfbjebdcaa
