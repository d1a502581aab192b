/-
  The reference's List: things put together by the four parts. Conditions: the slice reads as these texts; sizes.
-/
import Derived.Test.YtpcgcghhddnifaaGreatDoorGf
import Derived.Deep.CutRange
import Derived.Deep.DeepCutAuto
set_option linter.unusedVariables false
namespace Go.Proofs.YtpcgcghhddnifaaGreatDoor
open Go.RowKit
open Ph
theorem rlay2 (s x y : ByteArray) (g B : Nat) (hs : s.size ≤ 281474976710656) (hx : x.size ≤ 281474976710656) (hy : y.size ≤ 281474976710656) (W : World) (hT : Texts W B (some ⟨g, 0, none⟩) [x, y]) (hB : B ≤ W.heap.size) :
    Calls Tryz.prog 37 #[.string s, .slice (some ⟨g, 0, none⟩) 2 2] W fun e w' => e = .returned (.tuple #[.string (fillT s [x, y]).1, .int .i64 (fillT s [x, y]).2]) ∧ Below W.heap.size W w' :=
  rlay_any s _ [x, y] 2 B hs (by simp) (by intro z hz; simp at hz; rcases hz with rfl | rfl <;> assumption) W hT hB
set_option maxRecDepth 100000 in
set_option maxHeartbeats 4000000 in
theorem reflist_0 (two st mid ed : ByteArray) (AA : Option Addr) (cc : Nat) (w : World) :
    Calls Tryz.prog 15 #[.agg #[.string two, .string st, .string mid, .string ed], .slice AA 0 cc] w fun e w' => e = .returned (.tuple #[.string ⟨#[]⟩, .int .i64 0]) ∧ Below w.heap.size w w' := by
  go_enter Tryz.func15, Tryz.ntmps15
  go_wp2_with fail
  refine bodyPost_ret (v := .tuple #[.string ⟨#[]⟩, .int .i64 0]) ?_ rfl ⟨rfl, (Below.refl _ _).alloc (Nat.le_refl _) _⟩
  simp [results, Tryz.results15, go_sem]
set_option maxRecDepth 100000 in
set_option maxHeartbeats 4000000 in
theorem reflist_1 (two st mid ed x : ByteArray) (AA : Option Addr) (cc B : Nat) (hx : x.size ≤ 281474976710656) (w : World) (hX : Texts w B AA [x]) (hB : B ≤ w.heap.size) :
    Calls Tryz.prog 15 #[.agg #[.string two, .string st, .string mid, .string ed], .slice AA 1 cc] w fun e w' => e = .returned (.tuple #[.string (if 262144 < x.size then ⟨#[]⟩ else x), .int .i64 (if 262144 < x.size then 3 else 0)]) ∧ Below w.heap.size w w' := by
  obtain ⟨ad, rfl, hb, hc⟩ := (hX.alloc hB (.cells #[.string two, .string st, .string mid, .string ed] 38)) (by simp)
  have c0 := hc 0 (by simp)
  clear hc hX
  simp only [List.getElem_cons_zero, add_zero] at c0
  by_cases h : 262144 < x.size
  · rw [if_pos h, if_pos h]
    have h' : (262144 : Int) < x.size := by omega
    go_enter Tryz.func15, Tryz.ntmps15
    go_wp2_with fail
    refine bodyPost_ret (v := .tuple #[.string ⟨#[]⟩, .int .i64 3]) ?_ rfl ⟨rfl, (Below.refl _ _).alloc (Nat.le_refl _) _⟩
    simp [results, Tryz.results15, go_sem]
  · rw [if_neg h, if_neg h]
    have h' : ¬ (262144 : Int) < x.size := by omega
    go_enter Tryz.func15, Tryz.ntmps15
    go_wp2_with fail
    refine bodyPost_ret (v := .tuple #[.string x, .int .i64 0]) ?_ rfl ⟨rfl, (Below.refl _ _).alloc (Nat.le_refl _) _⟩
    simp [results, Tryz.results15, go_sem]
set_option maxRecDepth 100000 in
set_option maxHeartbeats 4000000 in
theorem reflist_2 (two st mid ed x y : ByteArray) (AA : Option Addr) (cc B : Nat) (h2 : two.size ≤ 281474976710656) (hx : x.size ≤ 281474976710656) (hy : y.size ≤ 281474976710656) (w : World) (hX : Texts w B AA [x, y]) (hB : B ≤ w.heap.size) :
    Calls Tryz.prog 15 #[.agg #[.string two, .string st, .string mid, .string ed], .slice AA 2 cc] w fun e w' => e = .returned (.tuple #[.string (fillT two [x, y]).1, .int .i64 (fillT two [x, y]).2]) ∧ Below w.heap.size w w' := by
  have hX1 := hX.alloc hB (.cells #[.string two, .string st, .string mid, .string ed] 38)
  obtain ⟨ad, rfl, hb, hc⟩ := hX1 (by simp)
  have c0 := hc 0 (by simp)
  have c1 := hc 1 (by simp)
  simp only [List.getElem_cons_zero, List.getElem_cons_succ, add_zero, add_one] at c0 c1
  have hP := Blk.new w 38 #[.string two, .string st, .string mid, .string ed]
  have p0 := hP.at_ 0 (v := .string two) rfl
  have hb1 := (Below.refl w.heap.size w).alloc (Nat.le_refl _) (.cells #[.string two, .string st, .string mid, .string ed] 38)
  have hz1 : (w.alloc (.cells #[.string two, .string st, .string mid, .string ed] 38)).heap.size = w.heap.size + 1 := by simp
  have HL := rlay2 two x y (w.heap.size + 1) (w.heap.size + 1 + 1) h2 hx hy _ (texts2' (w.alloc (.cells #[.string two, .string st, .string mid, .string ed] 38)) x y (w.heap.size + 1) (by simp)) (by show _ ≤ ((w.alloc (.cells #[.string two, .string st, .string mid, .string ed] 38)).alloc _).heap.size; simp)
  clear hc hX hX1
  go_enter Tryz.func15, Tryz.ntmps15
  go_wp2_with fail
  go_region_with (go_at_call 37; refine HL.mono ?_; rintro e w4 ⟨rfl, hb4⟩; have B4 := (blw_drew (hb1.alloc (by simp) (.cells #[.string x, .string y] 9))).trans (hb4.mono (by show _ ≤ ((w.alloc _).alloc _).heap.size; simp; omega)))
  all_goals go_wp2_with fail
  all_goals
    refine bodyPost_ret (v := .tuple #[.string (fillT two [x, y]).1, .int .i64 (fillT two [x, y]).2]) ?_ rfl ⟨rfl, B4⟩
    simp [results, Tryz.results15, go_sem]
/-- what List sees: nothing old has turned; its things; the four parts -/
structure Lst (w : World) (B : Nat) (A : Option Addr) (xs : List ByteArray) (two st mid ed : ByteArray) (wc : World) : Prop where
  bw : Below w.heap.size w wc
  tx : Texts wc B A xs
  pb : Blk wc w.heap.size 38 #[.string two, .string st, .string mid, .string ed]
theorem Lst.step {w : World} {B : Nat} {A : Option Addr} {xs : List ByteArray} {two st mid ed : ByteArray} {wc w4 : World} {x y : Value} (h : Lst w B A xs two st mid ed wc) (hB : B ≤ w.heap.size) (hb : Below (wc.alloc (.cells #[x, y] 9)).drew.heap.size (wc.alloc (.cells #[x, y] 9)).drew w4) : Lst w B A xs two st mid ed w4 := by
  have h1 := (h.bw.size)
  have hz : (wc.alloc (.cells #[x, y] 9)).drew.heap.size = wc.heap.size + 1 := by show (wc.alloc (.cells #[x, y] 9)).heap.size = _; simp
  have hb2 : Below wc.heap.size wc w4 := (blw_drew ((Below.refl wc.heap.size wc).alloc (Nat.le_refl _) _)).trans (hb.mono (by omega))
  exact ⟨h.bw.trans (hb2.mono h1), h.tx.below (hb2.mono (by omega)), h.pb.below hb2 h.pb.lt⟩
theorem Lst.drewN {w : World} {B : Nat} {A : Option Addr} {xs : List ByteArray} {two st mid ed : ByteArray} {wc : World} (h : Lst w B A xs two st mid ed wc) (n : Nat) : Lst w B A xs two st mid ed (wc.drewN n) := ⟨blw_drewN h.bw n, h.tx.below (blw_drewN (Below.refl _ _) n), h.pb.drewN n⟩
set_option maxRecDepth 100000 in
set_option maxHeartbeats 4000000 in
theorem reflist_many (two st mid ed : ByteArray) (AA : Option Addr) (xs : List ByteArray) (cc B : Nat) (h3 : 3 ≤ xs.length) (hle : xs.length ≤ 1000000) (hxs : ∀ x ∈ xs, x.size ≤ 281474976710656) (hst : st.size ≤ 281474976710656) (hmid : mid.size ≤ 281474976710656) (hed : ed.size ≤ 281474976710656) (w : World) (hX : Texts w B AA xs) (hB : B ≤ w.heap.size) :
    Calls Tryz.prog 15 #[.agg #[.string two, .string st, .string mid, .string ed], .slice AA xs.length cc] w fun e w' => e = .returned (.tuple #[.string (listP two st mid ed xs).1, .int .i64 (listP two st mid ed xs).2]) ∧ Below w.heap.size w w' := by
  have hX1 := hX.alloc hB (.cells #[.string two, .string st, .string mid, .string ed] 38)
  have hP := Blk.new w 38 #[.string two, .string st, .string mid, .string ed]
  have hb1 := (Below.refl w.heap.size w).alloc (Nat.le_refl _) (.cells #[.string two, .string st, .string mid, .string ed] 38)
  have hz1 : (w.alloc (.cells #[.string two, .string st, .string mid, .string ed] 38)).heap.size = w.heap.size + 1 := by simp
  obtain ⟨N, hN⟩ : ∃ N, xs.length = N := ⟨_, rfl⟩
  obtain ⟨a1, ha1⟩ : ∃ a, a + 1 = N := ⟨N - 1, by omega⟩
  obtain ⟨a2, ha2⟩ : ∃ a, a + 2 = N := ⟨N - 2, by omega⟩
  obtain ⟨a3, ha3⟩ : ∃ a, a + 3 = N := ⟨N - 3, by omega⟩
  have hacc := fun k => accT_le ed mid xs k
  have hfin : listP two st mid ed xs = if (accT ed mid xs a3).2 = 0 then fillT st [getT xs 0, (accT ed mid xs a3).1] else (⟨#[]⟩, (accT ed mid xs a3).2) := by
    unfold listP
    rw [if_neg (by omega), if_neg (by omega), if_neg (by omega), show xs.length - 3 = a3 by omega]
  have hac0 : accT ed mid xs 0 = fillT ed [getT xs a2, getT xs a1] := by rw [accT, show xs.length - 2 = a2 by omega, show xs.length - 1 = a1 by omega]
  have hacs : ∀ k j, j + k = a3 → (accT ed mid xs k).2 = 0 → accT ed mid xs (k + 1) = fillT mid [getT xs j, (accT ed mid xs k).1] := fun k j hj h0 => by rw [accT, if_pos h0, show xs.length - 3 - k = j by omega]
  have hgt : ∀ j, j < N → (getT xs j).size ≤ 281474976710656 := fun j hj => by rw [getT_get (by omega)]; exact hxs _ (List.getElem_mem (by omega))
  have hXc : ∀ wr, Texts wr B AA xs → ∃ ad : Addr, AA = some ad ∧ ∀ j, j < N → wr.cell? (ad.add j) = some (.string (getT xs j)) := fun wr h => by
    obtain ⟨ad, e, _, hc⟩ := h (by omega)
    exact ⟨ad, e, fun j hj => by rw [getT_get (by omega)]; exact hc j (by omega)⟩
  have n0 : ((N : Int) == 0) = false := by simp; omega
  have n1 : ((N : Int) == 1) = false := by simp; omega
  have n2 : ((N : Int) == 2) = false := by simp; omega
  have w1 : IntKind.i64.wrap ((N : Int) - 1) = (a1 : Int) := i64wrap (by omega) (by omega)
  have w2 : IntKind.i64.wrap ((N : Int) - 2) = (a2 : Int) := i64wrap (by omega) (by omega)
  have w3 : IntKind.i64.wrap ((N : Int) - 3) = (a3 : Int) := i64wrap (by omega) (by omega)
  have l1 : (a1 : Int) < N := by omega
  have l2 : (a2 : Int) < N := by omega
  have l0 : (0 : Int) < N := by omega
  obtain ⟨ad, rfl, hc1⟩ := hXc _ hX1
  have c1 := hc1 a1 (by omega)
  have c2 := hc1 a2 (by omega)
  have hg1 := hgt a1 (by omega)
  have hg2 := hgt a2 (by omega)
  have HA1 := Lib.hid ha1
  have HA2 := Lib.hid ha2
  have HA3 := Lib.hid ha3
  have HNN := Lib.hid hN
  have p3 := hP.at_ 3 (v := .string ed) rfl
  have HL := rlay2 ed (getT xs a2) (getT xs a1) (w.heap.size + 1) (w.heap.size + 1 + 1) hed hg2 hg1 _ (texts2' (w.alloc (.cells #[.string two, .string st, .string mid, .string ed] 38)) (getT xs a2) (getT xs a1) (w.heap.size + 1) (by simp)) (by show _ ≤ ((w.alloc _).alloc _).heap.size; simp)
  rw [← hac0] at HL
  rw [hN]
  have hNN : N ≤ 1000000 := by omega
  clear hc1 hN ha1 ha2 ha3 h3 hle
  generalize getT xs a1 = x1 at c1 HL
  generalize getT xs a2 = x2 at c2 HL
  obtain ⟨⟨t0, e0⟩, h00⟩ : ∃ p, accT ed mid xs 0 = p := ⟨_, rfl⟩
  rw [h00] at HL
  dsimp only at HL
  have hL0 : Lst w B (some ad) xs two st mid ed (w.alloc (.cells #[.string two, .string st, .string mid, .string ed] 38)) := ⟨hb1, hX1, hP⟩
  clear hX1 hP hb1 hX
  go_enter Tryz.func15, Tryz.ntmps15
  go_upto_region 11 with fail
  have H00 := Lib.hid h00
  clear h00 hac0
  go_cut [7, 8] (fun s7 s8 wc => s7 = .string t0 ∧ s8 = .int .i64 e0 ∧ Lst w B (some ad) xs two st mid ed wc)
  case first =>
    go_region_with (go_at_call 37; refine HL.mono ?_; rintro e w4 ⟨rfl, hb4⟩)
    all_goals go_wp2_with fail
    all_goals go_meet
    all_goals exact ⟨rfl, rfl, hL0.step hB hb4⟩
  case rest =>
    obtain ⟨rfl, rfl, hl⟩ := hcut
    clear HL p3 c1 c2 hL0 hg1 hg2 hz1
    go_wp2_with fail
    go_loopw [9, 7, 8] (fun u v z wr => ∃ (k j : Nat) (t : ByteArray) (e : Int), u = .int .i64 j ∧ v = .string t ∧ z = .int .i64 e ∧ j + k = a3 ∧ accT ed mid xs k = (t, e) ∧ Lst w B (some ad) xs two st mid ed wr) (fun u _ _ _ => (intOf u).toNat)
    case atStart => exact ⟨0, a3, t0, e0, rfl, rfl, rfl, by omega, H00.out, hl⟩
    case round =>
      clear hl
      obtain ⟨k, j, t, e, rfl, rfl, rfl, hjk, hac, hl⟩ := hrel
      have HAC := Lib.hid hac
      have HJK := Lib.hid hjk
      have HACS := Lib.hid hacs
      clear hac hacs
      by_cases he : e = 0
      · subst he
        by_cases hj : 0 < j
        · have hj' : (0 : Int) < (j : Int) := by omega
          have hjN : (j : Int) < (N : Int) := by have := HA3.out; omega
          have hjw : IntKind.i64.wrap ((j : Int) - 1) = ((j - 1 : Nat) : Int) := i64wrap (by omega) (by omega)
          obtain ⟨ad', e', hcx⟩ := hXc _ hl.tx
          cases e'
          have c1 := hcx j (by omega)
          have hg1 := hgt j (by omega)
          have hg2 : t.size ≤ 281474976710656 := by have := hacc k; rw [HAC.out] at this; exact Nat.le_trans this (by decide)
          have p2 := hl.pb.at_ 2 (v := .string mid) rfl
          have HL := rlay2 mid (getT xs j) t wr.heap.size (wr.heap.size + 1) hmid hg1 hg2 _ (texts2' wr (getT xs j) t wr.heap.size rfl) (by show _ ≤ (wr.alloc _).heap.size; simp)
          have hnx := HACS.out k j hjk (by rw [HAC.out])
          rw [HAC.out] at hnx
          dsimp only at hnx
          rw [← hnx] at HL
          have HNX := Lib.hid hnx
          clear hcx hnx hjk
          obtain ⟨⟨t1, e1⟩, h11⟩ : ∃ p, accT ed mid xs (k + 1) = p := ⟨_, rfl⟩
          rw [h11] at HL
          dsimp only at HL
          have H11 := Lib.hid h11
          clear h11 hacc hXc
          obtain ⟨xj, hxj⟩ : ∃ x, getT xs j = x := ⟨_, rfl⟩
          rw [hxj] at c1 HL
          clear hxj hg1 HNX hgt
          have plt := hl.pb.lt
          go_wp2_with fail
          go_region_with (go_at_call 37; refine HL.mono ?_; rintro e w4 ⟨rfl, hb4⟩)
          all_goals go_wp2_with fail
          all_goals go_roundw
          all_goals first
            | (case rel => exact ⟨k + 1, j - 1, t1, e1, rfl, rfl, rfl, by have := HJK.out; omega, H11.out, hl.step hB hb4⟩)
            | (case measure => simp [intOf]; omega)
        · obtain rfl : j = 0 := by omega
          have hfin2 : listP two st mid ed xs = fillT st [getT xs 0, t] := by rw [hfin, ← hjk, Nat.zero_add, HAC.out]; simp
          obtain ⟨ad', e', hcx⟩ := hXc _ hl.tx
          cases e'
          have c1 := hcx 0 (by omega)
          rw [add_zero] at c1
          have hg1 := hgt 0 (by omega)
          have hg2 : t.size ≤ 281474976710656 := by have := hacc k; rw [HAC.out] at this; exact Nat.le_trans this (by decide)
          have p1 := hl.pb.at_ 1 (v := .string st) rfl
          have HL := rlay2 st (getT xs 0) t wr.heap.size (wr.heap.size + 1) hst hg1 hg2 _ (texts2' wr (getT xs 0) t wr.heap.size rfl) (by show _ ≤ (wr.alloc _).heap.size; simp)
          rw [← hfin2] at HL
          have HF := Lib.hid hfin2
          clear hcx hfin2 hjk hfin hacc hXc
          obtain ⟨⟨t1, e1⟩, h11⟩ : ∃ p, listP two st mid ed xs = p := ⟨_, rfl⟩
          rw [h11] at HL
          dsimp only at HL
          have H11 := Lib.hid h11
          clear h11
          obtain ⟨xj, hxj⟩ : ∃ x, getT xs 0 = x := ⟨_, rfl⟩
          rw [hxj] at c1 HL
          clear hxj hg1 hgt
          have plt := hl.pb.lt
          go_wp2_with fail
          go_region_with (go_at_call 37; refine HL.mono ?_; rintro e w4 ⟨rfl, hb4⟩)
          all_goals go_wp2_with fail
          all_goals
            refine bodyPost_ret (v := .tuple #[.string t1, .int .i64 e1]) ?_ rfl ⟨by rw [H11.out], (hl.step hB hb4).bw⟩
            simp [results, Tryz.results15, go_sem]
      · have hfin2 : listP two st mid ed xs = (⟨#[]⟩, e) := by
          have h2 : (accT ed mid xs k).2 ≠ 0 := by rw [HAC.out]; exact he
          have h4 := accT_stop h2 a3 (by omega)
          rw [hfin, h4, HAC.out, if_neg he]
        have e1 : (e == 0) = false := by simpa using he
        have e2 : (e != 0) = true := by simpa using he
        have HF := Lib.hid hfin2
        clear hfin2 hfin he
        by_cases hj : 0 < j
        · have hj' : (0 : Int) < (j : Int) := by omega
          go_wp2_with fail
          refine bodyPost_ret (v := .tuple #[.string ⟨#[]⟩, .int .i64 e]) ?_ rfl ⟨by rw [HF.out], hl.bw⟩
          simp [results, Tryz.results15, go_sem]
        · obtain rfl : j = 0 := by omega
          go_wp2_with fail
          refine bodyPost_ret (v := .tuple #[.string ⟨#[]⟩, .int .i64 e]) ?_ rfl ⟨by rw [HF.out], hl.bw⟩
          simp [results, Tryz.results15, go_sem]
theorem reflist_any (two st mid ed : ByteArray) (AA : Option Addr) (xs : List ByteArray) (cc B : Nat) (hle : xs.length ≤ 1000000) (hxs : ∀ x ∈ xs, x.size ≤ 281474976710656) (htwo : two.size ≤ 281474976710656) (hst : st.size ≤ 281474976710656) (hmid : mid.size ≤ 281474976710656) (hed : ed.size ≤ 281474976710656) (w : World) (hX : Texts w B AA xs) (hB : B ≤ w.heap.size) :
    Calls Tryz.prog 15 #[.agg #[.string two, .string st, .string mid, .string ed], .slice AA xs.length cc] w fun e w' => e = .returned (.tuple #[.string (listP two st mid ed xs).1, .int .i64 (listP two st mid ed xs).2]) ∧ Below w.heap.size w w' := by
  match xs, hle, hxs, hX with
  | [], _, _, _ => exact reflist_0 two st mid ed AA cc w
  | [x], _, hxs, hX =>
    refine (reflist_1 two st mid ed x AA cc B (hxs x (by simp)) w hX hB).mono ?_
    rintro e w' ⟨rfl, hb⟩
    refine ⟨?_, hb⟩
    have : listP two st mid ed [x] = if 262144 < x.size then (⟨#[]⟩, 3) else (x, 0) := rfl
    rw [this]
    by_cases h : 262144 < x.size
    · rw [if_pos h, if_pos h, if_pos h]
    · rw [if_neg h, if_neg h, if_neg h]
  | [x, y], _, hxs, hX => exact reflist_2 two st mid ed x y AA cc B htwo (hxs x (by simp)) (hxs y (by simp)) w hX hB
  | x :: y :: z :: r, hle, hxs, hX => exact reflist_many two st mid ed AA (x :: y :: z :: r) cc B (by simp) hle hxs hst hmid hed w hX hB
end Go.Proofs.YtpcgcghhddnifaaGreatDoor
