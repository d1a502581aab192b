/-
  The walk of DatefmtStyles, to its end. Conditions: what the listed variables hold; the text is short enough to be in memory.
-/
import Derived.Test.YtdkekhaamhphcaaGreatDoorQa
set_option linter.unusedVariables false
set_option linter.unusedSimpArgs false
namespace Go.Proofs.YtdkekhaamhphcaaGreatDoor
open Go.RowKit Go.Shelf
attribute [local go_sem] Oper.semAt_some
theorem keeps_below {W W' : World} (h : Below W.heap.size W W') : KeepsOthers W W' := ⟨h.size, fun j o hj _ => (h.block j (by
  rcases Nat.lt_or_ge j W.heap.size with g | g
  · exact g
  · rw [Array.getElem?_eq_none g] at hj; cases hj)).trans hj⟩
def isUp (l : List (Pl candB.length)) : Prop := ∃ k, ∃ h : k < candB.length, l = upK candB.length (k + 1) h
theorem isUp_last {pre : List (Pl candB.length)} {x : Pl candB.length} (h : isUp (pre ++ [x])) : x.1 = pre.length := by
  obtain ⟨k, hk, e⟩ := h
  rw [upK_succ] at e
  have h1 := congrArg List.length e
  simp only [List.length_append, List.length_singleton, upK_length] at h1
  obtain ⟨h2, h3⟩ := List.append_inj e (by rw [upK_length]; omega)
  have := (List.cons.inj h3).1
  rw [this]
  show k = pre.length
  omega
/-- what lies in the law's own blocks, in every round -/
structure Rd (w : World) (H F : Nat) (most : Int) (n : Nat) (W : World) : Prop where
  b5 : Blk W H 3 #[.int .i64 most]
  b6 : Blk W (H + 1) 4 #[.bool false]
  b12 : Blk W (F + 2) 3 #[.int .i64 n]
  bw : Below H w W
section
variable {w : World} {H F : Nat} {most : Int} {n : Nat} {W W' : World}
theorem Rd.call (h : Rd w H F most n W) (hb : Below W.heap.size W W') : Rd w H F most n W' := ⟨h.b5.below hb h.b5.lt, h.b6.below hb h.b6.lt, h.b12.below hb h.b12.lt, h.bw.trans (hb.mono (by have := h.b5.lt; omega))⟩
theorem Rd.alloc (h : Rd w H F most n W) (o : Obj) : Rd w H F most n (W.alloc o) := h.call ((Below.refl _ _).alloc (Nat.le_refl _) o)
theorem Rd.own (h : Rd w H F most n W) (hF : H + 1 < F) {row : Option Nat} (hg : W.grownBy W' row) (hr : ∀ r, row = some r → F + 3 ≤ r) : Rd w H F most n W' :=
  ⟨h.b5.grown hg (fun e => by have := hr _ e.symm; omega), h.b6.grown hg (fun e => by have := hr _ e.symm; omega), h.b12.grown hg (fun e => by have := hr _ e.symm; omega), h.bw.grown hg (by have := h.b5.lt; omega) (fun k e => by have := hr k e; omega)⟩
theorem Rd.next (h : Rd w H F most n W) (hF : H + 1 < F) (m : Nat) : Rd w H F most m (W.setCell ⟨F + 2, 0, none⟩ (.int .i64 m)) :=
  ⟨h.b5.far (by show H ≠ F + 2; omega) _, h.b6.far (by show H + 1 ≠ F + 2; omega) _, h.b12.set_ 0 _, h.bw.setCell (p := ⟨F + 2, 0, none⟩) (by show H ≤ F + 2; omega) _⟩
end
theorem stops_up (Bs n₀ cap : Nat) (A : Option Addr) (w : World) (hBl : Bs < w.heap.size) (hn₀ : n₀ ≤ w.heap.size) (hBs : w.cell? ⟨Bs, 0, none⟩ = some (.slice A candB.length cap)) (hT : Texts w n₀ A candB) :
    SeqStopsK Fence.wide 2 Tryz.prog 43 #[.pointer (some ⟨Bs, 0, none⟩)] (encV candB) (KpB n₀ Bs) (fun ys => ys = upK candB.length candB.length (Nat.le_refl _)) isUp candB.length w := by
  intro l J Jx W hW hJ hJx hY h0
  exact vals1_in Fence.wide 2 trivial rfl (by omega) l Bs n₀ cap A candB (by decide) J Jx (fun pre x W h1 h2 _ => hY pre x W h1 h2) W ((hW.cell (p := ⟨Bs, 0, none⟩) hBl).trans hBs) (hT.below (hW.mono hn₀)) h0
set_option maxRecDepth 100000 in
set_option maxHeartbeats 8000000 in
theorem law_ok (text : ByteArray) (time : Bool) (most : Int) (kd : Int) (ln sk : ByteArray)
    (HS : ∀ w, Spc w → Calls Tryz.prog 5 #[.string text, .bool time] w fun e w' => e = .returned (.tuple #[.agg #[.int .i64 kd, .string ln, .string sk], .int .i64 0]) ∧ Below w.heap.size w w')
    (HR : ∀ w, Calls Tryz.prog 6 #[.string text, .bool time] w fun e w' => e = .returned (.tuple #[.agg #[.int .i64 kd, .string ln, .string sk], .bool true]) ∧ Below w.heap.size w w')
    (w : World) (hg : Glob w) : Calls Tryz.prog 3 #[.string text, .bool time, .int .i64 most] w fun e w' => e = .returned (.bool true) ∧ Below w.heap.size w w' := by
  have K5 := (Blk.new w 3 #[.int .i64 most]).alloc (.cells #[.bool false] 4)
  have K6 := Blk.new (w.alloc (.cells #[.int .i64 most] 3)) 4 #[.bool false]
  have KB := ((Below.refl w.heap.size w).alloc (Nat.le_refl _) (.cells #[.int .i64 most] 3)).alloc (by simp) (.cells #[.bool false] 4)
  simp only [World.size_alloc] at K6
  have hg0 := hg.below ((Below.refl w.heap.size w).alloc (Nat.le_refl _) (.cells #[.int .i64 most] 3))
  have hg1 := hg0.below ((Below.refl _ _).alloc (Nat.le_refl _) (.cells #[.bool false] 4))
  clear hg0
  refine (callsIn_wide (n := 3)).1 ?_
  refine callsIn_of_wp_marks Tryz.func3 rfl trivial ?_ rfl
  simp only [Tryz.ntmps3, List.size_toArray, List.length_cons, List.length_nil, Nat.reduceAdd, Nat.reduceSub, Array.replicate_succ, Array.replicate_zero, List.push_toArray, List.append_toArray, List.nil_append, List.cons_append]
  gi_wp2_with fail
  generalize (w.alloc (.cells #[.int .i64 most] 3)).alloc (.cells #[.bool false] 4) = w0 at *
  obtain ⟨H, hH⟩ : ∃ H, w.heap.size = H := ⟨_, rfl⟩
  rw [hH] at K5 K6 KB ⊢
  have h0z : H + 2 ≤ w0.heap.size := by have := K6.lt; omega
  have HH := Lib.hid hH
  clear hH
  refine ⟨trivial, ?_⟩
  refine (callsIn_wide.2 (wakes_yes hg1)).mono ?_
  rintro e w1 ⟨rfl, hb1⟩
  have hg2 := hg1.below hb1
  have K5 := K5.below hb1 (by omega)
  have K6 := K6.below hb1 (by omega)
  have KB := KB.trans (hb1.mono (by omega))
  have h1z : H + 2 ≤ w1.heap.size := by have := hb1.size; omega
  clear hb1 hg1 h0z
  gi_wp2_with fail
  refine ⟨trivial, ?_⟩
  refine (callsIn_wide.2 (HS w1 hg2.spc)).mono ?_
  rintro e w2 ⟨rfl, hb2⟩
  have hg3 := (hg2.below hb2).below ((Below.refl _ _).alloc (Nat.le_refl _) (.cells #[.int .i64 kd, .string ln, .string sk] 24))
  have h2z : H + 2 ≤ w2.heap.size := by have := hb2.size; omega
  have K5 := (K5.below hb2 (by omega)).alloc (.cells #[.int .i64 kd, .string ln, .string sk] 24)
  have K6 := (K6.below hb2 (by omega)).alloc (.cells #[.int .i64 kd, .string ln, .string sk] 24)
  have KB := (KB.trans (hb2.mono (by omega))).alloc (by omega) (.cells #[.int .i64 kd, .string ln, .string sk] 24)
  have K7 := Blk.new w2 24 #[.int .i64 kd, .string ln, .string sk]
  clear hb2 hg2 h1z
  gi_wp2_with fail
  obtain ⟨A7, hA7⟩ : ∃ A7, w2.heap.size = A7 := ⟨_, rfl⟩
  have h7z : A7 < (w2.alloc (.cells #[.int .i64 kd, .string ln, .string sk] 24)).heap.size := by simp; omega
  rw [hA7] at K7 h2z ⊢
  generalize w2.alloc (.cells #[.int .i64 kd, .string ln, .string sk] 24) = w3 at *
  clear hA7
  refine ⟨trivial, ?_⟩
  refine (callsIn_wide.2 (HR w3)).mono ?_
  rintro e w4 ⟨rfl, hb4⟩
  have hg5 := (hg3.below hb4).below ((Below.refl _ _).alloc (Nat.le_refl _) (.cells #[.int .i64 kd, .string ln, .string sk] 24))
  have K5 := (K5.below hb4 (by omega)).alloc (.cells #[.int .i64 kd, .string ln, .string sk] 24)
  have K6 := (K6.below hb4 (by omega)).alloc (.cells #[.int .i64 kd, .string ln, .string sk] 24)
  have K7 := (K7.below hb4 (by omega)).alloc (.cells #[.int .i64 kd, .string ln, .string sk] 24)
  have h4z : A7 < w4.heap.size := by have := hb4.size; omega
  have KB := (KB.trans (hb4.mono (by omega))).alloc (by omega) (.cells #[.int .i64 kd, .string ln, .string sk] 24)
  have K9 := Blk.new w4 24 #[.int .i64 kd, .string ln, .string sk]
  clear hb4 hg3
  gi_wp2_with fail
  obtain ⟨A9, hA9⟩ : ∃ A9, w4.heap.size = A9 := ⟨_, rfl⟩
  have h9z : A9 < (w4.alloc (.cells #[.int .i64 kd, .string ln, .string sk] 24)).heap.size := by simp; omega
  rw [hA9] at K9 h4z ⊢
  generalize w4.alloc (.cells #[.int .i64 kd, .string ln, .string sk] 24) = w5 at *
  clear hA9
  refine ⟨trivial, ?_⟩
  refine (callsIn_wide.2 (cands_any w5 hg5.spc)).mono ?_
  rintro e w6 ⟨rfl, rfl⟩
  have KT : Texts ((w5.alloc (.cells (candB.map Value.string).toArray 9)).alloc (.cells #[.slice (some ⟨w5.heap.size, 0, none⟩) 28 28] 52)) (w5.heap.size + 2) (some ⟨w5.heap.size, 0, none⟩) candB := fun _ => by
    refine ⟨_, rfl, by show w5.heap.size < _; omega, fun i hi => ?_⟩
    have hb := ((Blk.new w5 9 (candB.map Value.string).toArray).alloc (.cells #[.slice (some ⟨w5.heap.size, 0, none⟩) 28 28] 52)).cell i
    have he : (⟨w5.heap.size, 0, none⟩ : Addr).add i = ⟨w5.heap.size, i, none⟩ := by
      unfold Addr.add; split
      · rename_i h; rw [h]
      · simp
    rw [he, hb]
    simp [hi]
  have KX := Blk.new (w5.alloc (.cells (candB.map Value.string).toArray 9)) 52 #[.slice (some ⟨w5.heap.size, 0, none⟩) 28 28]
  simp only [World.size_alloc] at KX
  have K5 := (K5.alloc (.cells (candB.map Value.string).toArray 9)).alloc (.cells #[.slice (some ⟨w5.heap.size, 0, none⟩) 28 28] 52)
  have K6 := (K6.alloc (.cells (candB.map Value.string).toArray 9)).alloc (.cells #[.slice (some ⟨w5.heap.size, 0, none⟩) 28 28] 52)
  have K7 := (K7.alloc (.cells (candB.map Value.string).toArray 9)).alloc (.cells #[.slice (some ⟨w5.heap.size, 0, none⟩) 28 28] 52)
  have K9 := (K9.alloc (.cells (candB.map Value.string).toArray 9)).alloc (.cells #[.slice (some ⟨w5.heap.size, 0, none⟩) 28 28] 52)
  have KB := (KB.alloc (by omega) (.cells (candB.map Value.string).toArray 9)).alloc (by simp; omega) (.cells #[.slice (some ⟨w5.heap.size, 0, none⟩) 28 28] 52)
  have h6z : w5.heap.size + 2 = ((w5.alloc (.cells (candB.map Value.string).toArray 9)).alloc (.cells #[.slice (some ⟨w5.heap.size, 0, none⟩) 28 28] 52)).heap.size := by simp
  clear hg5
  have hfn : ∀ (W : World) (lb : Array Value), (binOp .eql 31 (.func (.func 43) #[] lb) .nilFunc).run Tryz.prog W = .ok (.bool false) W := fun W lb => by
    first | rfl | kernel_rfl | simp [go_sem]
  generalize (w5.alloc (.cells (candB.map Value.string).toArray 9)).alloc (.cells #[.slice (some ⟨w5.heap.size, 0, none⟩) 28 28] 52) = w6 at *
  obtain ⟨F, hF⟩ : ∃ F, w5.heap.size = F := ⟨_, rfl⟩
  rw [hF] at KT KX h6z h9z ⊢
  clear hF
  have c70 := K7.at_ 0 (v := .int .i64 kd) rfl
  have c71 := K7.at_ 1 (v := .string ln) rfl
  have c72 := K7.at_ 2 (v := .string sk) rfl
  have c90 := K9.at_ 0 (v := .int .i64 kd) rfl
  have c91 := K9.at_ 1 (v := .string ln) rfl
  have c92 := K9.at_ 2 (v := .string sk) rfl
  gi_wp2_with fail
  have hF2 : w6.heap.size = F + 2 := h6z.symm
  rw [hF2]
  have K5 := K5.alloc (.cells #[.int .i64 0] 3)
  have K6 := K6.alloc (.cells #[.int .i64 0] 3)
  have KX := KX.alloc (.cells #[.int .i64 0] 3)
  have KN := Blk.new w6 3 #[.int .i64 0]
  rw [hF2] at KN
  have KT := KT.below ((Below.refl (F + 2) w6).alloc (by omega) (.cells #[.int .i64 0] 3))
  have KB := KB.alloc (by omega) (.cells #[.int .i64 0] 3)
  have hlz : (w6.alloc (.cells #[.int .i64 0] 3)).heap.size = F + 3 := by simp; omega
  clear K7 K9 c70 c71 c72 c90 c91 c92
  generalize w6.alloc (.cells #[.int .i64 0] 3) = wl at *
  have hR0 : Rd w H F most 0 wl := ⟨K5, K6, KN, KB⟩
  have hHF : H + 1 < F := by omega
  have hstops := stops_up (F + 1) (F + 2) 28 (some ⟨F, 0, none⟩) wl (by omega) (by omega) (KX.at_ 0 rfl) KT
  clear K5 K6 KN KB KX KT h9z h7z h6z hF2 h4z h2z
  refine wpIn_rangeFunc_ownF rfl (by omega) (gf := 43) (lb := #[.pointer (some ⟨F + 1, 0, none⟩)]) rfl trivial (enters_of Tryz.func43 (by kernel_rfl) rfl) hstops (fun h k => h.trans k) (fun W l o o' hl ho hc hw => KpB.put (w := wl) (by omega) (by omega) l o o' hl ho hc hw) (Below.refl _ _) (fun _ => rfl)
    (fun pre W => pre.length ≤ 28 ∧ Rd w H F most pre.length W)
    (fun cd pre W => cd = .ret ∧ Below H w W ∧ ∃ b : Bool, Blk W (H + 1) 4 #[.bool b] ∧ (b = true ∨ ¬ isUp pre))
    (fun s A B row hs hg hr => ⟨hs.1, hs.2.own (by omega) hg (fun r e => by have := (hr r e).1; omega)⟩)
    (fun cd s A B row hs hg hr => ⟨hs.1, hs.2.1.grown hg (by obtain ⟨b, hb, _⟩ := hs.2.2; have := hb.lt; omega) (fun r e => by have := (hr r e).1; omega), by obtain ⟨b, hb, ho⟩ := hs.2.2; exact ⟨b, hb.grown hg (fun e => by have := (hr _ e.symm).1; omega), ho⟩⟩)
    ⟨by simp, hR0⟩
    (fun x => { tmps := #[.string text, .bool time, .int .i64 most, undef, undef, .pointer (some ⟨H, 0, none⟩), .pointer (some ⟨H + 1, 0, none⟩), .pointer (some ⟨A7, 0, none⟩), .int .i64 0, .pointer (some ⟨A9, 0, none⟩), .bool true, .func (.func 43) #[] #[.pointer (some ⟨F + 1, 0, none⟩)], .pointer (some ⟨F + 2, 0, none⟩), .string (getT candB x.1), undef, undef, .bool true, .bool false, .tuple #[.agg #[.int .i64 kd, .string ln, .string sk], .int .i64 0], .string text, .bool time, .tuple #[.agg #[.int .i64 kd, .string ln, .string sk], .int .i64 0], .agg #[.int .i64 kd, .string ln, .string sk], .int .i64 0, .tuple #[.agg #[.int .i64 kd, .string ln, .string sk], .bool true], .string text, .bool time, .tuple #[.agg #[.int .i64 kd, .string ln, .string sk], .bool true], .agg #[.int .i64 kd, .string ln, .string sk], .bool true, .func (.func 43) #[] #[.pointer (some ⟨F + 1, 0, none⟩)], .func (.func 43) #[] #[.pointer (some ⟨F + 1, 0, none⟩)], .bool false, .bool false, .agg #[.int .i64 kd, .string ln, .string sk], .agg #[.int .i64 kd, .string ln, .string sk], .bool false, .bool false, .bool false, .int .i64 0, .bool true, .bool true, .bool false, .bool false, .bool false, .bool true, .bool false, .bool false, undef, undef, .bool false, .bool false, .func (.func 43) #[] #[.pointer (some ⟨F + 1, 0, none⟩)], .string (getT candB x.1), undef, undef, undef, undef, undef, undef, undef, undef, undef, undef, undef, undef, undef, undef, undef, undef, undef, undef, undef, undef, undef, undef, undef, undef, undef, undef], defers := [] }) ?assign ?body ?done ?stop
  case assign =>
    intro l x W K hK
    simp only [encV]
    gi_wp2
    exact hK
  case body =>
    rintro l pre ⟨i, hi⟩ W ⟨hn28, hR⟩ hlen
    have hlen : pre.length < 28 := hlen
    have hi28 : i < 28 := hi
    obtain ⟨n, hn⟩ : ∃ n, pre.length = n := ⟨_, rfl⟩
    have HSnoc := Lib.hid (show (pre ++ [⟨i, hi⟩] : List (Pl candB.length)).length = n + 1 by simp [hn])
    have HUp := Lib.hid (fun h : isUp (pre ++ [⟨i, hi⟩]) => (isUp_last h : i = pre.length))
    rw [hn] at hR hlen HUp
    obtain ⟨lf, hf⟩ := cand_fine i hi28
    have hsk := cand_sk i hi28
    have HP : ∀ W1 : World, Calls Tryz.prog 8 #[.string (getT candB i)] W1 _ := fun W1 => (refSkel_any (getT candB i) (Nat.le_trans hsk.1 (by decide)) W1).mono fun e w2 hp => skelP_yes hf hp
    have HC := fun W1 : World => cand_yes n (by omega) W1
    have hct : (⟨(candL.getD n []).toArray⟩ : ByteArray) = getT candB n := (candB_at n (by omega)).symm
    rw [hct] at HC
    have HEq : getT candB i = getT candB n ∨ ¬ getT candB i = getT candB n := Classical.em _
    have HIn : ¬ getT candB i = getT candB n → i ≠ n := fun h e => h (by rw [e])
    obtain ⟨t, ht⟩ : ∃ t, getT candB i = t := ⟨_, rfl⟩
    obtain ⟨t2, ht2⟩ : ∃ t, getT candB n = t := ⟨_, rfl⟩
    rw [ht] at HP HEq HIn
    rw [ht2] at HC HEq HIn
    show Code.wpIn _ _ _ _ _ ((fun x : ByteArray => { tmps := #[.string text, .bool time, .int .i64 most, undef, undef, .pointer (some ⟨H, 0, none⟩), .pointer (some ⟨H + 1, 0, none⟩), .pointer (some ⟨A7, 0, none⟩), .int .i64 0, .pointer (some ⟨A9, 0, none⟩), .bool true, .func (.func 43) #[] #[.pointer (some ⟨F + 1, 0, none⟩)], .pointer (some ⟨F + 2, 0, none⟩), .string x, undef, undef, .bool true, .bool false, .tuple #[.agg #[.int .i64 kd, .string ln, .string sk], .int .i64 0], .string text, .bool time, .tuple #[.agg #[.int .i64 kd, .string ln, .string sk], .int .i64 0], .agg #[.int .i64 kd, .string ln, .string sk], .int .i64 0, .tuple #[.agg #[.int .i64 kd, .string ln, .string sk], .bool true], .string text, .bool time, .tuple #[.agg #[.int .i64 kd, .string ln, .string sk], .bool true], .agg #[.int .i64 kd, .string ln, .string sk], .bool true, .func (.func 43) #[] #[.pointer (some ⟨F + 1, 0, none⟩)], .func (.func 43) #[] #[.pointer (some ⟨F + 1, 0, none⟩)], .bool false, .bool false, .agg #[.int .i64 kd, .string ln, .string sk], .agg #[.int .i64 kd, .string ln, .string sk], .bool false, .bool false, .bool false, .int .i64 0, .bool true, .bool true, .bool false, .bool false, .bool false, .bool true, .bool false, .bool false, undef, undef, .bool false, .bool false, .func (.func 43) #[] #[.pointer (some ⟨F + 1, 0, none⟩)], .string x, undef, undef, undef, undef, undef, undef, undef, undef, undef, undef, undef, undef, undef, undef, undef, undef, undef, undef, undef, undef, undef, undef, undef, undef, undef, undef], defers := [] }) (getT candB i)) W
    rw [ht]
    clear ht ht2 hct hsk hf hstops
    dsimp only
    gi_wp2_with fail
    refine ⟨trivial, ?_⟩
    refine (CallsIn.inRound l (callsIn_wide.2 (HP W))).mono ?_
    rintro e W2 ⟨v, rfl, hown, hb2⟩
    have hR2 := hR.call hb2
    have hR3 := hR2.alloc (.cells #[.int .i64 0, .int .i64 0] 35)
    have S3 := Blk.new W2 35 #[.int .i64 0, .int .i64 0]
    have c12 := hR3.b12.at_ 0 (v := .int .i64 n) rfl
    have hb3 := hb2.alloc hb2.size (.cells #[.int .i64 0, .int .i64 0] 35)
    clear hown HP
    gi_wp2_with fail
    obtain ⟨G, hG⟩ : ∃ G, W2.heap.size = G := ⟨_, rfl⟩
    rw [hG] at S3 ⊢
    have hGW : W.heap.size ≤ G := by have := hb2.size; omega
    generalize W2.alloc (.cells #[.int .i64 0, .int .i64 0] 35) = W3 at *
    refine ⟨trivial, ?_⟩
    refine (CallsIn.inRound l (callsIn_wide.2 (HC W3))).mono ?_
    rintro e W4 ⟨rfl, hb4⟩
    have hR4 := hR3.call hb4
    have S4 := S3.below hb4 S3.lt
    have s0 := S4.at_ 0 (v := .int .i64 0) rfl
    have hb5 := hb3.trans (hb4.mono hb3.size)
    have d12 := hR4.b12.at_ 0 (v := .int .i64 n) rfl
    have f12 := hR4.b12.frozen 0
    have d5 := hR4.b5.at_ 0 (v := .int .i64 most) rfl
    have d6 := hR4.b6.at_ 0 (v := .bool false) rfl
    have f6 := hR4.b6.frozen 0
    have hWz : F + 3 ≤ W.heap.size := by have := hR.b12.lt; omega
    clear hR3 S3 hb3 hb4 hR2 c12 HC hb2 hG
    have hR5 := hR4.next hHF (n + 1)
    have r5 := hR5.b5.at_ 0 (v := .int .i64 most) rfl
    have r12 := hR5.b12.at_ 0 (v := .int .i64 ((n + 1 : Nat) : Int)) rfl
    have r6 := hR5.b6.at_ 0 (v := .bool false) rfl
    have rf6 := hR5.b6.frozen 0
    rcases HEq with he | he
    · subst he
      by_cases hm : (n : Int) + 1 = most
      · subst hm
        gi_wp2_with fail
        refine ⟨(keeps_below hb5).trans ((KeepsOthers.setCell _ _ _).trans (KeepsOthers.setCell _ _ _)), rfl, hR5.bw.setCell (p := ⟨H + 1, 0, none⟩) (by show H ≤ H + 1; omega) _, true, hR5.b6.set_ 0 _, Or.inl rfl⟩
      · have hm2 : ((n : Int) + 1 == most) = false := beq_eq_false_iff_ne.2 hm
        gi_wp2_with fail
        refine ⟨(keeps_below hb5).trans (KeepsOthers.setCell _ _ _), ⟨(hb5.mono (show F + 2 ≤ W.heap.size by omega)).setCell (p := ⟨F + 2, 0, none⟩) (Nat.le_refl _) _, (Below.heap_setCell _ _ _ _ (by show F + 1 ≠ F + 2; omega)).trans (hb5.block _ (by omega))⟩, by rw [HSnoc.out]; omega, ?_⟩
        rw [HSnoc.out]
        exact hR5
    · have he2 : ¬ t.toList = t2.toList := fun e => he (by rw [Go.Lib.toList_data, Go.Lib.toList_data] at e; exact ByteArray.ext (Array.toList_inj.1 e))
      have he3 : (t.toList != t2.toList) = true := by simpa using he2
      gi_wp2_with fail
      refine ⟨(keeps_below hb5).trans (KeepsOthers.setCell _ _ _), rfl, hR4.bw.setCell (p := ⟨H + 1, 0, none⟩) (by show H ≤ H + 1; omega) _, false, hR4.b6.set_ 0 _, Or.inr (fun h => HIn he (HUp.out h))⟩
  case done =>
    rintro D zs W hD rfl ⟨h28, hR⟩ hK
    rw [upK_length, candB_len] at hR
    have HC := cand_yes 28 (by omega) W
    rw [show (⟨(candL.getD 28 []).toArray⟩ : ByteArray) = ⟨#[]⟩ from rfl] at HC
    have c12 := hR.b12.at_ 0 (v := .int .i64 28) rfl
    gi_wp2_with fail
    refine ⟨trivial, ?_⟩
    refine (callsIn_wide.2 HC).mono ?_
    rintro e W2 ⟨rfl, hb2⟩
    have hDl : D < W.heap.size := (Array.getElem?_eq_some_iff.1 hK).1
    have hK2 := (hb2.block D hDl).trans hK
    have hR2 := hR.call hb2
    have d12 := hR2.b12.at_ 0 (v := .int .i64 28) rfl
    have d6 := hR2.b6.at_ 0 (v := .bool false) rfl
    have f6 := hR2.b6.frozen 0
    have hK' := (KeepsOthers.setCell W2 ⟨H + 1, 0, none⟩ (.bool true)).same D _ hK2 rfl
    have B6 := (hR2.b6.set_ 0 (.bool true)).grown (grownBy_putObj' _ D (.deferred none)) (fun e => by cases e; omega)
    have BB := (hR2.bw.setCell (p := ⟨H + 1, 0, none⟩) (by show H ≤ H + 1; omega) (.bool true)).grown (grownBy_putObj' _ D (.deferred none)) (by have := hR2.b6.lt; simp [World.setCell]; omega) (fun r e => by cases e; omega)
    have r6 := B6.at_ 0 (v := .bool true) rfl
    clear hstops
    gi_wp2_with fail
    refine ⟨by simp, .inl ⟨_, _, rfl, run_takeDeferred hK', ?_⟩⟩
    refine ⟨.bool true, ?_, rfl, by rw [HH.out]; exact BB⟩
    simp [results, Tryz.f3, go_sem, r6]
  case stop =>
    rintro D cd pre W hD hup ⟨rfl, hbw, b, hB, hor⟩ hK
    obtain rfl : b = true := hor.elim id (fun h => absurd hup h)
    have B6 := hB.grown (grownBy_putObj' _ D (.deferred none)) (fun e => by cases e; omega)
    have BB := hbw.grown (grownBy_putObj' _ D (.deferred none)) (by have := hB.lt; omega) (fun r e => by cases e; omega)
    have r6 := B6.at_ 0 (v := .bool true) rfl
    clear hstops
    gi_wp2_with fail
    refine ⟨by simp, .inl ⟨_, _, rfl, run_takeDeferred hK, ?_⟩⟩
    refine ⟨.bool true, ?_, rfl, by rw [HH.out]; exact BB⟩
    simp [results, Tryz.f3, go_sem, r6]
set_option maxRecDepth 100000 in
set_option maxHeartbeats 8000000 in
theorem law_no (text : ByteArray) (time : Bool) (most : Int) (kd : Int) (ln sk : ByteArray)
    (HS : ∀ w, Spc w → Calls Tryz.prog 5 #[.string text, .bool time] w fun e w' => e = .returned (.tuple #[.agg #[.int .i64 kd, .string ln, .string sk], .int .i64 2]) ∧ Below w.heap.size w w')
    (HR : ∀ w, Calls Tryz.prog 6 #[.string text, .bool time] w fun e w' => e = .returned (.tuple #[.agg #[.int .i64 kd, .string ln, .string sk], .bool false]) ∧ Below w.heap.size w w')
    (w : World) (hg : Glob w) : Calls Tryz.prog 3 #[.string text, .bool time, .int .i64 most] w fun e w' => e = .returned (.bool true) ∧ Below w.heap.size w w' := by
  have K5 := (Blk.new w 3 #[.int .i64 most]).alloc (.cells #[.bool false] 4)
  have K6 := Blk.new (w.alloc (.cells #[.int .i64 most] 3)) 4 #[.bool false]
  have KB := ((Below.refl w.heap.size w).alloc (Nat.le_refl _) (.cells #[.int .i64 most] 3)).alloc (by simp) (.cells #[.bool false] 4)
  simp only [World.size_alloc] at K6
  have hg0 := hg.below ((Below.refl w.heap.size w).alloc (Nat.le_refl _) (.cells #[.int .i64 most] 3))
  have hg1 := hg0.below ((Below.refl _ _).alloc (Nat.le_refl _) (.cells #[.bool false] 4))
  clear hg0
  refine (callsIn_wide (n := 3)).1 ?_
  refine callsIn_of_wp_marks Tryz.func3 rfl trivial ?_ rfl
  simp only [Tryz.ntmps3, List.size_toArray, List.length_cons, List.length_nil, Nat.reduceAdd, Nat.reduceSub, Array.replicate_succ, Array.replicate_zero, List.push_toArray, List.append_toArray, List.nil_append, List.cons_append]
  gi_wp2_with fail
  generalize (w.alloc (.cells #[.int .i64 most] 3)).alloc (.cells #[.bool false] 4) = w0 at *
  obtain ⟨H, hH⟩ : ∃ H, w.heap.size = H := ⟨_, rfl⟩
  rw [hH] at K5 K6 KB ⊢
  have h0z : H + 2 ≤ w0.heap.size := by have := K6.lt; omega
  have HH := Lib.hid hH
  clear hH
  refine ⟨trivial, ?_⟩
  refine (callsIn_wide.2 (wakes_yes hg1)).mono ?_
  rintro e w1 ⟨rfl, hb1⟩
  have hg2 := hg1.below hb1
  have K5 := K5.below hb1 (by omega)
  have K6 := K6.below hb1 (by omega)
  have KB := KB.trans (hb1.mono (by omega))
  have h1z : H + 2 ≤ w1.heap.size := by have := hb1.size; omega
  clear hb1 hg1 h0z
  gi_wp2_with fail
  refine ⟨trivial, ?_⟩
  refine (callsIn_wide.2 (HS w1 hg2.spc)).mono ?_
  rintro e w2 ⟨rfl, hb2⟩
  have hg3 := (hg2.below hb2).below ((Below.refl _ _).alloc (Nat.le_refl _) (.cells #[.int .i64 kd, .string ln, .string sk] 24))
  have h2z : H + 2 ≤ w2.heap.size := by have := hb2.size; omega
  have K5 := (K5.below hb2 (by omega)).alloc (.cells #[.int .i64 kd, .string ln, .string sk] 24)
  have K6 := (K6.below hb2 (by omega)).alloc (.cells #[.int .i64 kd, .string ln, .string sk] 24)
  have KB := (KB.trans (hb2.mono (by omega))).alloc (by omega) (.cells #[.int .i64 kd, .string ln, .string sk] 24)
  have K7 := Blk.new w2 24 #[.int .i64 kd, .string ln, .string sk]
  clear hb2 hg2 h1z
  gi_wp2_with fail
  obtain ⟨A7, hA7⟩ : ∃ A7, w2.heap.size = A7 := ⟨_, rfl⟩
  have h7z : A7 < (w2.alloc (.cells #[.int .i64 kd, .string ln, .string sk] 24)).heap.size := by simp; omega
  rw [hA7] at K7 h2z ⊢
  generalize w2.alloc (.cells #[.int .i64 kd, .string ln, .string sk] 24) = w3 at *
  clear hA7
  refine ⟨trivial, ?_⟩
  refine (callsIn_wide.2 (HR w3)).mono ?_
  rintro e w4 ⟨rfl, hb4⟩
  have hg5 := (hg3.below hb4).below ((Below.refl _ _).alloc (Nat.le_refl _) (.cells #[.int .i64 kd, .string ln, .string sk] 24))
  have K5 := (K5.below hb4 (by omega)).alloc (.cells #[.int .i64 kd, .string ln, .string sk] 24)
  have K6 := (K6.below hb4 (by omega)).alloc (.cells #[.int .i64 kd, .string ln, .string sk] 24)
  have K7 := (K7.below hb4 (by omega)).alloc (.cells #[.int .i64 kd, .string ln, .string sk] 24)
  have h4z : A7 < w4.heap.size := by have := hb4.size; omega
  have KB := (KB.trans (hb4.mono (by omega))).alloc (by omega) (.cells #[.int .i64 kd, .string ln, .string sk] 24)
  have K9 := Blk.new w4 24 #[.int .i64 kd, .string ln, .string sk]
  clear hb4 hg3
  gi_wp2_with fail
  obtain ⟨A9, hA9⟩ : ∃ A9, w4.heap.size = A9 := ⟨_, rfl⟩
  have h9z : A9 < (w4.alloc (.cells #[.int .i64 kd, .string ln, .string sk] 24)).heap.size := by simp; omega
  rw [hA9] at K9 h4z ⊢
  generalize w4.alloc (.cells #[.int .i64 kd, .string ln, .string sk] 24) = w5 at *
  clear hA9
  refine ⟨trivial, ?_⟩
  refine (callsIn_wide.2 (cands_any w5 hg5.spc)).mono ?_
  rintro e w6 ⟨rfl, rfl⟩
  have KT : Texts ((w5.alloc (.cells (candB.map Value.string).toArray 9)).alloc (.cells #[.slice (some ⟨w5.heap.size, 0, none⟩) 28 28] 52)) (w5.heap.size + 2) (some ⟨w5.heap.size, 0, none⟩) candB := fun _ => by
    refine ⟨_, rfl, by show w5.heap.size < _; omega, fun i hi => ?_⟩
    have hb := ((Blk.new w5 9 (candB.map Value.string).toArray).alloc (.cells #[.slice (some ⟨w5.heap.size, 0, none⟩) 28 28] 52)).cell i
    have he : (⟨w5.heap.size, 0, none⟩ : Addr).add i = ⟨w5.heap.size, i, none⟩ := by
      unfold Addr.add; split
      · rename_i h; rw [h]
      · simp
    rw [he, hb]
    simp [hi]
  have KX := Blk.new (w5.alloc (.cells (candB.map Value.string).toArray 9)) 52 #[.slice (some ⟨w5.heap.size, 0, none⟩) 28 28]
  simp only [World.size_alloc] at KX
  have K5 := (K5.alloc (.cells (candB.map Value.string).toArray 9)).alloc (.cells #[.slice (some ⟨w5.heap.size, 0, none⟩) 28 28] 52)
  have K6 := (K6.alloc (.cells (candB.map Value.string).toArray 9)).alloc (.cells #[.slice (some ⟨w5.heap.size, 0, none⟩) 28 28] 52)
  have K7 := (K7.alloc (.cells (candB.map Value.string).toArray 9)).alloc (.cells #[.slice (some ⟨w5.heap.size, 0, none⟩) 28 28] 52)
  have K9 := (K9.alloc (.cells (candB.map Value.string).toArray 9)).alloc (.cells #[.slice (some ⟨w5.heap.size, 0, none⟩) 28 28] 52)
  have KB := (KB.alloc (by omega) (.cells (candB.map Value.string).toArray 9)).alloc (by simp; omega) (.cells #[.slice (some ⟨w5.heap.size, 0, none⟩) 28 28] 52)
  have h6z : w5.heap.size + 2 = ((w5.alloc (.cells (candB.map Value.string).toArray 9)).alloc (.cells #[.slice (some ⟨w5.heap.size, 0, none⟩) 28 28] 52)).heap.size := by simp
  clear hg5
  have hfn : ∀ (W : World) (lb : Array Value), (binOp .eql 31 (.func (.func 43) #[] lb) .nilFunc).run Tryz.prog W = .ok (.bool false) W := fun W lb => by
    first | rfl | kernel_rfl | simp [go_sem]
  generalize (w5.alloc (.cells (candB.map Value.string).toArray 9)).alloc (.cells #[.slice (some ⟨w5.heap.size, 0, none⟩) 28 28] 52) = w6 at *
  obtain ⟨F, hF⟩ : ∃ F, w5.heap.size = F := ⟨_, rfl⟩
  rw [hF] at KT KX h6z h9z ⊢
  clear hF
  have c70 := K7.at_ 0 (v := .int .i64 kd) rfl
  have c71 := K7.at_ 1 (v := .string ln) rfl
  have c72 := K7.at_ 2 (v := .string sk) rfl
  have c90 := K9.at_ 0 (v := .int .i64 kd) rfl
  have c91 := K9.at_ 1 (v := .string ln) rfl
  have c92 := K9.at_ 2 (v := .string sk) rfl
  gi_wp2_with fail
  have hF2 : w6.heap.size = F + 2 := h6z.symm
  rw [hF2]
  have K5 := K5.alloc (.cells #[.int .i64 0] 3)
  have K6 := K6.alloc (.cells #[.int .i64 0] 3)
  have KX := KX.alloc (.cells #[.int .i64 0] 3)
  have KN := Blk.new w6 3 #[.int .i64 0]
  rw [hF2] at KN
  have KT := KT.below ((Below.refl (F + 2) w6).alloc (by omega) (.cells #[.int .i64 0] 3))
  have KB := KB.alloc (by omega) (.cells #[.int .i64 0] 3)
  have hlz : (w6.alloc (.cells #[.int .i64 0] 3)).heap.size = F + 3 := by simp; omega
  clear K7 K9 c70 c71 c72 c90 c91 c92
  generalize w6.alloc (.cells #[.int .i64 0] 3) = wl at *
  have hR0 : Rd w H F most 0 wl := ⟨K5, K6, KN, KB⟩
  have hHF : H + 1 < F := by omega
  have hstops := stops_up (F + 1) (F + 2) 28 (some ⟨F, 0, none⟩) wl (by omega) (by omega) (KX.at_ 0 rfl) KT
  clear K5 K6 KN KB KX KT h9z h7z h6z hF2 h4z h2z
  refine wpIn_rangeFunc_ownF rfl (by omega) (gf := 43) (lb := #[.pointer (some ⟨F + 1, 0, none⟩)]) rfl trivial (enters_of Tryz.func43 (by kernel_rfl) rfl) hstops (fun h k => h.trans k) (fun W l o o' hl ho hc hw => KpB.put (w := wl) (by omega) (by omega) l o o' hl ho hc hw) (Below.refl _ _) (fun _ => rfl)
    (fun pre W => pre.length ≤ 28 ∧ Rd w H F most pre.length W)
    (fun cd pre W => cd = .ret ∧ Below H w W ∧ ∃ b : Bool, Blk W (H + 1) 4 #[.bool b] ∧ (b = true ∨ ¬ isUp pre))
    (fun s A B row hs hg hr => ⟨hs.1, hs.2.own (by omega) hg (fun r e => by have := (hr r e).1; omega)⟩)
    (fun cd s A B row hs hg hr => ⟨hs.1, hs.2.1.grown hg (by obtain ⟨b, hb, _⟩ := hs.2.2; have := hb.lt; omega) (fun r e => by have := (hr r e).1; omega), by obtain ⟨b, hb, ho⟩ := hs.2.2; exact ⟨b, hb.grown hg (fun e => by have := (hr _ e.symm).1; omega), ho⟩⟩)
    ⟨by simp, hR0⟩
    (fun x => { tmps := #[.string text, .bool time, .int .i64 most, undef, undef, .pointer (some ⟨H, 0, none⟩), .pointer (some ⟨H + 1, 0, none⟩), .pointer (some ⟨A7, 0, none⟩), .int .i64 2, .pointer (some ⟨A9, 0, none⟩), .bool false, .func (.func 43) #[] #[.pointer (some ⟨F + 1, 0, none⟩)], .pointer (some ⟨F + 2, 0, none⟩), .string (getT candB x.1), undef, undef, .bool true, .bool false, .tuple #[.agg #[.int .i64 kd, .string ln, .string sk], .int .i64 2], .string text, .bool time, .tuple #[.agg #[.int .i64 kd, .string ln, .string sk], .int .i64 2], .agg #[.int .i64 kd, .string ln, .string sk], .int .i64 2, .tuple #[.agg #[.int .i64 kd, .string ln, .string sk], .bool false], .string text, .bool time, .tuple #[.agg #[.int .i64 kd, .string ln, .string sk], .bool false], .agg #[.int .i64 kd, .string ln, .string sk], .bool false, .func (.func 43) #[] #[.pointer (some ⟨F + 1, 0, none⟩)], .func (.func 43) #[] #[.pointer (some ⟨F + 1, 0, none⟩)], .bool false, .bool false, .agg #[.int .i64 kd, .string ln, .string sk], .agg #[.int .i64 kd, .string ln, .string sk], .bool false, .bool false, .bool false, .int .i64 2, .bool false, .bool false, .bool false, .bool false, .bool false, .bool false, .bool true, .bool true, .int .i64 2, .bool false, .bool false, .bool false, .func (.func 43) #[] #[.pointer (some ⟨F + 1, 0, none⟩)], .string (getT candB x.1), undef, undef, undef, undef, undef, undef, undef, undef, undef, undef, undef, undef, undef, undef, undef, undef, undef, undef, undef, undef, undef, undef, undef, undef, undef, undef], defers := [] }) ?assign ?body ?done ?stop
  case assign =>
    intro l x W K hK
    simp only [encV]
    gi_wp2
    exact hK
  case body =>
    rintro l pre ⟨i, hi⟩ W ⟨hn28, hR⟩ hlen
    have hlen : pre.length < 28 := hlen
    have hi28 : i < 28 := hi
    obtain ⟨n, hn⟩ : ∃ n, pre.length = n := ⟨_, rfl⟩
    have HSnoc := Lib.hid (show (pre ++ [⟨i, hi⟩] : List (Pl candB.length)).length = n + 1 by simp [hn])
    have HUp := Lib.hid (fun h : isUp (pre ++ [⟨i, hi⟩]) => (isUp_last h : i = pre.length))
    rw [hn] at hR hlen HUp
    obtain ⟨lf, hf⟩ := cand_fine i hi28
    have hsk := cand_sk i hi28
    have HP : ∀ W1 : World, Calls Tryz.prog 8 #[.string (getT candB i)] W1 _ := fun W1 => (refSkel_any (getT candB i) (Nat.le_trans hsk.1 (by decide)) W1).mono fun e w2 hp => skelP_yes hf hp
    have HC := fun W1 : World => cand_yes n (by omega) W1
    have hct : (⟨(candL.getD n []).toArray⟩ : ByteArray) = getT candB n := (candB_at n (by omega)).symm
    rw [hct] at HC
    have HEq : getT candB i = getT candB n ∨ ¬ getT candB i = getT candB n := Classical.em _
    have HIn : ¬ getT candB i = getT candB n → i ≠ n := fun h e => h (by rw [e])
    obtain ⟨t, ht⟩ : ∃ t, getT candB i = t := ⟨_, rfl⟩
    obtain ⟨t2, ht2⟩ : ∃ t, getT candB n = t := ⟨_, rfl⟩
    rw [ht] at HP HEq HIn
    rw [ht2] at HC HEq HIn
    show Code.wpIn _ _ _ _ _ ((fun x : ByteArray => { tmps := #[.string text, .bool time, .int .i64 most, undef, undef, .pointer (some ⟨H, 0, none⟩), .pointer (some ⟨H + 1, 0, none⟩), .pointer (some ⟨A7, 0, none⟩), .int .i64 2, .pointer (some ⟨A9, 0, none⟩), .bool false, .func (.func 43) #[] #[.pointer (some ⟨F + 1, 0, none⟩)], .pointer (some ⟨F + 2, 0, none⟩), .string x, undef, undef, .bool true, .bool false, .tuple #[.agg #[.int .i64 kd, .string ln, .string sk], .int .i64 2], .string text, .bool time, .tuple #[.agg #[.int .i64 kd, .string ln, .string sk], .int .i64 2], .agg #[.int .i64 kd, .string ln, .string sk], .int .i64 2, .tuple #[.agg #[.int .i64 kd, .string ln, .string sk], .bool false], .string text, .bool time, .tuple #[.agg #[.int .i64 kd, .string ln, .string sk], .bool false], .agg #[.int .i64 kd, .string ln, .string sk], .bool false, .func (.func 43) #[] #[.pointer (some ⟨F + 1, 0, none⟩)], .func (.func 43) #[] #[.pointer (some ⟨F + 1, 0, none⟩)], .bool false, .bool false, .agg #[.int .i64 kd, .string ln, .string sk], .agg #[.int .i64 kd, .string ln, .string sk], .bool false, .bool false, .bool false, .int .i64 2, .bool false, .bool false, .bool false, .bool false, .bool false, .bool false, .bool true, .bool true, .int .i64 2, .bool false, .bool false, .bool false, .func (.func 43) #[] #[.pointer (some ⟨F + 1, 0, none⟩)], .string x, undef, undef, undef, undef, undef, undef, undef, undef, undef, undef, undef, undef, undef, undef, undef, undef, undef, undef, undef, undef, undef, undef, undef, undef, undef, undef], defers := [] }) (getT candB i)) W
    rw [ht]
    clear ht ht2 hct hsk hf hstops
    dsimp only
    gi_wp2_with fail
    refine ⟨trivial, ?_⟩
    refine (CallsIn.inRound l (callsIn_wide.2 (HP W))).mono ?_
    rintro e W2 ⟨v, rfl, hown, hb2⟩
    have hR2 := hR.call hb2
    have hR3 := hR2.alloc (.cells #[.int .i64 0, .int .i64 0] 35)
    have S3 := Blk.new W2 35 #[.int .i64 0, .int .i64 0]
    have c12 := hR3.b12.at_ 0 (v := .int .i64 n) rfl
    have hb3 := hb2.alloc hb2.size (.cells #[.int .i64 0, .int .i64 0] 35)
    clear hown HP
    gi_wp2_with fail
    obtain ⟨G, hG⟩ : ∃ G, W2.heap.size = G := ⟨_, rfl⟩
    rw [hG] at S3 ⊢
    have hGW : W.heap.size ≤ G := by have := hb2.size; omega
    generalize W2.alloc (.cells #[.int .i64 0, .int .i64 0] 35) = W3 at *
    refine ⟨trivial, ?_⟩
    refine (CallsIn.inRound l (callsIn_wide.2 (HC W3))).mono ?_
    rintro e W4 ⟨rfl, hb4⟩
    have hR4 := hR3.call hb4
    have S4 := S3.below hb4 S3.lt
    have s0 := S4.at_ 0 (v := .int .i64 0) rfl
    have hb5 := hb3.trans (hb4.mono hb3.size)
    have d12 := hR4.b12.at_ 0 (v := .int .i64 n) rfl
    have f12 := hR4.b12.frozen 0
    have d5 := hR4.b5.at_ 0 (v := .int .i64 most) rfl
    have d6 := hR4.b6.at_ 0 (v := .bool false) rfl
    have f6 := hR4.b6.frozen 0
    have hWz : F + 3 ≤ W.heap.size := by have := hR.b12.lt; omega
    clear hR3 S3 hb3 hb4 hR2 c12 HC hb2 hG
    have hR5 := hR4.next hHF (n + 1)
    have r5 := hR5.b5.at_ 0 (v := .int .i64 most) rfl
    have r12 := hR5.b12.at_ 0 (v := .int .i64 ((n + 1 : Nat) : Int)) rfl
    have r6 := hR5.b6.at_ 0 (v := .bool false) rfl
    have rf6 := hR5.b6.frozen 0
    rcases HEq with he | he
    · subst he
      by_cases hm : (n : Int) + 1 = most
      · subst hm
        gi_wp2_with fail
        refine ⟨(keeps_below hb5).trans ((KeepsOthers.setCell _ _ _).trans (KeepsOthers.setCell _ _ _)), rfl, hR5.bw.setCell (p := ⟨H + 1, 0, none⟩) (by show H ≤ H + 1; omega) _, true, hR5.b6.set_ 0 _, Or.inl rfl⟩
      · have hm2 : ((n : Int) + 1 == most) = false := beq_eq_false_iff_ne.2 hm
        gi_wp2_with fail
        refine ⟨(keeps_below hb5).trans (KeepsOthers.setCell _ _ _), ⟨(hb5.mono (show F + 2 ≤ W.heap.size by omega)).setCell (p := ⟨F + 2, 0, none⟩) (Nat.le_refl _) _, (Below.heap_setCell _ _ _ _ (by show F + 1 ≠ F + 2; omega)).trans (hb5.block _ (by omega))⟩, by rw [HSnoc.out]; omega, ?_⟩
        rw [HSnoc.out]
        exact hR5
    · have he2 : ¬ t.toList = t2.toList := fun e => he (by rw [Go.Lib.toList_data, Go.Lib.toList_data] at e; exact ByteArray.ext (Array.toList_inj.1 e))
      have he3 : (t.toList != t2.toList) = true := by simpa using he2
      gi_wp2_with fail
      refine ⟨(keeps_below hb5).trans (KeepsOthers.setCell _ _ _), rfl, hR4.bw.setCell (p := ⟨H + 1, 0, none⟩) (by show H ≤ H + 1; omega) _, false, hR4.b6.set_ 0 _, Or.inr (fun h => HIn he (HUp.out h))⟩
  case done =>
    rintro D zs W hD rfl ⟨h28, hR⟩ hK
    rw [upK_length, candB_len] at hR
    have HC := cand_yes 28 (by omega) W
    rw [show (⟨(candL.getD 28 []).toArray⟩ : ByteArray) = ⟨#[]⟩ from rfl] at HC
    have c12 := hR.b12.at_ 0 (v := .int .i64 28) rfl
    gi_wp2_with fail
    refine ⟨trivial, ?_⟩
    refine (callsIn_wide.2 HC).mono ?_
    rintro e W2 ⟨rfl, hb2⟩
    have hDl : D < W.heap.size := (Array.getElem?_eq_some_iff.1 hK).1
    have hK2 := (hb2.block D hDl).trans hK
    have hR2 := hR.call hb2
    have d12 := hR2.b12.at_ 0 (v := .int .i64 28) rfl
    have d6 := hR2.b6.at_ 0 (v := .bool false) rfl
    have f6 := hR2.b6.frozen 0
    have hK' := (KeepsOthers.setCell W2 ⟨H + 1, 0, none⟩ (.bool true)).same D _ hK2 rfl
    have B6 := (hR2.b6.set_ 0 (.bool true)).grown (grownBy_putObj' _ D (.deferred none)) (fun e => by cases e; omega)
    have BB := (hR2.bw.setCell (p := ⟨H + 1, 0, none⟩) (by show H ≤ H + 1; omega) (.bool true)).grown (grownBy_putObj' _ D (.deferred none)) (by have := hR2.b6.lt; simp [World.setCell]; omega) (fun r e => by cases e; omega)
    have r6 := B6.at_ 0 (v := .bool true) rfl
    clear hstops
    gi_wp2_with fail
    refine ⟨by simp, .inl ⟨_, _, rfl, run_takeDeferred hK', ?_⟩⟩
    refine ⟨.bool true, ?_, rfl, by rw [HH.out]; exact BB⟩
    simp [results, Tryz.f3, go_sem, r6]
  case stop =>
    rintro D cd pre W hD hup ⟨rfl, hbw, b, hB, hor⟩ hK
    obtain rfl : b = true := hor.elim id (fun h => absurd hup h)
    have B6 := hB.grown (grownBy_putObj' _ D (.deferred none)) (fun e => by cases e; omega)
    have BB := hbw.grown (grownBy_putObj' _ D (.deferred none)) (by have := hB.lt; omega) (fun r e => by cases e; omega)
    have r6 := B6.at_ 0 (v := .bool true) rfl
    clear hstops
    gi_wp2_with fail
    refine ⟨by simp, .inl ⟨_, _, rfl, run_takeDeferred hK, ?_⟩⟩
    refine ⟨.bool true, ?_, rfl, by rw [HH.out]; exact BB⟩
    simp [results, Tryz.f3, go_sem, r6]
theorem law_yes (text : ByteArray) (hs : text.size ≤ 281474976710656) (time : Bool) (most : Int) (hm : -9223372036854775808 ≤ most ∧ most ≤ 9223372036854775807) (w : World) (hg : Glob w) :
    Calls Tryz.prog 3 #[.string text, .bool time, .int .i64 most] w fun e w' => e = .returned (.bool true) ∧ Below w.heap.size w w' := by
  rcases both_any text time hs with ⟨kd, ln, sk, h1, h2⟩ | ⟨h1, h2⟩
  · exact law_ok text time most kd ln sk h1 h2 w hg
  · exact law_no text time most 0 ⟨#[]⟩ ⟨#[]⟩ h1 h2 w hg
end Go.Proofs.YtdkekhaamhphcaaGreatDoor
