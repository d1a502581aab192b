/-
  compose.List: things put together in a locale's words. Conditions: the slices read as these texts, as what is said; what the listed variables hold; sizes.
  compose.List of three things and more. Conditions: the slices read as these texts, as what is said; what the listed variables hold; sizes.
  compose.List at everything. Conditions: the slices read as these texts, as what is said; what the listed variables hold; sizes.
-/
import Derived.Test.YtpcgcghhddnifaaGreatDoorGf
import Derived.Test.YtpcgcghhddnifaaGreatDoorPu
import Derived.Test.YtpcgcghhddnifaaGreatDoorCa
import Derived.RangeFuncFrom
set_option linter.unusedVariables false
set_option linter.unusedSimpArgs false
namespace Go.Proofs.YtpcgcghhddnifaaGreatDoor
open Go.RowKit Go.Shelf
open Ph
attribute [local go_sem] Oper.semAt_some
theorem KeepsOthers.of_below {W W' : World} (h : Below W.heap.size W W') : KeepsOthers W W' := ⟨h.size, fun j o hj _ => (h.block j (by
  rcases Nat.lt_or_ge j W.heap.size with g | g
  · exact g
  · rw [Array.getElem?_eq_none g] at hj; cases hj)).trans hj⟩
theorem partT_size (L : List Sd) (loc st nm : ByteArray) (hx : ∀ x ∈ L, x.text.size ≤ 281474976710656) : (partT L loc st nm).size ≤ 281474976710656 := by
  have h1 : ∀ (p o : ByteArray), o.size ≤ 281474976710656 → (askT L loc p 2 o).size ≤ 281474976710656 := fun p o ho => by
    unfold askT
    split
    · rename_i t hv
      obtain ⟨x, hm, rfl⟩ := valueOf_mem hv
      split
      · exact hx x hm
      · exact ho
    · exact ho
  exact h1 _ _ (h1 _ _ (by decide))
/-- what List's own five blocks hold -/
structure Box5 (H : Nat) (v : Value) (loc st : ByteArray) (w : World) : Prop where
  b4 : Blk w H 69 #[v]
  b5 : Blk w (H + 1) 9 #[.string loc]
  b7 : Blk w (H + 2) 9 #[.string st]
  b8 : Blk w (H + 3) 9 #[.string ⟨#[]⟩]
  b9 : Blk w (H + 4) 30 #[.int .i64 0]
theorem Box5.below {H : Nat} {v : Value} {loc st : ByteArray} {w w' : World} {B : Nat} (h : Box5 H v loc st w) (hb : Below B w w') (hB : H + 5 ≤ B) : Box5 H v loc st w' :=
  ⟨h.b4.below hb (by omega), h.b5.below hb (by omega), h.b7.below hb (by omega), h.b8.below hb (by omega), h.b9.below hb (by omega)⟩
theorem Blk.new' (w : World) (t : TypeId) (cs : Array Value) (n : Nat) (h : n = w.heap.size) : Blk (w.alloc (.cells cs t)) n t cs := by subst h; exact Blk.new w t cs
theorem box5_new (w : World) (v : Value) (loc st : ByteArray) : Box5 w.heap.size v loc st (((((w.alloc (.cells #[v] 69)).alloc (.cells #[.string loc] 9)).alloc (.cells #[.string st] 9)).alloc (.cells #[.string ⟨#[]⟩] 9)).alloc (.cells #[.int .i64 0] 30)) :=
  ⟨((((Blk.new _ _ _).alloc _).alloc _).alloc _).alloc _, (((Blk.new' _ _ _ _ (by simp)).alloc _).alloc _).alloc _, ((Blk.new' _ _ _ _ (by simp)).alloc _).alloc _, (Blk.new' _ _ _ _ (by simp)).alloc _, Blk.new' _ _ _ _ (by simp)⟩
theorem below5 (w : World) (v : Value) (loc st : ByteArray) : Below w.heap.size w (((((w.alloc (.cells #[v] 69)).alloc (.cells #[.string loc] 9)).alloc (.cells #[.string st] 9)).alloc (.cells #[.string ⟨#[]⟩] 9)).alloc (.cells #[.int .i64 0] 30)) :=
  (((((Below.refl _ _).alloc (Nat.le_refl _) _).alloc (by simp) _).alloc (by simp; omega) _).alloc (by simp; omega) _).alloc (by simp; omega) _
theorem size5 (w : World) (v : Value) (loc st : ByteArray) : (((((w.alloc (.cells #[v] 69)).alloc (.cells #[.string loc] 9)).alloc (.cells #[.string st] 9)).alloc (.cells #[.string ⟨#[]⟩] 9)).alloc (.cells #[.int .i64 0] 30)).heap.size = w.heap.size + 5 := by simp
theorem fin_cells {H : Nat} {w : World} {x y : Value} (b8 : Blk w (H + 3) 9 #[x]) (b9 : Blk w (H + 4) 30 #[y]) (u v : Value) :
    ((w.setCell ⟨H + 3, 0, none⟩ u).setCell ⟨H + 4, 0, none⟩ v).cell? ⟨H + 3, 0, none⟩ = some u ∧ ((w.setCell ⟨H + 3, 0, none⟩ u).setCell ⟨H + 4, 0, none⟩ v).cell? ⟨H + 4, 0, none⟩ = some v :=
  ⟨((b8.set_ 0 u).far (p := ⟨H + 4, 0, none⟩) (by show H + 3 ≠ H + 4; omega) v).at_ 0 rfl, ((b9.far (p := ⟨H + 3, 0, none⟩) (by show H + 4 ≠ H + 3; omega) u).set_ 0 v).at_ 0 rfl⟩
theorem fin_below {H : Nat} {w0 w : World} (hb : Below H w0 w) (u v : Value) : Below H w0 ((w.setCell ⟨H + 3, 0, none⟩ u).setCell ⟨H + 4, 0, none⟩ v) := (hb.setCell (p := ⟨H + 3, 0, none⟩) (by show H ≤ H + 3; omega) u).setCell (p := ⟨H + 4, 0, none⟩) (by show H ≤ H + 4; omega) v
set_option maxRecDepth 100000 in
set_option maxHeartbeats 4000000 in
theorem list_name (A : Option Addr) (L : List Sd) (c : Nat) (loc st : ByteArray) (v : Value) (h1 : st.size ≤ 281474976710656) (h : isNameB st = false) (w : World) :
    Calls Tryz.prog 10 #[srcV A L.length c, .string loc, v, .string st] w fun e w' => e = .returned (.tuple #[.string ⟨#[]⟩, .int .i64 2]) ∧ Below w.heap.size w w' := by
  have H := isName_any st h1
  rw [h] at H
  have X := box5_new w (srcV A L.length c) loc st
  have XB := below5 w (srcV A L.length c) loc st
  have XZ := size5 w (srcV A L.length c) loc st
  unfold srcV at X XB XZ ⊢
  go_enter Tryz.func10, Tryz.ntmps10
  go_wp2_with fail
  generalize (((((w.alloc (.cells #[(.iface 28 (.agg #[.slice A L.length c]))] 69)).alloc (.cells #[.string loc] 9)).alloc (.cells #[.string st] 9)).alloc (.cells #[.string ⟨#[]⟩] 9)).alloc (.cells #[.int .i64 0] 30)) = w5 at *
  obtain ⟨b4, b5, b7, b8, b9⟩ := X
  have c7 := b7.at_ 0 (v := .string st) rfl
  have c8 := b8.at_ 0 (v := .string ⟨#[]⟩) rfl
  have f8 := b8.frozen 0
  have c9 := b9.at_ 0 (v := .int .i64 0) rfl
  have f9 := b9.frozen 0
  refine (H _).mono ?_
  rintro e w1 ⟨rfl, rfl⟩
  clear H
  go_wp2_with fail
  obtain ⟨d8, d9⟩ := fin_cells b8 b9 (.string ⟨#[]⟩) (.int .i64 2)
  refine bodyPost_ret (v := .tuple #[.string ⟨#[]⟩, .int .i64 2]) ?_ rfl ⟨rfl, fin_below XB (.string ⟨#[]⟩) (.int .i64 2)⟩
  simp [results, Tryz.results10, go_sem, d8, d9]
set_option maxRecDepth 100000 in
set_option maxHeartbeats 4000000 in
theorem list_long (A : Option Addr) (L : List Sd) (c : Nat) (loc st : ByteArray) (AA : Option Addr) (N cc : Nat) (h1 : st.size ≤ 281474976710656) (h : isNameB st = true) (hN : 1024 < N) (w : World) :
    Calls Tryz.prog 10 #[srcV A L.length c, .string loc, .slice AA N cc, .string st] w fun e w' => e = .returned (.tuple #[.string ⟨#[]⟩, .int .i64 3]) ∧ Below w.heap.size w w' := by
  have hN' : (1024 : Int) < (N : Int) := by omega
  have H := isName_any st h1
  rw [h] at H
  have X := box5_new w (srcV A L.length c) loc st
  have XB := below5 w (srcV A L.length c) loc st
  have XZ := size5 w (srcV A L.length c) loc st
  unfold srcV at X XB XZ ⊢
  go_enter Tryz.func10, Tryz.ntmps10
  go_wp2_with fail
  generalize (((((w.alloc (.cells #[(.iface 28 (.agg #[.slice A L.length c]))] 69)).alloc (.cells #[.string loc] 9)).alloc (.cells #[.string st] 9)).alloc (.cells #[.string ⟨#[]⟩] 9)).alloc (.cells #[.int .i64 0] 30)) = w5 at *
  obtain ⟨b4, b5, b7, b8, b9⟩ := X
  have c7 := b7.at_ 0 (v := .string st) rfl
  have c8 := b8.at_ 0 (v := .string ⟨#[]⟩) rfl
  have f8 := b8.frozen 0
  have c9 := b9.at_ 0 (v := .int .i64 0) rfl
  have f9 := b9.frozen 0
  refine (H _).mono ?_
  rintro e w1 ⟨rfl, rfl⟩
  clear H
  go_wp2_with fail
  obtain ⟨d8, d9⟩ := fin_cells b8 b9 (.string ⟨#[]⟩) (.int .i64 3)
  refine bodyPost_ret (v := .tuple #[.string ⟨#[]⟩, .int .i64 3]) ?_ rfl ⟨rfl, fin_below XB (.string ⟨#[]⟩) (.int .i64 3)⟩
  simp [results, Tryz.results10, go_sem, d8, d9]
set_option maxRecDepth 100000 in
set_option maxHeartbeats 4000000 in
theorem list_utf (A : Option Addr) (L : List Sd) (c B : Nat) (loc st : ByteArray) (AA : Option Addr) (xs : List ByteArray) (cc : Nat) (h1 : st.size ≤ 281474976710656) (h : isNameB st = true) (hN : xs.length ≤ 1024) (hx : ∀ x ∈ xs, x.size ≤ 281474976710656) (hu : xs.any wrongU = true) (w : World) (hX : Texts w B AA xs) (hB : B ≤ w.heap.size) :
    Calls Tryz.prog 10 #[srcV A L.length c, .string loc, .slice AA xs.length cc, .string st] w fun e w' => e = .returned (.tuple #[.string ⟨#[]⟩, .int .i64 6]) ∧ Below w.heap.size w w' := by
  have hN' : ¬ (1024 : Int) < (xs.length : Int) := by omega
  have HC := fun (w : World) (hX) (hB) => contains_check AA xs cc B (by omega) hx w hX hB
  rw [hu] at HC
  have H := isName_any st h1
  rw [h] at H
  have X := box5_new w (srcV A L.length c) loc st
  have XB := below5 w (srcV A L.length c) loc st
  have XZ := size5 w (srcV A L.length c) loc st
  unfold srcV at X XB XZ ⊢
  go_enter Tryz.func10, Tryz.ntmps10
  go_wp2_with fail
  generalize (((((w.alloc (.cells #[(.iface 28 (.agg #[.slice A L.length c]))] 69)).alloc (.cells #[.string loc] 9)).alloc (.cells #[.string st] 9)).alloc (.cells #[.string ⟨#[]⟩] 9)).alloc (.cells #[.int .i64 0] 30)) = w5 at *
  obtain ⟨b4, b5, b7, b8, b9⟩ := X
  have c7 := b7.at_ 0 (v := .string st) rfl
  have c8 := b8.at_ 0 (v := .string ⟨#[]⟩) rfl
  have f8 := b8.frozen 0
  have c9 := b9.at_ 0 (v := .int .i64 0) rfl
  have f9 := b9.frozen 0
  refine (H _).mono ?_
  rintro e w1 ⟨rfl, rfl⟩
  clear H
  have HC2 := HC w1 (hX.below (XB.mono hB)) (Nat.le_trans hB (by omega))
  clear HC
  go_wp2_with fail
  refine HC2.mono ?_
  rintro e w6 ⟨rfl, hb6⟩
  have k4 := b4.below hb6 (by omega)
  have k5 := b5.below hb6 (by omega)
  have k7 := b7.below hb6 (by omega)
  have k8 := b8.below hb6 (by omega)
  have k9 := b9.below hb6 (by omega)
  have KB := XB.trans (hb6.mono (by omega))
  have KZ : w.heap.size + 5 ≤ w6.heap.size := by have := hb6.size; omega
  clear b4 b5 b7 b8 b9 c7 c8 f8 c9 f9 XB XZ hb6
  have c4 := k4.at_ 0 (v := (.iface 28 (.agg #[.slice A L.length c]))) rfl
  have c5 := k5.at_ 0 (v := .string loc) rfl
  have c7 := k7.at_ 0 (v := .string st) rfl
  have c8 := k8.at_ 0 (v := .string ⟨#[]⟩) rfl
  have f8 := k8.frozen 0
  have c9 := k9.at_ 0 (v := .int .i64 0) rfl
  have f9 := k9.frozen 0
  go_wp2_with fail
  obtain ⟨d8, d9⟩ := fin_cells k8 k9 (.string ⟨#[]⟩) (.int .i64 6)
  refine bodyPost_ret (v := .tuple #[.string ⟨#[]⟩, .int .i64 6]) ?_ rfl ⟨rfl, fin_below KB (.string ⟨#[]⟩) (.int .i64 6)⟩
  simp [results, Tryz.results10, go_sem, d8, d9]
set_option maxRecDepth 100000 in
set_option maxHeartbeats 4000000 in
theorem list_0 (A : Option Addr) (L : List Sd) (c B : Nat) (loc st : ByteArray) (AA : Option Addr) (xs : List ByteArray) (cc : Nat) (h1 : st.size ≤ 281474976710656) (h : isNameB st = true) (h0 : xs.length = 0) (hx : ∀ x ∈ xs, x.size ≤ 281474976710656) (hu : xs.any wrongU = false) (w : World) (hX : Texts w B AA xs) (hB : B ≤ w.heap.size) :
    Calls Tryz.prog 10 #[srcV A L.length c, .string loc, .slice AA xs.length cc, .string st] w fun e w' => e = .returned (.tuple #[.string ⟨#[]⟩, .int .i64 0]) ∧ Below w.heap.size w w' := by
  have hN' : ¬ (1024 : Int) < (xs.length : Int) := by omega
  have n0 : ((xs.length : Int) == 0) = true := by rw [h0]; rfl
  have hN : xs.length ≤ 1024 := by omega
  have H0 := Lib.hid h0
  clear h0
  have HC := fun (w : World) (hX) (hB) => contains_check AA xs cc B (by omega) hx w hX hB
  rw [hu] at HC
  have H := isName_any st h1
  rw [h] at H
  have X := box5_new w (srcV A L.length c) loc st
  have XB := below5 w (srcV A L.length c) loc st
  have XZ := size5 w (srcV A L.length c) loc st
  unfold srcV at X XB XZ ⊢
  go_enter Tryz.func10, Tryz.ntmps10
  go_wp2_with fail
  generalize (((((w.alloc (.cells #[(.iface 28 (.agg #[.slice A L.length c]))] 69)).alloc (.cells #[.string loc] 9)).alloc (.cells #[.string st] 9)).alloc (.cells #[.string ⟨#[]⟩] 9)).alloc (.cells #[.int .i64 0] 30)) = w5 at *
  obtain ⟨b4, b5, b7, b8, b9⟩ := X
  have c7 := b7.at_ 0 (v := .string st) rfl
  have c8 := b8.at_ 0 (v := .string ⟨#[]⟩) rfl
  have f8 := b8.frozen 0
  have c9 := b9.at_ 0 (v := .int .i64 0) rfl
  have f9 := b9.frozen 0
  refine (H _).mono ?_
  rintro e w1 ⟨rfl, rfl⟩
  clear H
  have HC2 := HC w1 (hX.below (XB.mono hB)) (Nat.le_trans hB (by omega))
  clear HC
  go_wp2_with fail
  refine HC2.mono ?_
  rintro e w6 ⟨rfl, hb6⟩
  have k4 := b4.below hb6 (by omega)
  have k5 := b5.below hb6 (by omega)
  have k7 := b7.below hb6 (by omega)
  have k8 := b8.below hb6 (by omega)
  have k9 := b9.below hb6 (by omega)
  have KB := XB.trans (hb6.mono (by omega))
  have KZ : w.heap.size + 5 ≤ w6.heap.size := by have := hb6.size; omega
  clear b4 b5 b7 b8 b9 c7 c8 f8 c9 f9 XB XZ hb6
  have c4 := k4.at_ 0 (v := (.iface 28 (.agg #[.slice A L.length c]))) rfl
  have c5 := k5.at_ 0 (v := .string loc) rfl
  have c7 := k7.at_ 0 (v := .string st) rfl
  have c8 := k8.at_ 0 (v := .string ⟨#[]⟩) rfl
  have f8 := k8.frozen 0
  have c9 := k9.at_ 0 (v := .int .i64 0) rfl
  have f9 := k9.frozen 0
  clear c4 c5 c7 c8 f8 c9 f9
  go_upto_region 10 with fail
  have m4 := k4.alloc (.cells #[.int .i64 (xs.length : Int)] 3)
  have m5 := k5.alloc (.cells #[.int .i64 (xs.length : Int)] 3)
  have m7 := k7.alloc (.cells #[.int .i64 (xs.length : Int)] 3)
  have m8 := k8.alloc (.cells #[.int .i64 (xs.length : Int)] 3)
  have m9 := k9.alloc (.cells #[.int .i64 (xs.length : Int)] 3)
  have m10 := Blk.new w6 3 #[.int .i64 (xs.length : Int)]
  have KB2 := KB.alloc (by omega) (.cells #[.int .i64 (xs.length : Int)] 3)
  have hz7 : (w6.alloc (.cells #[.int .i64 (xs.length : Int)] 3)).heap.size = w6.heap.size + 1 := by simp
  generalize w6.alloc (.cells #[.int .i64 (xs.length : Int)] 3) = w7 at *
  clear k4 k5 k7 k8 k9 KB
  have c4 := m4.at_ 0 (v := (.iface 28 (.agg #[.slice A L.length c]))) rfl
  have c5 := m5.at_ 0 (v := .string loc) rfl
  have c7 := m7.at_ 0 (v := .string st) rfl
  have c8 := m8.at_ 0 (v := .string ⟨#[]⟩) rfl
  have f8 := m8.frozen 0
  have c9 := m9.at_ 0 (v := .int .i64 0) rfl
  have f9 := m9.frozen 0
  have c10 := m10.at_ 0 (v := .int .i64 (xs.length : Int)) rfl
  go_wp2_with fail
  obtain ⟨d8, d9⟩ := fin_cells m8 m9 (.string ⟨#[]⟩) (.int .i64 0)
  refine bodyPost_ret (v := .tuple #[.string ⟨#[]⟩, .int .i64 0]) ?_ rfl ⟨rfl, fin_below KB2 (.string ⟨#[]⟩) (.int .i64 0)⟩
  simp [results, Tryz.results10, go_sem, d8, d9]
set_option maxRecDepth 100000 in
set_option maxHeartbeats 4000000 in
theorem list_1l (A : Option Addr) (L : List Sd) (c B : Nat) (loc st : ByteArray) (AA : Option Addr) (xs : List ByteArray) (cc : Nat) (h1 : st.size ≤ 281474976710656) (h : isNameB st = true) (h0 : xs.length = 1) (hs : 262144 < (getT xs 0).size) (hx : ∀ x ∈ xs, x.size ≤ 281474976710656) (hu : xs.any wrongU = false) (w : World) (hX : Texts w B AA xs) (hB : B ≤ w.heap.size) :
    Calls Tryz.prog 10 #[srcV A L.length c, .string loc, .slice AA xs.length cc, .string st] w fun e w' => e = .returned (.tuple #[.string ⟨#[]⟩, .int .i64 3]) ∧ Below w.heap.size w w' := by
  have hN' : ¬ (1024 : Int) < (xs.length : Int) := by omega
  have n0 : ((xs.length : Int) == 0) = false := by rw [h0]; rfl
  have n1 : ((xs.length : Int) == 1) = true := by rw [h0]; rfl
  have l0 : (0 : Int) < xs.length := by omega
  have hN : xs.length ≤ 1024 := by omega
  have hXc : ∀ wr, Texts wr B AA xs → ∃ ad : Addr, AA = some ad ∧ wr.cell? ad = some (.string (getT xs 0)) := fun wr h => by
    obtain ⟨ad, e, _, hc⟩ := h (by omega)
    exact ⟨ad, e, by rw [getT_get (by omega)]; have := hc 0 (by omega); rwa [add_zero] at this⟩
  have H0 := Lib.hid h0
  clear h0
  generalize getT xs 0 = y at *
  have HC := fun (w : World) (hX) (hB) => contains_check AA xs cc B (by omega) hx w hX hB
  rw [hu] at HC
  have H := isName_any st h1
  rw [h] at H
  have X := box5_new w (srcV A L.length c) loc st
  have XB := below5 w (srcV A L.length c) loc st
  have XZ := size5 w (srcV A L.length c) loc st
  unfold srcV at X XB XZ ⊢
  go_enter Tryz.func10, Tryz.ntmps10
  go_wp2_with fail
  generalize (((((w.alloc (.cells #[(.iface 28 (.agg #[.slice A L.length c]))] 69)).alloc (.cells #[.string loc] 9)).alloc (.cells #[.string st] 9)).alloc (.cells #[.string ⟨#[]⟩] 9)).alloc (.cells #[.int .i64 0] 30)) = w5 at *
  obtain ⟨b4, b5, b7, b8, b9⟩ := X
  have c7 := b7.at_ 0 (v := .string st) rfl
  have c8 := b8.at_ 0 (v := .string ⟨#[]⟩) rfl
  have f8 := b8.frozen 0
  have c9 := b9.at_ 0 (v := .int .i64 0) rfl
  have f9 := b9.frozen 0
  refine (H _).mono ?_
  rintro e w1 ⟨rfl, rfl⟩
  clear H
  have HC2 := HC w1 (hX.below (XB.mono hB)) (Nat.le_trans hB (by omega))
  clear HC
  go_wp2_with fail
  refine HC2.mono ?_
  rintro e w6 ⟨rfl, hb6⟩
  have k4 := b4.below hb6 (by omega)
  have k5 := b5.below hb6 (by omega)
  have k7 := b7.below hb6 (by omega)
  have k8 := b8.below hb6 (by omega)
  have k9 := b9.below hb6 (by omega)
  have KB := XB.trans (hb6.mono (by omega))
  have KZ : w.heap.size + 5 ≤ w6.heap.size := by have := hb6.size; omega
  clear b4 b5 b7 b8 b9 c7 c8 f8 c9 f9 XB XZ hb6
  have c4 := k4.at_ 0 (v := (.iface 28 (.agg #[.slice A L.length c]))) rfl
  have c5 := k5.at_ 0 (v := .string loc) rfl
  have c7 := k7.at_ 0 (v := .string st) rfl
  have c8 := k8.at_ 0 (v := .string ⟨#[]⟩) rfl
  have f8 := k8.frozen 0
  have c9 := k9.at_ 0 (v := .int .i64 0) rfl
  have f9 := k9.frozen 0
  clear c4 c5 c7 c8 f8 c9 f9
  go_upto_region 10 with fail
  have m4 := k4.alloc (.cells #[.int .i64 (xs.length : Int)] 3)
  have m5 := k5.alloc (.cells #[.int .i64 (xs.length : Int)] 3)
  have m7 := k7.alloc (.cells #[.int .i64 (xs.length : Int)] 3)
  have m8 := k8.alloc (.cells #[.int .i64 (xs.length : Int)] 3)
  have m9 := k9.alloc (.cells #[.int .i64 (xs.length : Int)] 3)
  have m10 := Blk.new w6 3 #[.int .i64 (xs.length : Int)]
  have KB2 := KB.alloc (by omega) (.cells #[.int .i64 (xs.length : Int)] 3)
  have hz7 : (w6.alloc (.cells #[.int .i64 (xs.length : Int)] 3)).heap.size = w6.heap.size + 1 := by simp
  generalize w6.alloc (.cells #[.int .i64 (xs.length : Int)] 3) = w7 at *
  clear k4 k5 k7 k8 k9 KB
  have c4 := m4.at_ 0 (v := (.iface 28 (.agg #[.slice A L.length c]))) rfl
  have c5 := m5.at_ 0 (v := .string loc) rfl
  have c7 := m7.at_ 0 (v := .string st) rfl
  have c8 := m8.at_ 0 (v := .string ⟨#[]⟩) rfl
  have f8 := m8.frozen 0
  have c9 := m9.at_ 0 (v := .int .i64 0) rfl
  have f9 := m9.frozen 0
  have c10 := m10.at_ 0 (v := .int .i64 (xs.length : Int)) rfl
  obtain ⟨ad, rfl, hcx⟩ := hXc _ (hX.below (KB2.mono hB))
  have hs' : (262144 : Int) < (y.size : Int) := by omega
  go_wp2_with fail
  obtain ⟨d8, d9⟩ := fin_cells m8 m9 (.string ⟨#[]⟩) (.int .i64 3)
  refine bodyPost_ret (v := .tuple #[.string ⟨#[]⟩, .int .i64 3]) ?_ rfl ⟨rfl, fin_below KB2 (.string ⟨#[]⟩) (.int .i64 3)⟩
  simp [results, Tryz.results10, go_sem, d8, d9]
set_option maxRecDepth 100000 in
set_option maxHeartbeats 4000000 in
theorem list_1 (A : Option Addr) (L : List Sd) (c B : Nat) (loc st : ByteArray) (AA : Option Addr) (xs : List ByteArray) (cc : Nat) (h1 : st.size ≤ 281474976710656) (h : isNameB st = true) (h0 : xs.length = 1) (hs : ¬ 262144 < (getT xs 0).size) (hx : ∀ x ∈ xs, x.size ≤ 281474976710656) (hu : xs.any wrongU = false) (w : World) (hX : Texts w B AA xs) (hB : B ≤ w.heap.size) :
    Calls Tryz.prog 10 #[srcV A L.length c, .string loc, .slice AA xs.length cc, .string st] w fun e w' => e = .returned (.tuple #[.string (getT xs 0), .int .i64 0]) ∧ Below w.heap.size w w' := by
  have hN' : ¬ (1024 : Int) < (xs.length : Int) := by omega
  have n0 : ((xs.length : Int) == 0) = false := by rw [h0]; rfl
  have n1 : ((xs.length : Int) == 1) = true := by rw [h0]; rfl
  have l0 : (0 : Int) < xs.length := by omega
  have hN : xs.length ≤ 1024 := by omega
  have hXc : ∀ wr, Texts wr B AA xs → ∃ ad : Addr, AA = some ad ∧ wr.cell? ad = some (.string (getT xs 0)) := fun wr h => by
    obtain ⟨ad, e, _, hc⟩ := h (by omega)
    exact ⟨ad, e, by rw [getT_get (by omega)]; have := hc 0 (by omega); rwa [add_zero] at this⟩
  have H0 := Lib.hid h0
  clear h0
  generalize getT xs 0 = y at *
  have HC := fun (w : World) (hX) (hB) => contains_check AA xs cc B (by omega) hx w hX hB
  rw [hu] at HC
  have H := isName_any st h1
  rw [h] at H
  have X := box5_new w (srcV A L.length c) loc st
  have XB := below5 w (srcV A L.length c) loc st
  have XZ := size5 w (srcV A L.length c) loc st
  unfold srcV at X XB XZ ⊢
  go_enter Tryz.func10, Tryz.ntmps10
  go_wp2_with fail
  generalize (((((w.alloc (.cells #[(.iface 28 (.agg #[.slice A L.length c]))] 69)).alloc (.cells #[.string loc] 9)).alloc (.cells #[.string st] 9)).alloc (.cells #[.string ⟨#[]⟩] 9)).alloc (.cells #[.int .i64 0] 30)) = w5 at *
  obtain ⟨b4, b5, b7, b8, b9⟩ := X
  have c7 := b7.at_ 0 (v := .string st) rfl
  have c8 := b8.at_ 0 (v := .string ⟨#[]⟩) rfl
  have f8 := b8.frozen 0
  have c9 := b9.at_ 0 (v := .int .i64 0) rfl
  have f9 := b9.frozen 0
  refine (H _).mono ?_
  rintro e w1 ⟨rfl, rfl⟩
  clear H
  have HC2 := HC w1 (hX.below (XB.mono hB)) (Nat.le_trans hB (by omega))
  clear HC
  go_wp2_with fail
  refine HC2.mono ?_
  rintro e w6 ⟨rfl, hb6⟩
  have k4 := b4.below hb6 (by omega)
  have k5 := b5.below hb6 (by omega)
  have k7 := b7.below hb6 (by omega)
  have k8 := b8.below hb6 (by omega)
  have k9 := b9.below hb6 (by omega)
  have KB := XB.trans (hb6.mono (by omega))
  have KZ : w.heap.size + 5 ≤ w6.heap.size := by have := hb6.size; omega
  clear b4 b5 b7 b8 b9 c7 c8 f8 c9 f9 XB XZ hb6
  have c4 := k4.at_ 0 (v := (.iface 28 (.agg #[.slice A L.length c]))) rfl
  have c5 := k5.at_ 0 (v := .string loc) rfl
  have c7 := k7.at_ 0 (v := .string st) rfl
  have c8 := k8.at_ 0 (v := .string ⟨#[]⟩) rfl
  have f8 := k8.frozen 0
  have c9 := k9.at_ 0 (v := .int .i64 0) rfl
  have f9 := k9.frozen 0
  clear c4 c5 c7 c8 f8 c9 f9
  go_upto_region 10 with fail
  have m4 := k4.alloc (.cells #[.int .i64 (xs.length : Int)] 3)
  have m5 := k5.alloc (.cells #[.int .i64 (xs.length : Int)] 3)
  have m7 := k7.alloc (.cells #[.int .i64 (xs.length : Int)] 3)
  have m8 := k8.alloc (.cells #[.int .i64 (xs.length : Int)] 3)
  have m9 := k9.alloc (.cells #[.int .i64 (xs.length : Int)] 3)
  have m10 := Blk.new w6 3 #[.int .i64 (xs.length : Int)]
  have KB2 := KB.alloc (by omega) (.cells #[.int .i64 (xs.length : Int)] 3)
  have hz7 : (w6.alloc (.cells #[.int .i64 (xs.length : Int)] 3)).heap.size = w6.heap.size + 1 := by simp
  generalize w6.alloc (.cells #[.int .i64 (xs.length : Int)] 3) = w7 at *
  clear k4 k5 k7 k8 k9 KB
  have c4 := m4.at_ 0 (v := (.iface 28 (.agg #[.slice A L.length c]))) rfl
  have c5 := m5.at_ 0 (v := .string loc) rfl
  have c7 := m7.at_ 0 (v := .string st) rfl
  have c8 := m8.at_ 0 (v := .string ⟨#[]⟩) rfl
  have f8 := m8.frozen 0
  have c9 := m9.at_ 0 (v := .int .i64 0) rfl
  have f9 := m9.frozen 0
  have c10 := m10.at_ 0 (v := .int .i64 (xs.length : Int)) rfl
  obtain ⟨ad, rfl, hcx⟩ := hXc _ (hX.below (KB2.mono hB))
  have hs' : ¬ (262144 : Int) < (y.size : Int) := by omega
  go_wp2_with fail
  obtain ⟨d8, d9⟩ := fin_cells m8 m9 (.string y) (.int .i64 0)
  refine bodyPost_ret (v := .tuple #[.string y, .int .i64 0]) ?_ rfl ⟨rfl, fin_below KB2 (.string y) (.int .i64 0)⟩
  simp [results, Tryz.results10, go_sem, d8, d9]
set_option maxRecDepth 100000 in
set_option maxHeartbeats 4000000 in
theorem list_2 (A : Option Addr) (L : List Sd) (c B : Nat) (loc st : ByteArray) (AA : Option Addr) (xs : List ByteArray) (cc : Nat) (h1 : st.size ≤ 281474976710656) (h : isNameB st = true) (hst : st.size ≤ 4096) (h0 : xs.length = 2) (hx : ∀ x ∈ xs, x.size ≤ 281474976710656) (hu : xs.any wrongU = false) (hl9 : L.length ≤ 281474976710656) (hx9 : ∀ x ∈ L, x.text.size ≤ 281474976710656) (w : World) (hg : GlobP w) (hL : Saids w B A L) (hX : Texts w B AA xs) (hB : B ≤ w.heap.size) :
    Calls Tryz.prog 10 #[srcV A L.length c, .string loc, .slice AA xs.length cc, .string st] w fun e w' => e = .returned (.tuple #[.string (fillT (partT L loc st ⟨#[50]⟩) xs).1, .int .i64 (fillT (partT L loc st ⟨#[50]⟩) xs).2]) ∧ Below w.heap.size w w' := by
  have hN' : ¬ (1024 : Int) < (xs.length : Int) := by omega
  have n0 : ((xs.length : Int) == 0) = false := by rw [h0]; rfl
  have n1 : ((xs.length : Int) == 1) = false := by rw [h0]; rfl
  have n2 : ((xs.length : Int) == 2) = true := by rw [h0]; rfl
  have hN : xs.length ≤ 1024 := by omega
  have hxl : xs.length ≤ 281474976710656 := by omega
  have H0 := Lib.hid h0
  clear h0
  have HP := fun (w : World) hg hL hB => part_any A L c B loc st ⟨#[50]⟩ hst (by decide) hl9 hx9 w hg hL hB
  have hpz := partT_size L loc st ⟨#[50]⟩ hx9
  generalize partT L loc st ⟨#[50]⟩ = p at *
  have HF := fun (w : World) hg hX hB => fill_any p AA xs cc B hpz hxl hx w hg hX hB
  obtain ⟨⟨t1, e1⟩, hf⟩ : ∃ q, fillT p xs = q := ⟨_, rfl⟩
  rw [hf] at HF ⊢
  dsimp only at HF ⊢
  unfold srcV at HP
  have HC := fun (w : World) (hX) (hB) => contains_check AA xs cc B (by omega) hx w hX hB
  rw [hu] at HC
  have H := isName_any st h1
  rw [h] at H
  have X := box5_new w (srcV A L.length c) loc st
  have XB := below5 w (srcV A L.length c) loc st
  have XZ := size5 w (srcV A L.length c) loc st
  unfold srcV at X XB XZ ⊢
  go_enter Tryz.func10, Tryz.ntmps10
  go_wp2_with fail
  generalize (((((w.alloc (.cells #[(.iface 28 (.agg #[.slice A L.length c]))] 69)).alloc (.cells #[.string loc] 9)).alloc (.cells #[.string st] 9)).alloc (.cells #[.string ⟨#[]⟩] 9)).alloc (.cells #[.int .i64 0] 30)) = w5 at *
  obtain ⟨b4, b5, b7, b8, b9⟩ := X
  have c7 := b7.at_ 0 (v := .string st) rfl
  have c8 := b8.at_ 0 (v := .string ⟨#[]⟩) rfl
  have f8 := b8.frozen 0
  have c9 := b9.at_ 0 (v := .int .i64 0) rfl
  have f9 := b9.frozen 0
  refine (H _).mono ?_
  rintro e w1 ⟨rfl, rfl⟩
  clear H
  have HC2 := HC w1 (hX.below (XB.mono hB)) (Nat.le_trans hB (by omega))
  clear HC
  go_wp2_with fail
  refine HC2.mono ?_
  rintro e w6 ⟨rfl, hb6⟩
  have k4 := b4.below hb6 (by omega)
  have k5 := b5.below hb6 (by omega)
  have k7 := b7.below hb6 (by omega)
  have k8 := b8.below hb6 (by omega)
  have k9 := b9.below hb6 (by omega)
  have KB := XB.trans (hb6.mono (by omega))
  have KZ : w.heap.size + 5 ≤ w6.heap.size := by have := hb6.size; omega
  clear b4 b5 b7 b8 b9 c7 c8 f8 c9 f9 XB XZ hb6
  have c4 := k4.at_ 0 (v := (.iface 28 (.agg #[.slice A L.length c]))) rfl
  have c5 := k5.at_ 0 (v := .string loc) rfl
  have c7 := k7.at_ 0 (v := .string st) rfl
  have c8 := k8.at_ 0 (v := .string ⟨#[]⟩) rfl
  have f8 := k8.frozen 0
  have c9 := k9.at_ 0 (v := .int .i64 0) rfl
  have f9 := k9.frozen 0
  clear c4 c5 c7 c8 f8 c9 f9
  go_upto_region 10 with fail
  have m4 := k4.alloc (.cells #[.int .i64 (xs.length : Int)] 3)
  have m5 := k5.alloc (.cells #[.int .i64 (xs.length : Int)] 3)
  have m7 := k7.alloc (.cells #[.int .i64 (xs.length : Int)] 3)
  have m8 := k8.alloc (.cells #[.int .i64 (xs.length : Int)] 3)
  have m9 := k9.alloc (.cells #[.int .i64 (xs.length : Int)] 3)
  have m10 := Blk.new w6 3 #[.int .i64 (xs.length : Int)]
  have KB2 := KB.alloc (by omega) (.cells #[.int .i64 (xs.length : Int)] 3)
  have hz7 : (w6.alloc (.cells #[.int .i64 (xs.length : Int)] 3)).heap.size = w6.heap.size + 1 := by simp
  generalize w6.alloc (.cells #[.int .i64 (xs.length : Int)] 3) = w7 at *
  clear k4 k5 k7 k8 k9 KB
  have c4 := m4.at_ 0 (v := (.iface 28 (.agg #[.slice A L.length c]))) rfl
  have c5 := m5.at_ 0 (v := .string loc) rfl
  have c7 := m7.at_ 0 (v := .string st) rfl
  have c8 := m8.at_ 0 (v := .string ⟨#[]⟩) rfl
  have f8 := m8.frozen 0
  have c9 := m9.at_ 0 (v := .int .i64 0) rfl
  have f9 := m9.frozen 0
  have c10 := m10.at_ 0 (v := .int .i64 (xs.length : Int)) rfl
  have HP2 := HP w7 (hg.below KB2 hg.size) (hL.below (KB2.mono hB)) (by omega)
  clear HP
  go_wp2_with fail
  refine HP2.mono ?_
  rintro e w8 ⟨rfl, hb7⟩
  have KB3 := KB2.trans (hb7.mono (by omega))
  have r8 := m8.below hb7 (by omega)
  have r9 := m9.below hb7 (by omega)
  have c8 := r8.at_ 0 (v := .string ⟨#[]⟩) rfl
  have f8 := r8.frozen 0
  have c9 := r9.at_ 0 (v := .int .i64 0) rfl
  have f9 := r9.frozen 0
  have HF2 := HF w8 (hg.below KB3 hg.size) (hX.below (KB3.mono hB)) (by have := hb7.size; omega)
  clear HF c4 c5 c7 c10
  have hz8 := hb7.size
  go_wp2_with fail
  refine HF2.mono ?_
  rintro e w9 ⟨rfl, hb8⟩
  have KB4 := KB3.trans (hb8.mono (by omega))
  have s8 := r8.below hb8 (by omega)
  have s9 := r9.below hb8 (by omega)
  have c8 := s8.at_ 0 (v := .string ⟨#[]⟩) rfl
  have f8 := s8.frozen 0
  have c9 := s9.at_ 0 (v := .int .i64 0) rfl
  have f9 := s9.frozen 0
  go_wp2_with fail
  obtain ⟨d8, d9⟩ := fin_cells s8 s9 (.string t1) (.int .i64 e1)
  refine bodyPost_ret (v := .tuple #[.string t1, .int .i64 e1]) ?_ rfl ⟨rfl, fin_below KB4 (.string t1) (.int .i64 e1)⟩
  simp [results, Tryz.results10, go_sem, d8, d9]
end Go.Proofs.YtpcgcghhddnifaaGreatDoor
namespace Go.Proofs.YtpcgcghhddnifaaGreatDoor
open Go.RowKit Go.Shelf
open Ph
attribute [local go_sem] Oper.semAt_some
/-- what the loop's blocks hold, in every round -/
structure Rd (w : World) (v : Value) (loc st : ByteArray) (H1 H2 : Nat) (N : Int) (mid : ByteArray) (sl : Value) (v8 : ByteArray) (v9 : Int) (t : ByteArray) (W : World) : Prop where
  b4 : Blk W w.heap.size 69 #[v]
  b5 : Blk W (w.heap.size + 1) 9 #[.string loc]
  b7 : Blk W (w.heap.size + 2) 9 #[.string st]
  b8 : Blk W (w.heap.size + 3) 9 #[.string v8]
  b9 : Blk W (w.heap.size + 4) 30 #[.int .i64 v9]
  b10 : Blk W H1 3 #[.int .i64 N]
  b11 : Blk W (H1 + 1) 9 #[.string t]
  b12 : Blk W H2 9 #[.string mid]
  b13 : Blk W (H2 + 1) 23 #[sl]
  bw : Below w.heap.size w W
section
variable {w : World} {v : Value} {loc st : ByteArray} {H1 H2 : Nat} {N : Int} {mid : ByteArray} {sl : Value} {v8 : ByteArray} {v9 : Int} {t : ByteArray} {W W' : World}
theorem Rd.call (h : Rd w v loc st H1 H2 N mid sl v8 v9 t W) (hb : Below W.heap.size W W') : Rd w v loc st H1 H2 N mid sl v8 v9 t W' :=
  ⟨h.b4.below hb h.b4.lt, h.b5.below hb h.b5.lt, h.b7.below hb h.b7.lt, h.b8.below hb h.b8.lt, h.b9.below hb h.b9.lt, h.b10.below hb h.b10.lt, h.b11.below hb h.b11.lt, h.b12.below hb h.b12.lt, h.b13.below hb h.b13.lt, h.bw.trans (hb.mono h.bw.size)⟩
theorem Rd.alloc (h : Rd w v loc st H1 H2 N mid sl v8 v9 t W) (o : Obj) : Rd w v loc st H1 H2 N mid sl v8 v9 t (W.alloc o) := h.call ((Below.refl _ _).alloc (Nat.le_refl _) o)
theorem Rd.own {B : Nat} (h : Rd w v loc st H1 H2 N mid sl v8 v9 t W) (hB : H2 + 1 < B) (h5 : w.heap.size + 5 ≤ H1) (h2 : H1 + 2 ≤ H2) {row : Option Nat} (hg : W.grownBy W' row) (hr : ∀ r, row = some r → B ≤ r) : Rd w v loc st H1 H2 N mid sl v8 v9 t W' := by
  have ne : ∀ k, k ≤ H2 + 1 → some k ≠ row := fun k hk e => by have := hr k e.symm; omega
  exact ⟨h.b4.grown hg (ne _ (by omega)), h.b5.grown hg (ne _ (by omega)), h.b7.grown hg (ne _ (by omega)), h.b8.grown hg (ne _ (by omega)), h.b9.grown hg (ne _ (by omega)), h.b10.grown hg (ne _ (by omega)), h.b11.grown hg (ne _ (by omega)), h.b12.grown hg (ne _ (by omega)), h.b13.grown hg (ne _ (by omega)), h.bw.grown hg h.bw.size (fun k e => by have := hr k e; omega)⟩
theorem Rd.text (h : Rd w v loc st H1 H2 N mid sl v8 v9 t W) (h5 : w.heap.size + 5 ≤ H1) (h2 : H1 + 2 ≤ H2) (u : ByteArray) : Rd w v loc st H1 H2 N mid sl v8 v9 u (W.setCell ⟨H1 + 1, 0, none⟩ (.string u)) :=
  ⟨h.b4.far (by show w.heap.size ≠ H1 + 1; omega) _, h.b5.far (by show w.heap.size + 1 ≠ H1 + 1; omega) _, h.b7.far (by show w.heap.size + 2 ≠ H1 + 1; omega) _, h.b8.far (by show w.heap.size + 3 ≠ H1 + 1; omega) _, h.b9.far (by show w.heap.size + 4 ≠ H1 + 1; omega) _, h.b10.far (by show H1 ≠ H1 + 1; omega) _, h.b11.set_ 0 _, h.b12.far (by show H2 ≠ H1 + 1; omega) _, h.b13.far (by show H2 + 1 ≠ H1 + 1; omega) _, h.bw.setCell (p := ⟨H1 + 1, 0, none⟩) (by show w.heap.size ≤ H1 + 1; omega) _⟩
theorem Rd.fin (h : Rd w v loc st H1 H2 N mid sl v8 v9 t W) (h5 : w.heap.size + 5 ≤ H1) (h2 : H1 + 2 ≤ H2) (u : ByteArray) (e : Int) : Rd w v loc st H1 H2 N mid sl u e t ((W.setCell ⟨w.heap.size + 3, 0, none⟩ (.string u)).setCell ⟨w.heap.size + 4, 0, none⟩ (.int .i64 e)) :=
  ⟨(h.b4.far (by show w.heap.size ≠ w.heap.size + 3; omega) _).far (by show w.heap.size ≠ w.heap.size + 4; omega) _, (h.b5.far (by show w.heap.size + 1 ≠ w.heap.size + 3; omega) _).far (by show w.heap.size + 1 ≠ w.heap.size + 4; omega) _, (h.b7.far (by show w.heap.size + 2 ≠ w.heap.size + 3; omega) _).far (by show w.heap.size + 2 ≠ w.heap.size + 4; omega) _, (h.b8.set_ 0 _).far (by show w.heap.size + 3 ≠ w.heap.size + 4; omega) _, (h.b9.far (by show w.heap.size + 4 ≠ w.heap.size + 3; omega) _).set_ 0 _, (h.b10.far (by show H1 ≠ w.heap.size + 3; omega) _).far (by show H1 ≠ w.heap.size + 4; omega) _, (h.b11.far (by show H1 + 1 ≠ w.heap.size + 3; omega) _).far (by show H1 + 1 ≠ w.heap.size + 4; omega) _, (h.b12.far (by show H2 ≠ w.heap.size + 3; omega) _).far (by show H2 ≠ w.heap.size + 4; omega) _, (h.b13.far (by show H2 + 1 ≠ w.heap.size + 3; omega) _).far (by show H2 + 1 ≠ w.heap.size + 4; omega) _, fin_below h.bw _ _⟩
end
set_option maxRecDepth 100000 in
set_option maxHeartbeats 8000000 in
theorem list_many (A : Option Addr) (L : List Sd) (c B : Nat) (loc st : ByteArray) (AA : Option Addr) (xs : List ByteArray) (cc : Nat) (h1 : st.size ≤ 281474976710656) (h : isNameB st = true) (hst : st.size ≤ 4096) (h3 : 3 ≤ xs.length) (hN : xs.length ≤ 1024) (hcc : xs.length ≤ cc) (hx : ∀ x ∈ xs, x.size ≤ 281474976710656) (hu : xs.any wrongU = false)
    (hl9 : L.length ≤ 281474976710656) (hx9 : ∀ x ∈ L, x.text.size ≤ 281474976710656) (w : World) (hg : GlobP w) (hL : Saids w B A L) (hX : Texts w B AA xs) (hB : B ≤ w.heap.size) :
    Calls Tryz.prog 10 #[srcV A L.length c, .string loc, .slice AA xs.length cc, .string st] w fun e w' => e = .returned (.tuple #[.string (listP (partT L loc st ⟨#[50]⟩) (partT L loc st ⟨#[115, 116, 97, 114, 116]⟩) (partT L loc st ⟨#[109, 105, 100, 100, 108, 101]⟩) (partT L loc st ⟨#[101, 110, 100]⟩) xs).1, .int .i64 (listP (partT L loc st ⟨#[50]⟩) (partT L loc st ⟨#[115, 116, 97, 114, 116]⟩) (partT L loc st ⟨#[109, 105, 100, 100, 108, 101]⟩) (partT L loc st ⟨#[101, 110, 100]⟩) xs).2]) ∧ Below w.heap.size w w' := by
  have HPm := fun (w : World) hg hL hB => part_any A L c B loc st ⟨#[109, 105, 100, 100, 108, 101]⟩ hst (by decide) hl9 hx9 w hg hL hB
  have HPe := fun (w : World) hg hL hB => part_any A L c B loc st ⟨#[101, 110, 100]⟩ hst (by decide) hl9 hx9 w hg hL hB
  have HPs := fun (w : World) hg hL hB => part_any A L c B loc st ⟨#[115, 116, 97, 114, 116]⟩ hst (by decide) hl9 hx9 w hg hL hB
  have zm := partT_size L loc st ⟨#[109, 105, 100, 100, 108, 101]⟩ hx9
  have ze := partT_size L loc st ⟨#[101, 110, 100]⟩ hx9
  have zs := partT_size L loc st ⟨#[115, 116, 97, 114, 116]⟩ hx9
  generalize partT L loc st ⟨#[109, 105, 100, 100, 108, 101]⟩ = mid at *
  generalize partT L loc st ⟨#[101, 110, 100]⟩ = ed at *
  generalize partT L loc st ⟨#[115, 116, 97, 114, 116]⟩ = sta at *
  generalize partT L loc st ⟨#[50]⟩ = two at *
  have HC := fun (w : World) (hX) (hB) => contains_check AA xs cc B (by omega) hx w hX hB
  rw [hu] at HC
  obtain ⟨N, hNe⟩ : ∃ N, xs.length = N := ⟨_, rfl⟩
  obtain ⟨m, hm⟩ : ∃ m, N = m + 1 := ⟨N - 1, by omega⟩
  obtain ⟨k2, hk2⟩ : ∃ k, N = k + 2 := ⟨N - 2, by omega⟩
  have n0 : ((N : Int) == 0) = false := by simp; omega
  have n1 : ((N : Int) == 1) = false := by simp; omega
  have n2 : ((N : Int) == 2) = false := by simp; omega
  have hN' : ¬ (1024 : Int) < (N : Int) := by omega
  have w1e : IntKind.i64.wrap ((N : Int) - 1) = (m : Int) := i64wrap (by omega) (by omega)
  have w2e : IntKind.i64.wrap ((N : Int) - 2) = (k2 : Int) := i64wrap (by omega) (by omega)
  have lm : (m : Int) < N := by omega
  have lcc : m ≤ cc := by omega
  have hXc : ∀ wr, Texts wr B AA xs → ∃ ad : Addr, AA = some ad ∧ ad.block < B ∧ wr.cell? (ad.add m) = some (.string (getT xs m)) := fun wr h => by
    obtain ⟨ad, e, hb, hc⟩ := h (by omega)
    exact ⟨ad, e, hb, by rw [getT_get (by omega)]; exact hc m (by omega)⟩
  have hfall := foldF_all two sta mid ed xs m (by omega) h3
  have hfstop := fun k hk he => foldF_stop two sta mid ed xs m (by omega) h3 k hk he
  have hfsz := fun pre => foldF_size sta mid ed xs hx (m := m) pre
  have hx1 : (getT xs (xs.length - 1), (0 : Int)) = (getT xs m, 0) := by rw [show xs.length - 1 = m by omega]
  have HNE := Lib.hid hNe
  have HM := Lib.hid hm
  have HK2 := Lib.hid hk2
  have H3 := Lib.hid (show 3 ≤ N by omega)
  rw [hNe] at HC
  rw [hNe]
  have H := isName_any st h1
  rw [h] at H
  have X := box5_new w (srcV A L.length c) loc st
  have XB := below5 w (srcV A L.length c) loc st
  have XZ := size5 w (srcV A L.length c) loc st
  unfold srcV at X XB XZ HPm HPe HPs ⊢
  clear hNe hm hk2 h3 hN hcc
  refine (callsIn_wide (n := 3)).1 ?_
  refine callsIn_of_wp_marks Tryz.func10 rfl trivial ?_ rfl
  simp only [Tryz.ntmps10, List.size_toArray, List.length_cons, List.length_nil, Nat.reduceAdd, Nat.reduceSub, Array.replicate_succ, Array.replicate_zero, List.push_toArray, List.append_toArray, List.nil_append, List.cons_append]
  gi_wp2_with fail
  generalize (((((w.alloc (.cells #[(.iface 28 (.agg #[.slice A L.length c]))] 69)).alloc (.cells #[.string loc] 9)).alloc (.cells #[.string st] 9)).alloc (.cells #[.string ⟨#[]⟩] 9)).alloc (.cells #[.int .i64 0] 30)) = w5 at *
  obtain ⟨b4, b5, b7, b8, b9⟩ := X
  have c7 := b7.at_ 0 (v := .string st) rfl
  refine ⟨trivial, ?_⟩
  refine (callsIn_wide.2 (H _)).mono ?_
  rintro e w1 ⟨rfl, rfl⟩
  clear H
  have HC2 := HC w1 (hX.below (XB.mono hB)) (Nat.le_trans hB (by omega))
  clear HC
  gi_wp2_with fail
  refine ⟨trivial, ?_⟩
  refine (callsIn_wide.2 HC2).mono ?_
  rintro e w6 ⟨rfl, hb6⟩
  have k4 := b4.below hb6 (by omega)
  have k5 := b5.below hb6 (by omega)
  have k7 := b7.below hb6 (by omega)
  have k8 := b8.below hb6 (by omega)
  have k9 := b9.below hb6 (by omega)
  have KB := XB.trans (hb6.mono (by omega))
  have KZ : w.heap.size + 5 ≤ w6.heap.size := by have := hb6.size; omega
  clear b4 b5 b7 b8 b9 c7 XB XZ hb6 HC2
  have KB2 := KB.alloc (by omega) (.cells #[.int .i64 (N : Int)] 3)
  obtain ⟨ad, rfl, hadB, hcx⟩ := hXc _ (hX.below (KB2.mono hB))
  clear hXc
  obtain ⟨x1, hxe⟩ : ∃ x, getT xs m = x := ⟨_, rfl⟩
  rw [hxe] at hcx hx1
  clear hxe
  have c4 := ((k4.alloc (.cells #[.int .i64 (N : Int)] 3)).alloc (.cells #[.string x1] 9)).at_ 0 (v := (.iface 28 (.agg #[.slice A L.length c]))) rfl
  have c5 := ((k5.alloc (.cells #[.int .i64 (N : Int)] 3)).alloc (.cells #[.string x1] 9)).at_ 0 (v := .string loc) rfl
  have c7 := ((k7.alloc (.cells #[.int .i64 (N : Int)] 3)).alloc (.cells #[.string x1] 9)).at_ 0 (v := .string st) rfl
  gi_wp2_with fail
  clear c4 c5 c7 hcx
  have m4 := (k4.alloc (.cells #[.int .i64 (N : Int)] 3)).alloc (.cells #[.string x1] 9)
  have m5 := (k5.alloc (.cells #[.int .i64 (N : Int)] 3)).alloc (.cells #[.string x1] 9)
  have m7 := (k7.alloc (.cells #[.int .i64 (N : Int)] 3)).alloc (.cells #[.string x1] 9)
  have m8 := (k8.alloc (.cells #[.int .i64 (N : Int)] 3)).alloc (.cells #[.string x1] 9)
  have m9 := (k9.alloc (.cells #[.int .i64 (N : Int)] 3)).alloc (.cells #[.string x1] 9)
  have m10 := (Blk.new w6 3 #[.int .i64 (N : Int)]).alloc (.cells #[.string x1] 9)
  have m11 := Blk.new' (w6.alloc (.cells #[.int .i64 (N : Int)] 3)) 9 #[.string x1] (w6.heap.size + 1) (by simp)
  have KB3 := KB2.alloc (by simp; omega) (.cells #[.string x1] 9)
  have hz7 : ((w6.alloc (.cells #[.int .i64 (N : Int)] 3)).alloc (.cells #[.string x1] 9)).heap.size = w6.heap.size + 2 := by simp
  generalize (w6.alloc (.cells #[.int .i64 (N : Int)] 3)).alloc (.cells #[.string x1] 9) = w7 at *
  obtain ⟨H1, hH1⟩ : ∃ H1, w6.heap.size = H1 := ⟨_, rfl⟩
  rw [hH1] at KZ m10 m11 hz7 ⊢
  clear k4 k5 k7 k8 k9 KB KB2 hH1
  have HP2 := HPm w7 (hg.below KB3 hg.size) (hL.below (KB3.mono hB)) (by omega)
  clear HPm
  refine ⟨trivial, ?_⟩
  refine (callsIn_wide.2 HP2).mono ?_
  rintro e w8 ⟨rfl, hb8⟩
  have hz8 : H1 + 2 ≤ w8.heap.size := by have := hb8.size; omega
  have p4 := (m4.below hb8 (by omega)).alloc (.cells #[.string mid] 9)
  have p5 := (m5.below hb8 (by omega)).alloc (.cells #[.string mid] 9)
  have p7 := (m7.below hb8 (by omega)).alloc (.cells #[.string mid] 9)
  have p8 := (m8.below hb8 (by omega)).alloc (.cells #[.string mid] 9)
  have p9 := (m9.below hb8 (by omega)).alloc (.cells #[.string mid] 9)
  have p10 := (m10.below hb8 (by omega)).alloc (.cells #[.string mid] 9)
  have p11 := (m11.below hb8 (by omega)).alloc (.cells #[.string mid] 9)
  have p12 := Blk.new w8 9 #[.string mid]
  have KB4 := (KB3.trans (hb8.mono (by omega))).alloc (by omega) (.cells #[.string mid] 9)
  have hz9 : (w8.alloc (.cells #[.string mid] 9)).heap.size = w8.heap.size + 1 := by simp
  have c10 := p10.at_ 0 (v := .int .i64 (N : Int)) rfl
  clear m4 m5 m7 m8 m9 m10 m11 KB3 HP2 hb8 hz7
  gi_wp2_with fail
  clear c10
  generalize w8.alloc (.cells #[.string mid] 9) = w9 at *
  obtain ⟨H2, hH2⟩ : ∃ H2, w8.heap.size = H2 := ⟨_, rfl⟩
  rw [hH2] at hz8 p12 hz9 ⊢
  clear hH2
  refine ⟨trivial, ?_⟩
  refine (back_in Fence.wide 2 trivial rfl (some ad) m cc w9).mono ?_
  rintro e w10 ⟨rfl, rfl⟩
  gi_wp2_with fail
  have hwl : (w9.alloc (.cells #[.slice (some ad) m cc] 23)).heap.size = H2 + 2 := by simp; omega
  have hR0 : Rd w (.iface 28 (.agg #[.slice A L.length c])) loc st H1 H2 (N : Int) mid (.slice (some ad) m cc) ⟨#[]⟩ 0 x1 (w9.alloc (.cells #[.slice (some ad) m cc] 23)) := ⟨p4.alloc _, p5.alloc _, p7.alloc _, p8.alloc _, p9.alloc _, p10.alloc _, p11.alloc _, p12.alloc _, Blk.new' _ _ _ _ (by omega), KB4.alloc (by omega) _⟩
  generalize w9.alloc (.cells #[.slice (some ad) m cc] 23) = wl at *
  obtain ⟨ys, hys⟩ : ∃ ys, ys = xs.take m := ⟨_, rfl⟩
  have hyl : ys.length = m := by rw [hys, List.length_take]; have := HNE.out; have := HM.out; omega
  have hXl : Texts wl w.heap.size (some ad) ys := by rw [hys]; exact ((hX.below (hR0.bw.mono hB)).take m).more hB
  have hgi : ∀ i, i < m → getT ys i = getT xs i := fun i hi => by
    have h1 : i < (xs.take m).length := by rw [← hys]; omega
    have h2 : i < xs.length := by have := HNE.out; have := HM.out; omega
    rw [hys, getT_get h1, getT_get h2, List.getElem_take]
  clear hys
  subst hyl
  have hstops := back_stops Fence.wide 2 trivial rfl (by omega) (H2 + 1) w.heap.size cc (some ad) ys (by have := HM.out; omega) wl (by omega) hR0.bw.size (hR0.b13.at_ 0 rfl) hXl
  have h2 : H1 + 2 ≤ H2 := by omega
  clear p4 p5 p7 p8 p9 p10 p11 p12 KB4 hz9 hz8 hXl
  have h5 := KZ
  refine wpIn_rangeFunc_ownF rfl (by omega) (gf := 55) (lb := #[.pointer (some ⟨H2 + 1, 0, none⟩)]) rfl trivial (enters_of Tryz.func55 (by kernel_rfl) rfl) hstops (fun h k => h.trans k) (fun W l o o' hl ho hc hw => KpB.put (w := wl) hR0.bw.size (by omega) l o o' hl ho hc hw) (Below.refl _ _) (fun _ => rfl)
    (fun pre W => (foldF sta mid ed xs pre).2 = 0 ∧ Rd w (.iface 28 (.agg #[.slice A L.length c])) loc st H1 H2 (N : Int) mid (.slice (some ad) ys.length cc) ⟨#[]⟩ 0 (foldF sta mid ed xs pre).1 W)
    (fun cd pre W => cd = .ret ∧ (foldF sta mid ed xs pre).2 ≠ 0 ∧ ∃ t, Rd w (.iface 28 (.agg #[.slice A L.length c])) loc st H1 H2 (N : Int) mid (.slice (some ad) ys.length cc) ⟨#[]⟩ (foldF sta mid ed xs pre).2 t W)
    (fun s A B row hs hg hr => ⟨hs.1, hs.2.own (B := wl.heap.size) (by omega) h5 h2 hg (fun r e => (hr r e).1)⟩)
    (fun cd s A B row hs hg hr => ⟨hs.1, hs.2.1, by obtain ⟨t, ht⟩ := hs.2.2; exact ⟨t, ht.own (B := wl.heap.size) (by omega) h5 h2 hg (fun r e => (hr r e).1)⟩⟩)
    ⟨rfl, by rw [foldF_nil, hx1]; exact hR0⟩
    (fun x => { tmps := #[.iface 28 (.agg #[.slice A L.length c]), .string loc, .slice (some ad) N cc, .string st, .pointer (some ⟨w.heap.size, 0, none⟩), .pointer (some ⟨w.heap.size + 1, 0, none⟩), undef, .pointer (some ⟨w.heap.size + 1 + 1, 0, none⟩), .pointer (some ⟨w.heap.size + 1 + 1 + 1, 0, none⟩), .pointer (some ⟨w.heap.size + 1 + 1 + 1 + 1, 0, none⟩), .pointer (some ⟨H1, 0, none⟩), .pointer (some ⟨H1 + 1, 0, none⟩), .pointer (some ⟨H2, 0, none⟩), .int .i64 (x.1 : Int), .string (getT ys x.1), undef, undef, undef, .bool false, .iface 28 (.agg #[.slice A L.length c]), .bool false, .bool false, .string st, .bool true, .bool false, .bool (decide ((1024 : Int) < (N : Int))), .slice (some ad) N cc, .int .i64 (N : Int), .bool (decide ((1024 : Int) < (N : Int))), .bool false, .slice (some ad) N cc, .bool false, .slice (some ad) N cc, .int .i64 (N : Int), .int .i64 (N : Int), .bool false, .bool false, .bool false, .bool false, undef, undef, undef, undef, undef, undef, undef, undef, .bool false, .bool false, undef, undef, undef, undef, undef, undef, undef, undef, .slice (some ad) N cc, .int .i64 (N : Int), .int .i64 (ys.length : Int), .pointer (some (ad.add ys.length)), .string x1, .iface 28 (.agg #[.slice A L.length c]), .string loc, .string st, .string mid, .slice (some ad) N cc, .int .i64 (N : Int), .int .i64 (ys.length : Int), .slice (some ad) ys.length cc, .func (.func 55) #[] #[.pointer (some ⟨H2 + 1, 0, none⟩)], .int .i64 (x.1 : Int), .string (getT ys x.1), undef, undef, undef, undef, undef, undef, undef, undef, undef, undef, undef, undef, undef, undef, undef, undef, undef, undef, undef, undef, undef, undef, undef, undef, undef, undef, undef, undef, undef], defers := [] }) ?assign ?body ?done ?stop
  case assign =>
    intro l x W K hK
    simp only [encB]
    gi_wp2
    exact hK
  case body =>
    rintro l pre ⟨i, hi⟩ W ⟨h0, hR⟩ hlen
    have hsn := foldF_snoc sta mid ed xs pre ⟨i, hi⟩
    unfold stepF at hsn
    rw [if_pos h0] at hsn
    have hts := hfsz pre
    have hgx := hgi i hi
    have hxi : (getT xs i).size ≤ 281474976710656 := by rw [getT_get (by have := HNE.out; have := HM.out; omega)]; exact hx _ (List.getElem_mem _)
    obtain ⟨t, ht⟩ : ∃ t, (foldF sta mid ed xs pre).1 = t := ⟨_, rfl⟩
    obtain ⟨xi, hxe⟩ : ∃ y, getT xs i = y := ⟨_, rfl⟩
    rw [hxe] at hsn hgx hxi
    rw [ht] at hsn hR hts
    have hf : xs.length - 2 = k2 := by have := HNE.out; have := HK2.out; omega
    rw [hf] at hsn
    have c4 := hR.b4.at_ 0 (v := (.iface 28 (.agg #[.slice A L.length c]))) rfl
    have c5 := hR.b5.at_ 0 (v := .string loc) rfl
    have c7 := hR.b7.at_ 0 (v := .string st) rfl
    have c10 := hR.b10.at_ 0 (v := .int .i64 (N : Int)) rfl
    have c11 := hR.b11.at_ 0 (v := .string t) rfl
    have c12 := hR.b12.at_ 0 (v := .string mid) rfl
    have hgW := hg.below hR.bw hg.size
    have hLW := hL.below (hR.bw.mono hB)
    have hBW := Nat.le_trans hB hR.bw.size
    rw [hgx]
    have hkz : (k2 : Int) ≠ 0 := by have := HK2.out; have := H3.out; omega
    clear hgx hxe ht hf hstops hfall hfstop hx1 hgi
    -- what the rest of a round comes to, whichever part is taken
    have tailP : ∀ (p : ByteArray) (W2 : World), p.size ≤ 281474976710656 → Rd w (.iface 28 (.agg #[.slice A L.length c])) loc st H1 H2 (N : Int) mid (.slice (some ad) ys.length cc) ⟨#[]⟩ 0 t W2 → Below W.heap.size W W2 → ∃ t1 e1, fillT p [xi, t] = (t1, e1) ∧ Calls Tryz.prog 17 #[.string p, .slice (some ⟨W2.heap.size, 0, none⟩) 2 2] (W2.alloc (.cells #[.string xi, .string t] 9)) fun e w' => e = .returned (.tuple #[.string t1, .int .i64 e1]) ∧ Below (W2.alloc (.cells #[.string xi, .string t] 9)).heap.size (W2.alloc (.cells #[.string xi, .string t] 9)) w' := fun p W2 hp hR2 hb2 => by
      have hT := texts2 W2 xi t
      have hR3 := hR2.alloc (.cells #[.string xi, .string t] 9)
      exact ⟨_, _, rfl, fill_any p _ [xi, t] 2 _ hp (by simp) (by intro z hz; simp at hz; rcases hz with rfl | rfl <;> assumption) _ (hg.below hR3.bw hg.size) hT (by simp)⟩
    by_cases hA : i = k2
    · subst hA
      rw [if_pos rfl] at hsn
      have e0 : ((i : Int) == (i : Int)) = true := by simp
      have HP := HPe W hgW hLW hBW
      clear HPe HPs
      gi_wp2_with fail
      refine ⟨trivial, ?_⟩
      refine (CallsIn.inRound l (callsIn_wide.2 HP)).mono ?_
      rintro e W2 ⟨rfl, hb2⟩
      have hR2 := hR.call hb2
      have d11 := hR2.b11.at_ 0 (v := .string t) rfl
      obtain ⟨t1, e1, hq, HF⟩ := tailP ed W2 ze hR2 hb2
      clear tailP
      gi_wp2_with fail
      refine ⟨trivial, ?_⟩
      refine (CallsIn.inRound l (callsIn_wide.2 HF)).mono ?_
      rintro e w3 ⟨rfl, hb3⟩
      have hb4 : Below W.heap.size W w3 := (hb2.alloc hb2.size (.cells #[.string xi, .string t] 9)).trans (hb3.mono (by have := hb2.size; simp <;> omega))
      have hR3 := hR.call hb4
      have hq2 := hsn.trans hq
      have HQ := Lib.hid hq2
      have q11 := hR3.b11.at_ 0 (v := .string t) rfl
      have qf := hR3.b11.frozen 0
      have q8 := hR3.b8.at_ 0 (v := .string ⟨#[]⟩) rfl
      have qf8 := hR3.b8.frozen 0
      have q9 := hR3.b9.at_ 0 (v := .int .i64 0) rfl
      have qf9 := hR3.b9.frozen 0
      have h13 := hR.b13.lt
      clear hq hsn hq2 HF c4 c5 c7 c10 c11 c12
      by_cases he : e1 = 0
      · subst he
        gi_wp2_with fail
        refine ⟨(KeepsOthers.of_below hb4).trans (KeepsOthers.setCell _ _ _), ⟨(hb4.mono hR.bw.size).setCell (p := ⟨H1 + 1, 0, none⟩) (by show w.heap.size ≤ H1 + 1; omega) _, (Below.heap_setCell _ _ _ _ (by show H2 + 1 ≠ H1 + 1; omega)).trans (hb4.block _ h13)⟩, by rw [HQ.out], ?_⟩
        rw [HQ.out]
        exact hR3.text h5 h2 t1
      · have he' : (e1 != 0) = true := by simpa using he
        gi_wp2_with fail
        refine ⟨(KeepsOthers.of_below hb4).trans ((KeepsOthers.setCell _ _ _).trans (KeepsOthers.setCell _ _ _)), rfl, by rw [HQ.out]; exact he, t, ?_⟩
        rw [HQ.out]
        exact hR3.fin h5 h2 ⟨#[]⟩ e1
    · have e0 : ((i : Int) == (k2 : Int)) = false := by simp; omega
      rw [if_neg hA] at hsn
      by_cases hz : i = 0
      · subst hz
        rw [if_pos rfl] at hsn
        have e0' : (((0 : Nat) : Int) == (k2 : Int)) = false := e0
        have HP := HPs W hgW hLW hBW
        clear HPe HPs
        gi_wp2_with fail
        refine ⟨trivial, ?_⟩
        refine (CallsIn.inRound l (callsIn_wide.2 HP)).mono ?_
        rintro e W2 ⟨rfl, hb2⟩
        have hR2 := hR.call hb2
        have d11 := hR2.b11.at_ 0 (v := .string t) rfl
        obtain ⟨t1, e1, hq, HF⟩ := tailP sta W2 zs hR2 hb2
        clear tailP
        gi_wp2_with fail
        refine ⟨trivial, ?_⟩
        refine (CallsIn.inRound l (callsIn_wide.2 HF)).mono ?_
        rintro e w3 ⟨rfl, hb3⟩
        have hb4 : Below W.heap.size W w3 := (hb2.alloc hb2.size (.cells #[.string xi, .string t] 9)).trans (hb3.mono (by have := hb2.size; simp <;> omega))
        have hR3 := hR.call hb4
        have hq2 := hsn.trans hq
        have HQ := Lib.hid hq2
        have q11 := hR3.b11.at_ 0 (v := .string t) rfl
        have qf := hR3.b11.frozen 0
        have q8 := hR3.b8.at_ 0 (v := .string ⟨#[]⟩) rfl
        have qf8 := hR3.b8.frozen 0
        have q9 := hR3.b9.at_ 0 (v := .int .i64 0) rfl
        have qf9 := hR3.b9.frozen 0
        have h13 := hR.b13.lt
        clear hq hsn hq2 HF c4 c5 c7 c10 c11 c12
        by_cases he : e1 = 0
        · subst he
          gi_wp2_with fail
          refine ⟨(KeepsOthers.of_below hb4).trans (KeepsOthers.setCell _ _ _), ⟨(hb4.mono hR.bw.size).setCell (p := ⟨H1 + 1, 0, none⟩) (by show w.heap.size ≤ H1 + 1; omega) _, (Below.heap_setCell _ _ _ _ (by show H2 + 1 ≠ H1 + 1; omega)).trans (hb4.block _ h13)⟩, by rw [HQ.out], ?_⟩
          rw [HQ.out]
          exact hR3.text h5 h2 t1
        · have he' : (e1 != 0) = true := by simpa using he
          gi_wp2_with fail
          refine ⟨(KeepsOthers.of_below hb4).trans ((KeepsOthers.setCell _ _ _).trans (KeepsOthers.setCell _ _ _)), rfl, by rw [HQ.out]; exact he, t, ?_⟩
          rw [HQ.out]
          exact hR3.fin h5 h2 ⟨#[]⟩ e1
      · have e2 : ((i : Int) == 0) = false := by simp; omega
        rw [if_neg hz] at hsn
        have hb2 := Below.refl W.heap.size W
        obtain ⟨t1, e1, hq, HF⟩ := tailP mid W zm hR hb2
        clear tailP HPe HPs
        gi_wp2_with fail
        refine ⟨trivial, ?_⟩
        refine (CallsIn.inRound l (callsIn_wide.2 HF)).mono ?_
        rintro e w3 ⟨rfl, hb3⟩
        have hb4 : Below W.heap.size W w3 := (hb2.alloc hb2.size (.cells #[.string xi, .string t] 9)).trans (hb3.mono (by have := hb2.size; simp <;> omega))
        have hR3 := hR.call hb4
        have hq2 := hsn.trans hq
        have HQ := Lib.hid hq2
        have q11 := hR3.b11.at_ 0 (v := .string t) rfl
        have qf := hR3.b11.frozen 0
        have q8 := hR3.b8.at_ 0 (v := .string ⟨#[]⟩) rfl
        have qf8 := hR3.b8.frozen 0
        have q9 := hR3.b9.at_ 0 (v := .int .i64 0) rfl
        have qf9 := hR3.b9.frozen 0
        have h13 := hR.b13.lt
        clear hq hsn hq2 HF c4 c5 c7 c10 c11 c12
        by_cases he : e1 = 0
        · subst he
          gi_wp2_with fail
          refine ⟨(KeepsOthers.of_below hb4).trans (KeepsOthers.setCell _ _ _), ⟨(hb4.mono hR.bw.size).setCell (p := ⟨H1 + 1, 0, none⟩) (by show w.heap.size ≤ H1 + 1; omega) _, (Below.heap_setCell _ _ _ _ (by show H2 + 1 ≠ H1 + 1; omega)).trans (hb4.block _ h13)⟩, by rw [HQ.out], ?_⟩
          rw [HQ.out]
          exact hR3.text h5 h2 t1
        · have he' : (e1 != 0) = true := by simpa using he
          gi_wp2_with fail
          refine ⟨(KeepsOthers.of_below hb4).trans ((KeepsOthers.setCell _ _ _).trans (KeepsOthers.setCell _ _ _)), rfl, by rw [HQ.out]; exact he, t, ?_⟩
          rw [HQ.out]
          exact hR3.fin h5 h2 ⟨#[]⟩ e1
  case done =>
    rintro D zs W hD rfl ⟨h0, hR⟩ hK
    rw [hfall] at h0 hR
    obtain ⟨⟨t, e⟩, hq⟩ : ∃ q, listP two sta mid ed xs = q := ⟨_, rfl⟩
    rw [hq] at h0 hR
    dsimp only at h0 hR
    subst h0
    have HQ := Lib.hid hq
    clear hq hfall hfstop hfsz hstops HPe HPs
    have c11 := hR.b11.at_ 0 (v := .string t) rfl
    have c8 := hR.b8.at_ 0 (v := .string ⟨#[]⟩) rfl
    have f8 := hR.b8.frozen 0
    have c9 := hR.b9.at_ 0 (v := .int .i64 0) rfl
    have f9 := hR.b9.frozen 0
    have hR2 := hR.fin h5 h2 t 0
    have hK' := ((KeepsOthers.setCell W ⟨w.heap.size + 3, 0, none⟩ (.string t)).trans (KeepsOthers.setCell _ ⟨w.heap.size + 4, 0, none⟩ (.int .i64 0))).same D _ hK rfl
    have hR3 := hR2.own (B := wl.heap.size) (by omega) h5 h2 (grownBy_putObj' _ D (.deferred none)) (fun r e => by cases e; exact hD)
    have d8 := hR3.b8.at_ 0 (v := .string t) rfl
    have d9 := hR3.b9.at_ 0 (v := .int .i64 0) rfl
    gi_wp2_with fail
    refine ⟨by simp, .inl ⟨_, _, rfl, run_takeDeferred hK', ?_⟩⟩
    refine ⟨.tuple #[.string t, .int .i64 0], ?_, by rw [HQ.out], hR3.bw⟩
    simp [results, Tryz.f10, go_sem, d8, d9]
  case stop =>
    rintro D cd pre W hD ⟨k, hk, rfl⟩ ⟨rfl, hne, t, hR⟩ hK
    have hs := hfstop k hk hne
    have hne2 := hne
    rw [← hs] at hne2 hR
    have he := listP_err hne2
    obtain ⟨⟨t0, e⟩, hq⟩ : ∃ q, listP two sta mid ed xs = q := ⟨_, rfl⟩
    rw [hq] at he hR
    dsimp only at he hR
    subst he
    have HQ := Lib.hid hq
    clear hq hs hne hne2 hfall hfstop hfsz hstops HPe HPs
    have hR3 := hR.own (B := wl.heap.size) (by omega) h5 h2 (grownBy_putObj' _ D (.deferred none)) (fun r e => by cases e; exact hD)
    have d8 := hR3.b8.at_ 0 (v := .string ⟨#[]⟩) rfl
    have d9 := hR3.b9.at_ 0 (v := .int .i64 e) rfl
    gi_wp2_with fail
    refine ⟨by simp, .inl ⟨_, _, rfl, run_takeDeferred hK, ?_⟩⟩
    refine ⟨.tuple #[.string ⟨#[]⟩, .int .i64 e], ?_, by rw [HQ.out], hR3.bw⟩
    simp [results, Tryz.f10, go_sem, d8, d9]
end Go.Proofs.YtpcgcghhddnifaaGreatDoor
namespace Go.Proofs.YtpcgcghhddnifaaGreatDoor
open Go.RowKit
open Ph
def tMid : ByteArray := ⟨#[109, 105, 100, 100, 108, 101]⟩
def tEnd : ByteArray := ⟨#[101, 110, 100]⟩
def tSta : ByteArray := ⟨#[115, 116, 97, 114, 116]⟩
def tTwo : ByteArray := ⟨#[50]⟩
/-- a list in a locale's words, of texts that are right -/
noncomputable def listL (L : List Sd) (loc st : ByteArray) (xs : List ByteArray) : ByteArray × Int := listP (partT L loc st tTwo) (partT L loc st tSta) (partT L loc st tMid) (partT L loc st tEnd) xs
/-- a list in a locale's words, or why not -/
noncomputable def listV (L : List Sd) (loc st : ByteArray) (xs : List ByteArray) : ByteArray × Int :=
  if isNameB st = true then (if 1024 < xs.length then (⟨#[]⟩, 3) else if xs.any wrongU = true then (⟨#[]⟩, 6) else listL L loc st xs) else (⟨#[]⟩, 2)
theorem name_size {s : ByteArray} (h : isNameB s = true) : s.size ≤ 4096 := by
  unfold isNameB at h
  simp at h
  omega
theorem list_any (A : Option Addr) (L : List Sd) (c B : Nat) (loc st : ByteArray) (AA : Option Addr) (xs : List ByteArray) (cc : Nat) (h1 : st.size ≤ 281474976710656) (hcc : xs.length ≤ cc) (hx : ∀ x ∈ xs, x.size ≤ 281474976710656)
    (hl9 : L.length ≤ 281474976710656) (hx9 : ∀ x ∈ L, x.text.size ≤ 281474976710656) (w : World) (hg : GlobP w) (hL : Saids w B A L) (hX : Texts w B AA xs) (hB : B ≤ w.heap.size) :
    Calls Tryz.prog 10 #[srcV A L.length c, .string loc, .slice AA xs.length cc, .string st] w fun e w' => e = .returned (.tuple #[.string (listV L loc st xs).1, .int .i64 (listV L loc st xs).2]) ∧ Below w.heap.size w w' := by
  unfold listV
  cases h : isNameB st with
  | false => exact list_name A L c loc st _ h1 h w
  | true =>
    have h4 := name_size h
    rw [if_pos rfl]
    by_cases hN : 1024 < xs.length
    · rw [if_pos hN]
      exact list_long A L c loc st AA xs.length cc h1 h hN w
    rw [if_neg hN]
    cases hu : xs.any wrongU with
    | true =>
      rw [if_pos rfl]
      exact list_utf A L c B loc st AA xs cc h1 h (by omega) hx hu w hX hB
    | false =>
      rw [if_neg (by decide)]
      unfold listL
      rcases (show xs.length = 0 ∨ xs.length = 1 ∨ xs.length = 2 ∨ 3 ≤ xs.length by omega) with c0 | c0 | c0 | c0
      · have e : listP (partT L loc st tTwo) (partT L loc st tSta) (partT L loc st tMid) (partT L loc st tEnd) xs = (⟨#[]⟩, 0) := by unfold listP; rw [if_pos c0]
        rw [e]
        exact list_0 A L c B loc st AA xs cc h1 h c0 hx hu w hX hB
      · have e : listP (partT L loc st tTwo) (partT L loc st tSta) (partT L loc st tMid) (partT L loc st tEnd) xs = if 262144 < (getT xs 0).size then (⟨#[]⟩, 3) else (getT xs 0, 0) := by unfold listP; rw [if_neg (by omega), if_pos c0]
        rw [e]
        by_cases hs : 262144 < (getT xs 0).size
        · rw [if_pos hs]
          exact list_1l A L c B loc st AA xs cc h1 h c0 hs hx hu w hX hB
        · rw [if_neg hs]
          exact list_1 A L c B loc st AA xs cc h1 h c0 hs hx hu w hX hB
      · have e : listP (partT L loc st tTwo) (partT L loc st tSta) (partT L loc st tMid) (partT L loc st tEnd) xs = fillT (partT L loc st tTwo) xs := by
          unfold listP
          rw [if_neg (by omega), if_neg (by omega), if_pos c0]
          match xs, c0 with
          | [x, y], _ => rfl
        rw [e]
        exact list_2 A L c B loc st AA xs cc h1 h h4 c0 hx hu hl9 hx9 w hg hL hX hB
      · exact list_many A L c B loc st AA xs cc h1 h h4 c0 (by omega) hcc hx hu hl9 hx9 w hg hL hX hB
end Go.Proofs.YtpcgcghhddnifaaGreatDoor
