/-
  plane.Parts at every number and scale. Conditions: sizes, the table of powers.
-/
import Derived.Test.YtpfldlbdmhhjdaaGreatDoorDn
import Derived.Deep.QuietTactic
import Derived.BigQuiet
import Derived.RegionTactic
import Derived.Lib.SmallJoins
set_option linter.unusedVariables false
namespace Go.Proofs.YtpfldlbdmhhjdaaGreatDoor
open Go.RowKit Go.Fl Go.Sort
theorem gPow : Tryz.prog.globalNamed "internal/strconv.uint64pow10" = some 1 := by kernel_rfl
theorem Float_tab (a : Nat) (ha : a < 18446744073709551616) (hf : finW a = true) (sc : Nat) (hsc : sc ≤ 40) (w : World) (hp : Lib.TabIs Tryz.prog w "internal/strconv.uint64pow10" .u64 Lib.pow10Tab) :
    Calls Tryz.prog 13 #[.float .f64 a, .int .i64 sc] w fun e w' => e = .returned (.tuple #[decV (decide (a / 9223372036854775808 = 1)) (numF a sc) sc, .int .i64 0]) ∧ Below w.heap.size w w' :=
  Float_any a ha hf sc hsc w fun w' h => Go.Joins.tab_stays gPow hp h (Nat.le_refl _)
theorem three (w : World) : (((w.alloc (.cells #[.bool false, .string ⟨#[]⟩, .int .i64 0] 27)).alloc (.cells #[.bool false, .string ⟨#[]⟩, .int .i64 0] 27)).alloc (.cells #[.bool false, .string ⟨#[]⟩, .int .i64 0, .bool false, .string ⟨#[]⟩, .int .i64 0] 44)).heap.size = w.heap.size + 3 := by simp
theorem keepP {w W : World} (h : Below (w.heap.size + 3) (((w.alloc (.cells #[.bool false, .string ⟨#[]⟩, .int .i64 0] 27)).alloc (.cells #[.bool false, .string ⟨#[]⟩, .int .i64 0] 27)).alloc (.cells #[.bool false, .string ⟨#[]⟩, .int .i64 0, .bool false, .string ⟨#[]⟩, .int .i64 0] 44)) W) : W.cell? ⟨w.heap.size, 0, none⟩ = some (.bool false) ∧ W.cell? ⟨w.heap.size, 1, none⟩ = some (.string ⟨#[]⟩) ∧ W.cell? ⟨w.heap.size, 2, none⟩ = some (.int .i64 0) ∧ W.frozen? ⟨w.heap.size, 0, none⟩ = false ∧ W.frozen? ⟨w.heap.size, 1, none⟩ = false ∧ W.frozen? ⟨w.heap.size, 2, none⟩ = false ∧ W.cell? ⟨w.heap.size + 1, 0, none⟩ = some (.bool false) ∧ W.cell? ⟨w.heap.size + 1, 1, none⟩ = some (.string ⟨#[]⟩) ∧ W.cell? ⟨w.heap.size + 1, 2, none⟩ = some (.int .i64 0) ∧ W.frozen? ⟨w.heap.size + 1, 0, none⟩ = false ∧ W.frozen? ⟨w.heap.size + 1, 1, none⟩ = false ∧ W.frozen? ⟨w.heap.size + 1, 2, none⟩ = false ∧ W.cell? ⟨w.heap.size + 1 + 1, 0, none⟩ = some (.bool false) ∧ W.cell? ⟨w.heap.size + 1 + 1, 1, none⟩ = some (.string ⟨#[]⟩) ∧ W.cell? ⟨w.heap.size + 1 + 1, 2, none⟩ = some (.int .i64 0) ∧ W.cell? ⟨w.heap.size + 1 + 1, 3, none⟩ = some (.bool false) ∧ W.cell? ⟨w.heap.size + 1 + 1, 4, none⟩ = some (.string ⟨#[]⟩) ∧ W.cell? ⟨w.heap.size + 1 + 1, 5, none⟩ = some (.int .i64 0) ∧ W.frozen? ⟨w.heap.size + 1 + 1, 0, none⟩ = false ∧ W.frozen? ⟨w.heap.size + 1 + 1, 1, none⟩ = false ∧ W.frozen? ⟨w.heap.size + 1 + 1, 2, none⟩ = false ∧ W.frozen? ⟨w.heap.size + 1 + 1, 3, none⟩ = false ∧ W.frozen? ⟨w.heap.size + 1 + 1, 4, none⟩ = false ∧ W.frozen? ⟨w.heap.size + 1 + 1, 5, none⟩ = false := by
  have e0 : W.heap[w.heap.size]? = some (.cells #[.bool false, .string ⟨#[]⟩, .int .i64 0] 27) := (h.block _ (by omega)).trans (((Below.heap_alloc _ _ _ (by simp; omega)).trans (Below.heap_alloc _ _ _ (by simp))).trans (heap_alloc_new w _))
  have e1 : W.heap[w.heap.size + 1]? = some (.cells #[.bool false, .string ⟨#[]⟩, .int .i64 0] 27) := (h.block _ (by omega)).trans ((Below.heap_alloc _ _ _ (by simp)).trans (by have := heap_alloc_new (w.alloc (.cells #[.bool false, .string ⟨#[]⟩, .int .i64 0] 27)) (.cells #[.bool false, .string ⟨#[]⟩, .int .i64 0] 27); rw [World.size_alloc] at this; exact this))
  have e2 : W.heap[w.heap.size + 1 + 1]? = some (.cells #[.bool false, .string ⟨#[]⟩, .int .i64 0, .bool false, .string ⟨#[]⟩, .int .i64 0] 44) := (h.block _ (by omega)).trans (by have := heap_alloc_new ((w.alloc (.cells #[.bool false, .string ⟨#[]⟩, .int .i64 0] 27)).alloc (.cells #[.bool false, .string ⟨#[]⟩, .int .i64 0] 27)) (.cells #[.bool false, .string ⟨#[]⟩, .int .i64 0, .bool false, .string ⟨#[]⟩, .int .i64 0] 44); rw [World.size_alloc, World.size_alloc] at this; exact this)
  refine ⟨?_, ?_, ?_, ?_, ?_, ?_, ?_, ?_, ?_, ?_, ?_, ?_, ?_, ?_, ?_, ?_, ?_, ?_, ?_, ?_, ?_, ?_, ?_, ?_⟩ <;> simp [World.cell?, World.frozen?, e0, e1, e2]
theorem six_back {W : World} {n m : Nat} (hnm : n ≠ m) {u0 u1 u2 u3 u4 u5 : Value} (h0 : W.cell? ⟨n, 0, none⟩ = some u0) (h1 : W.cell? ⟨n, 1, none⟩ = some u1) (h2 : W.cell? ⟨n, 2, none⟩ = some u2) (h3 : W.cell? ⟨m, 0, none⟩ = some u3) (h4 : W.cell? ⟨m, 1, none⟩ = some u4) (h5 : W.cell? ⟨m, 2, none⟩ = some u5) (a b c d e f : Value) : ((((((W.setCell ⟨n, 0, none⟩ a).setCell ⟨n, 1, none⟩ b).setCell ⟨n, 2, none⟩ c).setCell ⟨m, 0, none⟩ d).setCell ⟨m, 1, none⟩ e).setCell ⟨m, 2, none⟩ f).cell? ⟨n, 0, none⟩ = some a ∧ ((((((W.setCell ⟨n, 0, none⟩ a).setCell ⟨n, 1, none⟩ b).setCell ⟨n, 2, none⟩ c).setCell ⟨m, 0, none⟩ d).setCell ⟨m, 1, none⟩ e).setCell ⟨m, 2, none⟩ f).cell? ⟨n, 1, none⟩ = some b ∧ ((((((W.setCell ⟨n, 0, none⟩ a).setCell ⟨n, 1, none⟩ b).setCell ⟨n, 2, none⟩ c).setCell ⟨m, 0, none⟩ d).setCell ⟨m, 1, none⟩ e).setCell ⟨m, 2, none⟩ f).cell? ⟨n, 2, none⟩ = some c ∧ ((((((W.setCell ⟨n, 0, none⟩ a).setCell ⟨n, 1, none⟩ b).setCell ⟨n, 2, none⟩ c).setCell ⟨m, 0, none⟩ d).setCell ⟨m, 1, none⟩ e).setCell ⟨m, 2, none⟩ f).cell? ⟨m, 0, none⟩ = some d ∧ ((((((W.setCell ⟨n, 0, none⟩ a).setCell ⟨n, 1, none⟩ b).setCell ⟨n, 2, none⟩ c).setCell ⟨m, 0, none⟩ d).setCell ⟨m, 1, none⟩ e).setCell ⟨m, 2, none⟩ f).cell? ⟨m, 1, none⟩ = some e ∧ ((((((W.setCell ⟨n, 0, none⟩ a).setCell ⟨n, 1, none⟩ b).setCell ⟨n, 2, none⟩ c).setCell ⟨m, 0, none⟩ d).setCell ⟨m, 1, none⟩ e).setCell ⟨m, 2, none⟩ f).cell? ⟨m, 2, none⟩ = some f := by
  refine ⟨?_, ?_, ?_, ?_, ?_, ?_⟩ <;> simp [World.cell?_setCell_other, World.cell?_setCell_same', h0, h1, h2, h3, h4, h5]
set_option maxRecDepth 100000 in
set_option maxHeartbeats 1500000 in
theorem Parts_bad0 (a b : Nat) (ha : a < 18446744073709551616) (hf : finW a = false) (sc : Nat) (hsc : sc ≤ 40) (w : World) : Calls Tryz.prog 6 #[.complex .f64 a b, .int .i64 sc] w fun e w' => e = .returned (.tuple #[.agg #[.bool false, .string ⟨#[]⟩, .int .i64 0], .agg #[.bool false, .string ⟨#[]⟩, .int .i64 0], .int .i64 7]) ∧ Below w.heap.size w w' := by
  have h1 : ¬ (sc : Int) < 0 := by omega
  have h2 : ¬ 40 < (sc : Int) := by omega
  have HF := fun w : World => Float_bad a ha hf sc hsc w
  have hix := index0 a b
  have hz3 := three w
  have hB0 := (((Below.refl w.heap.size w).alloc (Nat.le_refl _) (.cells #[.bool false, .string ⟨#[]⟩, .int .i64 0] 27)).alloc (by simp) (.cells #[.bool false, .string ⟨#[]⟩, .int .i64 0] 27)).alloc (by simp; omega) (.cells #[.bool false, .string ⟨#[]⟩, .int .i64 0, .bool false, .string ⟨#[]⟩, .int .i64 0] 44)
  have HZ := Lib.hid hz3
  clear hz3
  go_enter Tryz.func6, Tryz.ntmps6
  go_wp2_with fail
  refine wp_loop_rounds 3 ?_
  rw [rounds_succ]
  go_wp2_with (go_at_call 13; go_loud (refine (HF _).mono ?_; rintro e w1 ⟨rfl, hb1⟩; have hBw := hB0.trans (hb1.mono (by rw [HZ.out]; omega)); rw [HZ.out] at hb1; have hzw : w.heap.size + 3 ≤ w1.heap.size := (by have := hb1.size; rw [HZ.out] at this; exact this); have hb2 := hb1.alloc hzw (.cells #[.bool false, .string ⟨#[]⟩, .int .i64 0] 27); obtain ⟨c0, c1, c2, f0, f1, f2, d0, d1, d2, g0, g1, g2, _⟩ := keepP hb2))
  refine bodyPost_ret (v := .tuple #[.agg #[.bool false, .string ⟨#[]⟩, .int .i64 0], .agg #[.bool false, .string ⟨#[]⟩, .int .i64 0], .int .i64 7]) ?_ rfl ⟨rfl, ?_⟩
  · obtain ⟨e0, e1, e2, e3, e4, e5⟩ := six_back (n := w.heap.size) (m := w.heap.size + 1) (by omega) c0 c1 c2 d0 d1 d2 (.bool false) (.string ⟨#[]⟩) (.int .i64 0) (.bool false) (.string ⟨#[]⟩) (.int .i64 0)
    simp [results, Tryz.results6, go_sem, e0, e1, e2, e3, e4, e5]
  · have hBv := hBw.alloc (by omega) (.cells #[.bool false, .string ⟨#[]⟩, .int .i64 0] 27)
    exact (((((hBv.setCell (by simp) _).setCell (by simp) _).setCell (by simp) _).setCell (by simp) _).setCell (by simp) _).setCell (by simp) _
theorem far_c {w V : World} {B : Nat} {p : Addr} {u : Value} (h : Below B w V) (hp : p.block < B) (hu : w.cell? p = some u) : V.cell? p = some u := (h.cell hp).trans hu
theorem far_f {w V : World} {B : Nat} {p : Addr} (h : Below B w V) (hp : p.block < B) (hu : w.frozen? p = false) : V.frozen? p = false := (h.frozen hp).trans hu
/-- what the blocks of Parts hold: both results nothing yet, the array so many cells -/
def Lay (w W : World) (v0 v1 v2 v3 v4 v5 : Value) : Prop := W.cell? ⟨w.heap.size, 0, none⟩ = some (.bool false) ∧ W.cell? ⟨w.heap.size, 1, none⟩ = some (.string ⟨#[]⟩) ∧ W.cell? ⟨w.heap.size, 2, none⟩ = some (.int .i64 0) ∧ W.frozen? ⟨w.heap.size, 0, none⟩ = false ∧ W.frozen? ⟨w.heap.size, 1, none⟩ = false ∧ W.frozen? ⟨w.heap.size, 2, none⟩ = false ∧ W.cell? ⟨w.heap.size + 1, 0, none⟩ = some (.bool false) ∧ W.cell? ⟨w.heap.size + 1, 1, none⟩ = some (.string ⟨#[]⟩) ∧ W.cell? ⟨w.heap.size + 1, 2, none⟩ = some (.int .i64 0) ∧ W.frozen? ⟨w.heap.size + 1, 0, none⟩ = false ∧ W.frozen? ⟨w.heap.size + 1, 1, none⟩ = false ∧ W.frozen? ⟨w.heap.size + 1, 2, none⟩ = false ∧ W.cell? ⟨w.heap.size + 1 + 1, 0, none⟩ = some (v0) ∧ W.cell? ⟨w.heap.size + 1 + 1, 1, none⟩ = some (v1) ∧ W.cell? ⟨w.heap.size + 1 + 1, 2, none⟩ = some (v2) ∧ W.cell? ⟨w.heap.size + 1 + 1, 3, none⟩ = some (v3) ∧ W.cell? ⟨w.heap.size + 1 + 1, 4, none⟩ = some (v4) ∧ W.cell? ⟨w.heap.size + 1 + 1, 5, none⟩ = some (v5) ∧ W.frozen? ⟨w.heap.size + 1 + 1, 0, none⟩ = false ∧ W.frozen? ⟨w.heap.size + 1 + 1, 1, none⟩ = false ∧ W.frozen? ⟨w.heap.size + 1 + 1, 2, none⟩ = false ∧ W.frozen? ⟨w.heap.size + 1 + 1, 3, none⟩ = false ∧ W.frozen? ⟨w.heap.size + 1 + 1, 4, none⟩ = false ∧ W.frozen? ⟨w.heap.size + 1 + 1, 5, none⟩ = false
theorem Lay.far {w W V : World} {B : Nat} {v0 v1 v2 v3 v4 v5 : Value} (h : Lay w W v0 v1 v2 v3 v4 v5) (hb : Below B W V) (hB : w.heap.size + 3 ≤ B) : Lay w V v0 v1 v2 v3 v4 v5 := by
  obtain ⟨c0, c1, c2, f0, f1, f2, d0, d1, d2, g0, g1, g2, k0, k1, k2, k3, k4, k5, l0, l1, l2, l3, l4, l5⟩ := h
  exact ⟨far_c hb (by simp only; omega) c0, far_c hb (by simp only; omega) c1, far_c hb (by simp only; omega) c2, far_f hb (by simp only; omega) f0, far_f hb (by simp only; omega) f1, far_f hb (by simp only; omega) f2, far_c hb (by simp only; omega) d0, far_c hb (by simp only; omega) d1, far_c hb (by simp only; omega) d2, far_f hb (by simp only; omega) g0, far_f hb (by simp only; omega) g1, far_f hb (by simp only; omega) g2, far_c hb (by simp only; omega) k0, far_c hb (by simp only; omega) k1, far_c hb (by simp only; omega) k2, far_c hb (by simp only; omega) k3, far_c hb (by simp only; omega) k4, far_c hb (by simp only; omega) k5, far_f hb (by simp only; omega) l0, far_f hb (by simp only; omega) l1, far_f hb (by simp only; omega) l2, far_f hb (by simp only; omega) l3, far_f hb (by simp only; omega) l4, far_f hb (by simp only; omega) l5⟩
set_option linter.unusedSimpArgs false
theorem Lay.set0 {w W : World} {v0 v1 v2 v3 v4 v5 : Value} (h : Lay w W v0 v1 v2 v3 v4 v5) (a b c : Value) : Lay w (((W.setCell ⟨w.heap.size + 1 + 1, 0, none⟩ a).setCell ⟨w.heap.size + 1 + 1, 1, none⟩ b).setCell ⟨w.heap.size + 1 + 1, 2, none⟩ c) a b c v3 v4 v5 := by
  obtain ⟨c0, c1, c2, f0, f1, f2, d0, d1, d2, g0, g1, g2, k0, k1, k2, k3, k4, k5, l0, l1, l2, l3, l4, l5⟩ := h
  refine ⟨?_, ?_, ?_, ?_, ?_, ?_, ?_, ?_, ?_, ?_, ?_, ?_, ?_, ?_, ?_, ?_, ?_, ?_, ?_, ?_, ?_, ?_, ?_, ?_⟩ <;> simp [World.cell?_setCell_other, World.cell?_setCell_same', World.frozen?_setCell, c0, c1, c2, f0, f1, f2, d0, d1, d2, g0, g1, g2, k0, k1, k2, k3, k4, k5, l0, l1, l2, l3, l4, l5]
theorem Lay.set3 {w W : World} {v0 v1 v2 v3 v4 v5 : Value} (h : Lay w W v0 v1 v2 v3 v4 v5) (a b c : Value) : Lay w (((W.setCell ⟨w.heap.size + 1 + 1, 3, none⟩ a).setCell ⟨w.heap.size + 1 + 1, 4, none⟩ b).setCell ⟨w.heap.size + 1 + 1, 5, none⟩ c) v0 v1 v2 a b c := by
  obtain ⟨c0, c1, c2, f0, f1, f2, d0, d1, d2, g0, g1, g2, k0, k1, k2, k3, k4, k5, l0, l1, l2, l3, l4, l5⟩ := h
  refine ⟨?_, ?_, ?_, ?_, ?_, ?_, ?_, ?_, ?_, ?_, ?_, ?_, ?_, ?_, ?_, ?_, ?_, ?_, ?_, ?_, ?_, ?_, ?_, ?_⟩ <;> simp [World.cell?_setCell_other, World.cell?_setCell_same', World.frozen?_setCell, c0, c1, c2, f0, f1, f2, d0, d1, d2, g0, g1, g2, k0, k1, k2, k3, k4, k5, l0, l1, l2, l3, l4, l5]
set_option maxRecDepth 100000 in
set_option maxHeartbeats 1500000 in
theorem Parts_bad1 (a b : Nat) (ha : a < 18446744073709551616) (hb : b < 18446744073709551616) (hf : finW a = true) (hg : finW b = false) (sc : Nat) (hsc : sc ≤ 40) (w : World) (htab : ∀ w', Below w.heap.size w w' → Lib.TabIs Tryz.prog w' "internal/strconv.uint64pow10" .u64 Lib.pow10Tab) : Calls Tryz.prog 6 #[.complex .f64 a b, .int .i64 sc] w fun e w' => e = .returned (.tuple #[.agg #[.bool false, .string ⟨#[]⟩, .int .i64 0], .agg #[.bool false, .string ⟨#[]⟩, .int .i64 0], .int .i64 7]) ∧ Below w.heap.size w w' := by
  have h1 : ¬ (sc : Int) < 0 := by omega
  have h2 : ¬ 40 < (sc : Int) := by omega
  have HF := fun w : World => Float_bad b hb hg sc hsc w
  have HG := fun (w : World) h => Float_tab a ha hf sc hsc w h
  obtain ⟨na, hna⟩ : ∃ na, na = (decide (a / 9223372036854775808 = 1) && decide (numF a sc ≠ 0)) := ⟨_, rfl⟩
  obtain ⟨sa, hsa⟩ : ∃ sa : ByteArray, sa = ⟨(Lib.decDigits (numF a sc)).toArray⟩ := ⟨_, rfl⟩
  have hd : decV (decide (a / 9223372036854775808 = 1)) (numF a sc) sc = .agg #[.bool na, .string sa, .int .i64 (sc : Int)] := by rw [hna, hsa]; rfl
  rw [hd] at HG
  clear hna hsa hd
  have hix := index0 a b
  have hiy := index1 a b
  have hz3 := three w
  have hB0 := (((Below.refl w.heap.size w).alloc (Nat.le_refl _) (.cells #[.bool false, .string ⟨#[]⟩, .int .i64 0] 27)).alloc (by simp) (.cells #[.bool false, .string ⟨#[]⟩, .int .i64 0] 27)).alloc (by simp; omega) (.cells #[.bool false, .string ⟨#[]⟩, .int .i64 0, .bool false, .string ⟨#[]⟩, .int .i64 0] 44)
  have HZ := Lib.hid hz3
  clear hz3
  go_enter Tryz.func6, Tryz.ntmps6
  go_wp2_with fail
  refine wp_loop_rounds 3 ?_
  rw [rounds_succ]
  go_wp2_with (go_at_call 13; go_loud (refine (HG _ (htab _ hB0)).mono ?_; rintro e w1 ⟨rfl, hb1⟩; have hBw := hB0.trans (hb1.mono (by rw [HZ.out]; omega)); rw [HZ.out] at hb1; have hzw : w.heap.size + 3 ≤ w1.heap.size := (by have := hb1.size; rw [HZ.out] at this; exact this); have hb2 := hb1.alloc hzw (.cells #[.bool na, .string sa, .int .i64 (sc : Int)] 27); obtain ⟨c0, c1, c2, f0, f1, f2, d0, d1, d2, g0, g1, g2, k0, k1, k2, k3, k4, k5, l0, l1, l2, l3, l4, l5⟩ := keepP hb2))
  have L1 : Lay w (w1.alloc (.cells #[.bool na, .string sa, .int .i64 (sc : Int)] 27)) (.bool false) (.string ⟨#[]⟩) (.int .i64 0) (.bool false) (.string ⟨#[]⟩) (.int .i64 0) := keepP hb2
  have L2 := L1.set0 (.bool na) (.string sa) (.int .i64 (sc : Int))
  have hB2 := (((hBw.alloc (by omega) (.cells #[.bool na, .string sa, .int .i64 (sc : Int)] 27)).setCell (p := ⟨w.heap.size + 1 + 1, 0, none⟩) (by simp; omega) (.bool na)).setCell (p := ⟨w.heap.size + 1 + 1, 1, none⟩) (by simp; omega) (.string sa)).setCell (p := ⟨w.heap.size + 1 + 1, 2, none⟩) (by simp; omega) (.int .i64 (sc : Int))
  have hs2 : w.heap.size + 3 ≤ ((((w1.alloc (.cells #[.bool na, .string sa, .int .i64 (sc : Int)] 27)).setCell ⟨w.heap.size + 1 + 1, 0, none⟩ (.bool na)).setCell ⟨w.heap.size + 1 + 1, 1, none⟩ (.string sa)).setCell ⟨w.heap.size + 1 + 1, 2, none⟩ (.int .i64 (sc : Int))).heap.size := by simp; omega
  clear c0 c1 c2 f0 f1 f2 d0 d1 d2 g0 g1 g2 k0 k1 k2 k3 k4 k5 l0 l1 l2 l3 l4 l5 L1 hb1 hb2 hzw hBw
  generalize (((w1.alloc (.cells #[.bool na, .string sa, .int .i64 (sc : Int)] 27)).setCell ⟨w.heap.size + 1 + 1, 0, none⟩ (.bool na)).setCell ⟨w.heap.size + 1 + 1, 1, none⟩ (.string sa)).setCell ⟨w.heap.size + 1 + 1, 2, none⟩ (.int .i64 (sc : Int)) = w2 at *
  clear HG hix
  rw [rounds_succ]
  go_wp2_with (go_at_call 13; go_loud (refine (HF _).mono ?_; rintro e w3 ⟨rfl, hb3⟩; have hB3 := hB2.trans (hb3.mono (by omega)); have hs3 := Nat.le_trans hs2 hb3.size; have L3 := L2.far (hb3.alloc hb3.size (.cells #[.bool false, .string ⟨#[]⟩, .int .i64 0] 27)) hs2; obtain ⟨c0, c1, c2, f0, f1, f2, d0, d1, d2, g0, g1, g2, _⟩ := L3))
  refine bodyPost_ret (v := .tuple #[.agg #[.bool false, .string ⟨#[]⟩, .int .i64 0], .agg #[.bool false, .string ⟨#[]⟩, .int .i64 0], .int .i64 7]) ?_ rfl ⟨rfl, ?_⟩
  · obtain ⟨e0, e1, e2, e3, e4, e5⟩ := six_back (n := w.heap.size) (m := w.heap.size + 1) (by omega) c0 c1 c2 d0 d1 d2 (.bool false) (.string ⟨#[]⟩) (.int .i64 0) (.bool false) (.string ⟨#[]⟩) (.int .i64 0)
    simp [results, Tryz.results6, go_sem, e0, e1, e2, e3, e4, e5]
  · have hBv := hB3.alloc (by omega) (.cells #[.bool false, .string ⟨#[]⟩, .int .i64 0] 27)
    exact (((((hBv.setCell (by simp) _).setCell (by simp) _).setCell (by simp) _).setCell (by simp) _).setCell (by simp) _).setCell (by simp) _
set_option maxRecDepth 100000 in
set_option maxHeartbeats 1500000 in
theorem Parts_good (a b : Nat) (ha : a < 18446744073709551616) (hb : b < 18446744073709551616) (hf : finW a = true) (hg : finW b = true) (sc : Nat) (hsc : sc ≤ 40) (w : World) (htab : ∀ w', Below w.heap.size w w' → Lib.TabIs Tryz.prog w' "internal/strconv.uint64pow10" .u64 Lib.pow10Tab) : Calls Tryz.prog 6 #[.complex .f64 a b, .int .i64 sc] w fun e w' => e = .returned (.tuple #[decV (decide (a / 9223372036854775808 = 1)) (numF a sc) sc, decV (decide (b / 9223372036854775808 = 1)) (numF b sc) sc, .int .i64 0]) ∧ Below w.heap.size w w' := by
  have h1 : ¬ (sc : Int) < 0 := by omega
  have h2 : ¬ 40 < (sc : Int) := by omega
  have HF := fun (w : World) h => Float_tab b hb hg sc hsc w h
  have HG := fun (w : World) h => Float_tab a ha hf sc hsc w h
  obtain ⟨na, hna⟩ : ∃ na, na = (decide (a / 9223372036854775808 = 1) && decide (numF a sc ≠ 0)) := ⟨_, rfl⟩
  obtain ⟨sa, hsa⟩ : ∃ sa : ByteArray, sa = ⟨(Lib.decDigits (numF a sc)).toArray⟩ := ⟨_, rfl⟩
  have hd : decV (decide (a / 9223372036854775808 = 1)) (numF a sc) sc = .agg #[.bool na, .string sa, .int .i64 (sc : Int)] := by rw [hna, hsa]; rfl
  rw [hd] at HG ⊢
  obtain ⟨nb, hnb⟩ : ∃ nb, nb = (decide (b / 9223372036854775808 = 1) && decide (numF b sc ≠ 0)) := ⟨_, rfl⟩
  obtain ⟨sb, hsb⟩ : ∃ sb : ByteArray, sb = ⟨(Lib.decDigits (numF b sc)).toArray⟩ := ⟨_, rfl⟩
  have hd2 : decV (decide (b / 9223372036854775808 = 1)) (numF b sc) sc = .agg #[.bool nb, .string sb, .int .i64 (sc : Int)] := by rw [hnb, hsb]; rfl
  rw [hd2] at HF ⊢
  clear hna hsa hd hnb hsb hd2
  have hix := index0 a b
  have hiy := index1 a b
  have hz3 := three w
  have hB0 := (((Below.refl w.heap.size w).alloc (Nat.le_refl _) (.cells #[.bool false, .string ⟨#[]⟩, .int .i64 0] 27)).alloc (by simp) (.cells #[.bool false, .string ⟨#[]⟩, .int .i64 0] 27)).alloc (by simp; omega) (.cells #[.bool false, .string ⟨#[]⟩, .int .i64 0, .bool false, .string ⟨#[]⟩, .int .i64 0] 44)
  have HZ := Lib.hid hz3
  clear hz3
  go_enter Tryz.func6, Tryz.ntmps6
  go_wp2_with fail
  refine wp_loop_rounds 3 ?_
  rw [rounds_succ]
  go_wp2_with (go_at_call 13; go_loud (refine (HG _ (htab _ hB0)).mono ?_; rintro e w1 ⟨rfl, hb1⟩; have hBw := hB0.trans (hb1.mono (by rw [HZ.out]; omega)); rw [HZ.out] at hb1; have hzw : w.heap.size + 3 ≤ w1.heap.size := (by have := hb1.size; rw [HZ.out] at this; exact this); have hb2 := hb1.alloc hzw (.cells #[.bool na, .string sa, .int .i64 (sc : Int)] 27); obtain ⟨c0, c1, c2, f0, f1, f2, d0, d1, d2, g0, g1, g2, k0, k1, k2, k3, k4, k5, l0, l1, l2, l3, l4, l5⟩ := keepP hb2))
  have L1 : Lay w (w1.alloc (.cells #[.bool na, .string sa, .int .i64 (sc : Int)] 27)) (.bool false) (.string ⟨#[]⟩) (.int .i64 0) (.bool false) (.string ⟨#[]⟩) (.int .i64 0) := keepP hb2
  have L2 := L1.set0 (.bool na) (.string sa) (.int .i64 (sc : Int))
  have hB2 := (((hBw.alloc (by omega) (.cells #[.bool na, .string sa, .int .i64 (sc : Int)] 27)).setCell (p := ⟨w.heap.size + 1 + 1, 0, none⟩) (by simp; omega) (.bool na)).setCell (p := ⟨w.heap.size + 1 + 1, 1, none⟩) (by simp; omega) (.string sa)).setCell (p := ⟨w.heap.size + 1 + 1, 2, none⟩) (by simp; omega) (.int .i64 (sc : Int))
  have hs2 : w.heap.size + 3 ≤ ((((w1.alloc (.cells #[.bool na, .string sa, .int .i64 (sc : Int)] 27)).setCell ⟨w.heap.size + 1 + 1, 0, none⟩ (.bool na)).setCell ⟨w.heap.size + 1 + 1, 1, none⟩ (.string sa)).setCell ⟨w.heap.size + 1 + 1, 2, none⟩ (.int .i64 (sc : Int))).heap.size := by simp; omega
  clear c0 c1 c2 f0 f1 f2 d0 d1 d2 g0 g1 g2 k0 k1 k2 k3 k4 k5 l0 l1 l2 l3 l4 l5 L1 hb1 hb2 hzw hBw
  generalize (((w1.alloc (.cells #[.bool na, .string sa, .int .i64 (sc : Int)] 27)).setCell ⟨w.heap.size + 1 + 1, 0, none⟩ (.bool na)).setCell ⟨w.heap.size + 1 + 1, 1, none⟩ (.string sa)).setCell ⟨w.heap.size + 1 + 1, 2, none⟩ (.int .i64 (sc : Int)) = w2 at *
  clear HG hix
  rw [rounds_succ]
  go_wp2_with (go_at_call 13; go_loud (refine (HF _ (htab _ hB2)).mono ?_; rintro e w3 ⟨rfl, hb3⟩; have hB3 := hB2.trans (hb3.mono (by omega)); have hs3 := Nat.le_trans hs2 hb3.size; have L3 := L2.far (hb3.alloc hb3.size (.cells #[.bool nb, .string sb, .int .i64 (sc : Int)] 27)) hs2; have L9 := L3; obtain ⟨c0, c1, c2, f0, f1, f2, d0, d1, d2, g0, g1, g2, k0, k1, k2, k3, k4, k5, l0, l1, l2, l3, l4, l5⟩ := L9))
  have L4 := L3.set3 (.bool nb) (.string sb) (.int .i64 (sc : Int))
  have hB4 := (((hB3.alloc (by omega) (.cells #[.bool nb, .string sb, .int .i64 (sc : Int)] 27)).setCell (p := ⟨w.heap.size + 1 + 1, 3, none⟩) (by simp; omega) (.bool nb)).setCell (p := ⟨w.heap.size + 1 + 1, 4, none⟩) (by simp; omega) (.string sb)).setCell (p := ⟨w.heap.size + 1 + 1, 5, none⟩) (by simp; omega) (.int .i64 (sc : Int))
  clear c0 c1 c2 f0 f1 f2 d0 d1 d2 g0 g1 g2 k0 k1 k2 k3 k4 k5 l0 l1 l2 l3 l4 l5
  generalize (((w3.alloc (.cells #[.bool nb, .string sb, .int .i64 (sc : Int)] 27)).setCell ⟨w.heap.size + 1 + 1, 3, none⟩ (.bool nb)).setCell ⟨w.heap.size + 1 + 1, 4, none⟩ (.string sb)).setCell ⟨w.heap.size + 1 + 1, 5, none⟩ (.int .i64 (sc : Int)) = w4 at *
  obtain ⟨c0, c1, c2, f0, f1, f2, d0, d1, d2, g0, g1, g2, k0, k1, k2, k3, k4, k5, l0, l1, l2, l3, l4, l5⟩ := L4
  clear HF hiy L2 L3 hB3 hs3 hb3 hB2 hs2 hB0 HZ htab ha hb hf hg l0 l1 l2 l3 l4 l5
  rw [rounds_succ]
  go_wp2_with fail
  go_region
  go_wp2_with fail
  refine bodyPost_ret (v := .tuple #[.agg #[.bool na, .string sa, .int .i64 (sc : Int)], .agg #[.bool nb, .string sb, .int .i64 (sc : Int)], .int .i64 0]) ?_ rfl ⟨rfl, ?_⟩
  · obtain ⟨e0, e1, e2, e3, e4, e5⟩ := six_back (n := w.heap.size) (m := w.heap.size + 1) (by omega) c0 c1 c2 d0 d1 d2 (.bool na) (.string sa) (.int .i64 (sc : Int)) (.bool nb) (.string sb) (.int .i64 (sc : Int))
    simp [results, Tryz.results6, go_sem, e0, e1, e2, e3, e4, e5]
  · have hB5 := (((((hB4.setCell (p := ⟨w.heap.size, 0, none⟩) (by simp) (.bool na)).setCell (p := ⟨w.heap.size, 1, none⟩) (by simp) (.string sa)).setCell (p := ⟨w.heap.size, 2, none⟩) (by simp) (.int .i64 (sc : Int))).setCell (p := ⟨w.heap.size + 1, 0, none⟩) (by simp) (.bool nb)).setCell (p := ⟨w.heap.size + 1, 1, none⟩) (by simp) (.string sb)).setCell (p := ⟨w.heap.size + 1, 2, none⟩) (by simp) (.int .i64 (sc : Int))
    first | exact hB5.drew | exact hB5
/-- what Parts comes to: an error, or both decimals -/
def errP (a b : Nat) (x : Int) : Nat := if x < 0 ∨ 40 < x then 2 else if finW a && finW b then 0 else 7
def zeroD : Value := .agg #[.bool false, .string ⟨#[]⟩, .int .i64 0]
def partV (a b : Nat) (x : Int) : Value := if errP a b x = 0 then decV (decide (a / 9223372036854775808 = 1)) (numF a x.toNat) x.toNat else zeroD
theorem Parts_any (a b : Nat) (ha : a < 18446744073709551616) (hb : b < 18446744073709551616) (x : Int) (w : World) (hp : Lib.TabIs Tryz.prog w "internal/strconv.uint64pow10" .u64 Lib.pow10Tab) : Calls Tryz.prog 6 #[.complex .f64 a b, .int .i64 x] w fun e w' => e = .returned (.tuple #[partV a b x, partV b a x, .int .i64 (errP a b x : Nat)]) ∧ Below w.heap.size w w' := by
  have htab : ∀ w', Below w.heap.size w w' → Lib.TabIs Tryz.prog w' "internal/strconv.uint64pow10" .u64 Lib.pow10Tab := fun w' h => Go.Joins.tab_stays gPow hp h (Nat.le_refl _)
  by_cases hx : x < 0 ∨ 40 < x
  · have e1 : errP a b x = 2 := if_pos hx
    have e2 : errP b a x = 2 := if_pos hx
    have e3 : partV a b x = zeroD := by unfold partV; rw [e1]; rfl
    have e4 : partV b a x = zeroD := by unfold partV; rw [e2]; rfl
    rw [e1, e3, e4]
    exact Parts_scale a b x hx w
  · obtain ⟨sc, rfl⟩ : ∃ sc : Nat, x = sc := ⟨x.toNat, by omega⟩
    have hsc : sc ≤ 40 := by omega
    cases hf : finW a with
    | false =>
      have e1 : errP a b sc = 7 := by unfold errP; rw [if_neg hx, hf]; rfl
      have e2 : errP b a sc = 7 := by unfold errP; rw [if_neg hx, hf, Bool.and_false]; rfl
      have e3 : partV a b sc = zeroD := by unfold partV; rw [e1]; rfl
      have e4 : partV b a sc = zeroD := by unfold partV; rw [e2]; rfl
      rw [e1, e3, e4]
      exact Parts_bad0 a b ha hf sc hsc w
    | true =>
      cases hg : finW b with
      | false =>
        have e1 : errP a b sc = 7 := by unfold errP; rw [if_neg hx, hf, hg]; rfl
        have e2 : errP b a sc = 7 := by unfold errP; rw [if_neg hx, hf, hg]; rfl
        have e3 : partV a b sc = zeroD := by unfold partV; rw [e1]; rfl
        have e4 : partV b a sc = zeroD := by unfold partV; rw [e2]; rfl
        rw [e1, e3, e4]
        exact Parts_bad1 a b ha hb hf hg sc hsc w htab
      | true =>
        have e1 : errP a b sc = 0 := by unfold errP; rw [if_neg hx, hf, hg]; rfl
        have e2 : errP b a sc = 0 := by unfold errP; rw [if_neg hx, hf, hg]; rfl
        have e3 : partV a b sc = decV (decide (a / 9223372036854775808 = 1)) (numF a sc) sc := by unfold partV; rw [e1]; rfl
        have e4 : partV b a sc = decV (decide (b / 9223372036854775808 = 1)) (numF b sc) sc := by unfold partV; rw [e2]; rfl
        rw [e1, e3, e4]
        exact Parts_good a b ha hb hf hg sc hsc w htab
end Go.Proofs.YtpfldlbdmhhjdaaGreatDoor
