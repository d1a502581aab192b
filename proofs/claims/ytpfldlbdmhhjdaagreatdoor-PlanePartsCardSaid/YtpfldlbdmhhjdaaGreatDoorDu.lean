/-
  ref03.Made at every row. Conditions: sizes.
-/
import Derived.Test.YtpfldlbdmhhjdaaGreatDoorDt
set_option linter.unusedVariables false
namespace Go.Proofs.YtpfldlbdmhhjdaaGreatDoor
open Go.RowKit Go.Fl Go.Sort
theorem zero_row (k : Nat) : vL [0] < 10 ^ k := Nat.pow_pos (by decide)
set_option maxRecDepth 100000 in
set_option maxHeartbeats 1000000 in
theorem Made_nil (neg : Bool) (A : Option Addr) (c : Nat) (sc : Nat) (hsc : sc ≤ 400) (w : World) :
    Calls Tryz.prog 17 #[.bool neg, .slice A 0 c, .int .i64 (sc : Int)] w fun e w' => e = .returned (.tuple #[decV neg 0 sc, .int .i64 0]) ∧ Below w.heap.size w w' := by
  have hd : decV neg 0 sc = .agg #[.bool false, .string ⟨#[48]⟩, .int .i64 (sc : Int)] := by
    unfold decV
    rw [Lib.decDigits_one (by decide)]
    simp
  have B0 := (Below.refl w.heap.size w).alloc (Nat.le_refl _) (.cells #[.bool false, .string ⟨#[]⟩, .int .i64 0] 27)
  have one1 : RowI ((w.alloc (.cells #[.bool false, .string ⟨#[]⟩, .int .i64 0] 27)).alloc (.cells #[.int .i64 0] 3)) ((w.alloc (.cells #[.bool false, .string ⟨#[]⟩, .int .i64 0] 27)).heap.size + 1) (.slice (some ⟨(w.alloc (.cells #[.bool false, .string ⟨#[]⟩, .int .i64 0] 27)).heap.size, 0, none⟩) 1 1) [0] :=
    ⟨some ⟨(w.alloc (.cells #[.bool false, .string ⟨#[]⟩, .int .i64 0] 27)).heap.size, 0, none⟩, 1, rfl, fun _ => ⟨_, rfl, Nat.lt_succ_self _, fun j hj => by
      obtain rfl : j = 0 := by simpa using hj
      rw [Lib.add_plain]
      simp⟩⟩
  have HP := Made_pos neg (.slice (some ⟨(w.alloc (.cells #[.bool false, .string ⟨#[]⟩, .int .i64 0] 27)).heap.size, 0, none⟩) 1 1) [0] ((w.alloc (.cells #[.bool false, .string ⟨#[]⟩, .int .i64 0] 27)).heap.size + 1) (dig_cons.2 ⟨by decide, dig_nil⟩) (by decide) (by decide) (zero_row 400) sc hsc ((w.alloc (.cells #[.bool false, .string ⟨#[]⟩, .int .i64 0] 27)).alloc (.cells #[.int .i64 0] 3)) (by simp) one1
  rw [show vL [0] = 0 from rfl, hd] at HP
  have hB1 := B0.alloc B0.size (.cells #[.int .i64 0] 3)
  have hb1 : Below (w.heap.size + 1) (w.alloc (.cells #[.bool false, .string ⟨#[]⟩, .int .i64 0] 27)) ((w.alloc (.cells #[.bool false, .string ⟨#[]⟩, .int .i64 0] 27)).alloc (.cells #[.int .i64 0] 3)) := (Below.refl _ _).alloc (by simp) _
  have HD := Lib.hid hd
  have HPP := Lib.hid HP
  clear hd one1 HP
  go_enter Tryz.func17, Tryz.ntmps17
  go_wp2_with fail
  refine wp_loop_rounds 1 ?_
  rw [rounds_succ]
  go_wp2_with fail
  have HP := HPP.out
  rw [World.size_alloc] at HP
  refine HP.mono ?_
  rintro e w5 ⟨rfl, hb5⟩
  have hB5 := hB1.trans (hb5.mono hB1.size)
  have hb6 : Below (w.heap.size + 1) (w.alloc (.cells #[.bool false, .string ⟨#[]⟩, .int .i64 0] 27)) w5 := hb1.trans (hb5.mono (by simp))
  obtain ⟨f0, f1, f2, z0, z1, z2⟩ := keepC hb6
  clear HP HPP hb5 hB1 hb1 hb6
  go_wp2_with fail
  refine bodyPost_ret (v := .tuple #[.agg #[.bool false, .string ⟨#[48]⟩, .int .i64 (sc : Int)], .int .i64 0]) ?_ rfl ⟨by rw [HD.out], ?_⟩
  · obtain ⟨e0, e1, e2⟩ := agg_back f0 f1 f2 (.bool false) (.string ⟨#[48]⟩) (.int .i64 (sc : Int))
    simp [results, Tryz.results17, go_sem, e0, e1, e2]
  · exact ((hB5.setCell (by simp) _).setCell (by simp) _).setCell (by simp) _
theorem Made_any (neg : Bool) (v : Value) (l : List Nat) (B : Nat) (hl : Dig l) (hll : l.length ≤ 50000) (hv : vL l < 10 ^ 400) (sc : Nat) (hsc : sc ≤ 400) (w : World) (hB : B ≤ w.heap.size) (hr : RowI w B v l) :
    Calls Tryz.prog 17 #[.bool neg, v, .int .i64 (sc : Int)] w fun e w' => e = .returned (.tuple #[decV neg (vL l) sc, .int .i64 0]) ∧ Below w.heap.size w w' := by
  cases l with
  | nil =>
    obtain ⟨A, c, rfl, _⟩ := hr
    exact Made_nil neg A c sc hsc w
  | cons d t => exact Made_pos neg v (d :: t) B hl (by simp) hll hv sc hsc w hB hr
end Go.Proofs.YtpfldlbdmhhjdaaGreatDoor
