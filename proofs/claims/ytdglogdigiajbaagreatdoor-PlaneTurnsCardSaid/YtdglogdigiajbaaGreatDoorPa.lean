/-
  Contracts of the numbers of bits, of finite, of plane.Turned and plane.Mirrored. No condition.
-/
import Derived.Test.YtdglogdigiajbaaGreatDoorProg
import Derived.Test.YtdglogdigiajbaaGreatDoorUa
import Derived.WalkKit
import Derived.ProofKit
import Derived.Lib.Hide
import Derived.Lib.SmallJoins
import Derived.WalkLawsBesides
import Derived.Laws.Externs
import Derived.Laws.ComplexArith
import Derived.Deep.QuietTactic
import Derived.BigQuiet
set_option linter.unusedVariables false
namespace Go.Proofs.YtdglogdigiajbaaGreatDoor
open Go.RowKit
theorem blw_drewN {B : Nat} {a w : World} (h : Below B a w) (k : Nat) : Below B a (w.drewN k) := ⟨h.os, h.tape, h.output, h.size, h.block⟩
theorem run_from (n : Int) (w : World) : (callFunc 10 #[.int .u64 n]).run Tryz.prog w = .ok (.value (.float .f64 n.toNat)) w := by
  rw [run_callFunc_extern Tryz.func10 (by kernel_rfl) (by kernel_rfl) (by kernel_rfl) (e := Extern.MathFloatBits.float64frombits) (by rfl)]
  rfl
theorem number_any (x y : Int) (w : World) : Calls Tryz.prog 5 #[.agg #[.int .u64 x, .int .u64 y]] w fun e w' => e = .returned (.complex .f64 x.toNat y.toNat) ∧ Below w.heap.size w w' := by
  have h1 := run_from x
  have h2 := run_from y
  go_enter Tryz.func5, Tryz.ntmps5
  go_wp2_with fail
  go_quiet (fail)
  go_wp2_with fail
  refine bodyPost_ret (v := .complex .f64 x.toNat y.toNat) ?_ rfl ⟨rfl, blw_drewN ((Below.refl _ _).alloc (Nat.le_refl _) _) _⟩
  simp [results, Tryz.results5, go_sem]
theorem run_neg (b : Nat) (w : World) : Sem.run Tryz.prog (Op.unary .neg (.float .f64 b)) w = .ok (.float .f64 (flip b)) w := rfl
theorem Turned_any (a b : Nat) (w : World) : Calls Tryz.prog 7 #[.complex .f64 a b] w fun e w' => e = .returned (.complex .f64 (flip b) a) ∧ w' = w := by
  have hn := run_neg b
  go_enter Tryz.func7, Tryz.ntmps7
  go_wp2_with fail
  refine bodyPost_ret (v := .complex .f64 (flip b) a) ?_ rfl ⟨rfl, rfl⟩
  simp [results, Tryz.results7, go_sem]
theorem Mirrored_any (a b : Nat) (w : World) : Calls Tryz.prog 8 #[.complex .f64 a b] w fun e w' => e = .returned (.complex .f64 a (flip b)) ∧ w' = w := by
  have hn := run_neg b
  go_enter Tryz.func8, Tryz.ntmps8
  go_wp2_with fail
  refine bodyPost_ret (v := .complex .f64 a (flip b)) ?_ rfl ⟨rfl, rfl⟩
  simp [results, Tryz.results8, go_sem]
/-- a word that is no number: whatever is asked for it -/
def nanW (a t : Nat) : Nat := Question.cut (.nanBits .f64 a a) t
theorem nan_rung (a t : Nat) : 9218868437227405312 < nanW a t % 9223372036854775808 := by
  show 9218868437227405312 < (t % 2 * 9223372036854775808 + 9218868437227405312 + 1 + t / 2 % 4503599627370495) % 9223372036854775808
  have h1 : t / 2 % 4503599627370495 < 4503599627370495 := Nat.mod_lt _ (by decide)
  have h2 : t % 2 = 0 ∨ t % 2 = 1 := by omega
  generalize t / 2 % 4503599627370495 = x at *
  rcases h2 with h | h <;> rw [h] <;> omega
theorem order_nan {r : Nat} (h : 9218868437227405312 < r % 9223372036854775808) (y : Nat) : FloatKind.f64.format.order r y = none := by
  have hw : FloatKind.f64.format.signWeight = 9223372036854775808 := by decide
  have hi : FloatKind.f64.format.infRung = 9218868437227405312 := by decide
  have hb : FloatKind.f64.format.binade = 4503599627370496 := by decide
  unfold Ieee.Format.order
  have e : FloatKind.f64.format.read r = .nan (r / 9223372036854775808 % 2 == 1) (r % 9223372036854775808 - 9218868437227405312) := by
    unfold Ieee.Format.read
    simp only [hw, hi, hb]
    rw [if_neg (by omega), if_neg (by omega), if_neg (by omega)]
  rw [e]
  rfl
theorem run_sub_yes {a : Nat} (h : fin a = true) (w : World) : Sem.run Tryz.prog (binOp .sub 30 (.float .f64 a) (.float .f64 a)) w = .ok (.float .f64 0) w :=
  run_float_arith w .sub 30 .f64 a a 0 (sub_self h)
theorem run_sub_no {a : Nat} (h : fin a = false) (w : World) : Sem.run Tryz.prog (binOp .sub 30 (.float .f64 a) (.float .f64 a)) w = .ok (.float .f64 (nanW a (w.tape w.drawn (.nanBits .f64 a a)))) w.drew := by
  have hs := sub_none h
  simp [binOp, Op.floatArith, hs, nanW, Question.forced]
theorem run_eq (a b : Nat) (w : World) : Sem.run Tryz.prog (binOp .eql 30 (.float .f64 a) (.float .f64 b)) w = .ok (.bool (FloatKind.f64.format.order a b == some .eq)) w := rfl
theorem run_eq_no (a t b : Nat) (w : World) : Sem.run Tryz.prog (binOp .eql 30 (.float .f64 (nanW a t)) (.float .f64 b)) w = .ok (.bool false) w := by
  rw [run_eq, order_nan (nan_rung a t)]
  rfl
theorem finite_yes (a b : Nat) (ha : fin a = true) (hb : fin b = true) (w : World) : Calls Tryz.prog 6 #[.complex .f64 a b] w fun e w' => e = .returned (.bool true) ∧ Below w.heap.size w w' := by
  have sa := run_sub_yes ha
  have sb := run_sub_yes hb
  have o0 : FloatKind.f64.format.order 0 0 = some .eq := order_self (by decide)
  clear ha hb
  go_enter Tryz.func6, Tryz.ntmps6
  go_wp2_with fail
  refine bodyPost_ret (v := .bool true) ?_ rfl ⟨rfl, Below.refl _ _⟩
  simp [results, Tryz.results6, go_sem]
theorem finite_no1 (a b : Nat) (ha : fin a = false) (w : World) : Calls Tryz.prog 6 #[.complex .f64 a b] w fun e w' => e = .returned (.bool false) ∧ Below w.heap.size w w' := by
  have sa := run_sub_no ha
  have o1 := fun t => order_nan (nan_rung a t)
  clear ha
  go_enter Tryz.func6, Tryz.ntmps6
  go_wp2_with fail
  refine bodyPost_ret (v := .bool false) ?_ rfl ⟨rfl, (Below.refl _ _).drew⟩
  simp [results, Tryz.results6, go_sem]
theorem finite_no2 (a b : Nat) (ha : fin a = true) (hb : fin b = false) (w : World) : Calls Tryz.prog 6 #[.complex .f64 a b] w fun e w' => e = .returned (.bool false) ∧ Below w.heap.size w w' := by
  have sa := run_sub_yes ha
  have sb := run_sub_no hb
  have o0 : FloatKind.f64.format.order 0 0 = some .eq := order_self (by decide)
  have o1 := fun t => order_nan (nan_rung b t)
  clear ha hb
  go_enter Tryz.func6, Tryz.ntmps6
  go_wp2_with fail
  refine bodyPost_ret (v := .bool false) ?_ rfl ⟨rfl, (Below.refl _ _).drew⟩
  simp [results, Tryz.results6, go_sem]
theorem finite_any (a b : Nat) (w : World) : Calls Tryz.prog 6 #[.complex .f64 a b] w fun e w' => e = .returned (.bool (fin a && fin b)) ∧ Below w.heap.size w w' := by
  cases ha : fin a with
  | false => exact finite_no1 a b ha w
  | true =>
    cases hb : fin b with
    | false => exact finite_no2 a b ha hb w
    | true => exact finite_yes a b ha hb w
end Go.Proofs.YtdglogdigiajbaaGreatDoor
