/-
  A civil as an argument, opened to its eight numbers and shut again. No condition.
-/
import Derived.Test.YtafoodfbjebdcaaRows
import Derived.WalkKit
import Derived.ProofKit
import Derived.OpenShut
import Derived.Lib.SmallJoins
namespace Go.Proofs.Ytafoodfbjebdcaa
open Go.ChangeShapes Go.WideShapes Go.ChangeAt Go.RowKit Go.Joins
theorem c24 : Try.prog.cellsOf 24 = 8 := by kernel_rfl
theorem c3 : Try.prog.cellsOf 3 = 1 := by kernel_rfl
theorem shut_civil {H : Type} {enc : TypeId × Value → H} {W : World} {b : Nat} {sp : Nat → Bool} {hd : Bool} (y mo d h mi s wd yd : Int) (w0 : (Lit.int .i64 y).wf = true) (w1 : (Lit.int .i64 mo).wf = true) (w2 : (Lit.int .i64 d).wf = true) (w3 : (Lit.int .i64 h).wf = true) (w4 : (Lit.int .i64 mi).wf = true) (w5 : (Lit.int .i64 s).wf = true) (w6 : (Lit.int .i64 wd).wf = true) (w7 : (Lit.int .i64 yd).wf = true) :
    DataW.Trod enc Try.prog W b sp hd 24 (.agg #[.int .i64 y, .int .i64 mo, .int .i64 d, .int .i64 h, .int .i64 mi, .int .i64 s, .int .i64 wd, .int .i64 yd]) (.agg [.lit (.int .i64 y), .lit (.int .i64 mo), .lit (.int .i64 d), .lit (.int .i64 h), .lit (.int .i64 mi), .lit (.int .i64 s), .lit (.int .i64 wd), .lit (.int .i64 yd)]) [] := by
  refine ⟨3, ?_⟩
  simp [DataW.trod, Try.underlying24, Try.underlying3, c3, c24, w0, w1, w2, w3, w4, w5, w6, w7, Value.cells]
theorem open_civil {H : Type} {enc : TypeId × Value → H} {W : World} {b : Nat} {sp : Nat → Bool} {hd : Bool} {r : Reach} {b0 : Nat} {v : Value} {x : DataW H} {p : List MemPlace} (hv : Value.okWide Try.prog W r b0 24 v) (ht : DataW.Trod enc Try.prog W b sp hd 24 v x p) :
    ∃ y mo d h mi s wd yd : Int, v = .agg #[.int .i64 y, .int .i64 mo, .int .i64 d, .int .i64 h, .int .i64 mi, .int .i64 s, .int .i64 wd, .int .i64 yd] ∧ x = .agg [.lit (.int .i64 y), .lit (.int .i64 mo), .lit (.int .i64 d), .lit (.int .i64 h), .lit (.int .i64 mi), .lit (.int .i64 s), .lit (.int .i64 wd), .lit (.int .i64 yd)] ∧ p = [] ∧ (Lit.int .i64 y).wf = true ∧ (Lit.int .i64 mo).wf = true ∧ (Lit.int .i64 d).wf = true ∧ (Lit.int .i64 h).wf = true ∧ (Lit.int .i64 mi).wf = true ∧ (Lit.int .i64 s).wf = true ∧ (Lit.int .i64 wd).wf = true ∧ (Lit.int .i64 yd).wf = true := by
  obtain ⟨cs, rfl, hsz⟩ := okWide_struct Try.underlying24 hv
  obtain ⟨l⟩ := cs
  match l, hsz.trans c24 with
  | [x0, x1, x2, x3, x4, x5, x6, x7], _ =>
    obtain ⟨fuel, hf⟩ := ht
    obtain ⟨xs, n, _, hx, _, hlen, hg⟩ := DataW.trod_struct Try.underlying24 hf
    match xs, hlen with
    | [z0, z1, z2, z3, z4, z5, z6, z7], _ =>
      have g0 : DataW.trod enc Try.prog W b sp hd n 3 [x0] = some z0 := by simpa [Value.cells, c3] using hg 0 _ rfl
      obtain ⟨y, e0, rfl, w0⟩ := DataW.trod_int Try.underlying3 g0
      obtain rfl : x0 = .int .i64 y := by simpa using e0
      have g1 : DataW.trod enc Try.prog W b sp hd n 3 [x1] = some z1 := by simpa [Value.cells, c3] using hg 1 _ rfl
      obtain ⟨mo, e1, rfl, w1⟩ := DataW.trod_int Try.underlying3 g1
      obtain rfl : x1 = .int .i64 mo := by simpa using e1
      have g2 : DataW.trod enc Try.prog W b sp hd n 3 [x2] = some z2 := by simpa [Value.cells, c3] using hg 2 _ rfl
      obtain ⟨d, e2, rfl, w2⟩ := DataW.trod_int Try.underlying3 g2
      obtain rfl : x2 = .int .i64 d := by simpa using e2
      have g3 : DataW.trod enc Try.prog W b sp hd n 3 [x3] = some z3 := by simpa [Value.cells, c3] using hg 3 _ rfl
      obtain ⟨h, e3, rfl, w3⟩ := DataW.trod_int Try.underlying3 g3
      obtain rfl : x3 = .int .i64 h := by simpa using e3
      have g4 : DataW.trod enc Try.prog W b sp hd n 3 [x4] = some z4 := by simpa [Value.cells, c3] using hg 4 _ rfl
      obtain ⟨mi, e4, rfl, w4⟩ := DataW.trod_int Try.underlying3 g4
      obtain rfl : x4 = .int .i64 mi := by simpa using e4
      have g5 : DataW.trod enc Try.prog W b sp hd n 3 [x5] = some z5 := by simpa [Value.cells, c3] using hg 5 _ rfl
      obtain ⟨s, e5, rfl, w5⟩ := DataW.trod_int Try.underlying3 g5
      obtain rfl : x5 = .int .i64 s := by simpa using e5
      have g6 : DataW.trod enc Try.prog W b sp hd n 3 [x6] = some z6 := by simpa [Value.cells, c3] using hg 6 _ rfl
      obtain ⟨wd, e6, rfl, w6⟩ := DataW.trod_int Try.underlying3 g6
      obtain rfl : x6 = .int .i64 wd := by simpa using e6
      have g7 : DataW.trod enc Try.prog W b sp hd n 3 [x7] = some z7 := by simpa [Value.cells, c3] using hg 7 _ rfl
      obtain ⟨yd, e7, rfl, w7⟩ := DataW.trod_int Try.underlying3 g7
      obtain rfl : x7 = .int .i64 yd := by simpa using e7
      simp only [Prod.mk.injEq] at hx
      exact ⟨y, mo, d, h, mi, s, wd, yd, rfl, by simpa using hx.1, by simpa using hx.2, w0, w1, w2, w3, w4, w5, w6, w7⟩
end Go.Proofs.Ytafoodfbjebdcaa
