/-
  The walk of PlaneTurns. Conditions: what the listed variables hold.
-/
import Derived.Test.YtdglogdigiajbaaGreatDoorPa
import Derived.Test.YtdglogdigiajbaaGreatDoorVj
import Derived.Lib.ItoaNum
set_option linter.unusedVariables false
namespace Go.Proofs.YtdglogdigiajbaaGreatDoor
open Go.RowKit Go.Vx

/-- What the listed variables give. -/
structure Glob (w : World) : Prop where
  pow : Lib.TabIs Tryz.prog w "internal/strconv.uint64pow10" .u64 Lib.pow10Tab
  g0 : ∃ te pe, w.cell? ⟨6, 0, none⟩ = some (.iface te pe)
theorem gPow : Tryz.prog.globalNamed "internal/strconv.uint64pow10" = some 3 := by kernel_rfl
theorem laid_cell {R : Vx.Ren} {w : World} {g e : Nat} {v : Value} {a : AV} (h : w.cell? ⟨g, 0, none⟩ = some v) (ha : conc R a = v) : ∃ x, w.heap[g]? = some x ∧ ORel R (.row [a] e .ro) x := by
  unfold World.cell? at h
  split at h
  · rename_i c t fz hc
    refine ⟨_, hc, ?_⟩
    simp only [ORel]
    refine ⟨trivial, fun i u hu => ?_⟩
    cases i with
    | zero =>
      simp only [List.getElem?_cons_zero, Option.some.injEq] at hu
      subst hu
      rw [ha]
      simpa using h
    | succ i => simp at hu
  · cases h
theorem laid_of_glob {w : World} (h : Glob w) : ∃ (l : List Value) (hl : ∀ v ∈ l, isCell v), Laid (renOf l hl) tabs w := by
  obtain ⟨hp, ⟨te, pe, e1⟩⟩ := h
  refine ⟨[.iface te pe], fun v hv => by simp at hv; subst hv; trivial, ?_⟩
  refine allC ?_ (allC (laid_cell e1 rfl) allN)
  exact laid_tab (t := ⟨3, _, 0⟩) (heap_of_var gPow hp) (by kernel_rfl)
theorem wakes_yes {w : World} (h : Glob w) : Calls Tryz.prog 4 #[] w fun e w' => e = .returned (.bool true) ∧ Below w.heap.size w w' := by
  obtain ⟨l, hl, hL⟩ := laid_of_glob h
  exact wakes_told (renOf l hl) w hL (fun _ _ => rfl)
theorem Glob.below {w w1 : World} (h : Glob w) (hb : Below w.heap.size w w1) : Glob w1 := by
  obtain ⟨hp, ⟨t1, p1, e1⟩⟩ := h
  exact ⟨Go.Joins.tab_stays gPow hp hb (Nat.le_refl _), ⟨t1, p1, (hb.cell (p := ⟨6, 0, none⟩) (World.block_lt_of_cell? _ _ e1)).trans e1⟩⟩
theorem run_cneq {a b : Nat} (ha : fin a = true) (hb : fin b = true) (w : World) : Sem.run Tryz.prog (binOp .neq 26 (.complex .f64 a b) (.complex .f64 a b)) w = .ok (.bool false) w := by
  have h1 := order_self ha
  have h2 := order_self hb
  simp [binOp, Op.complexOp, Op.Complex.cmp, Op.floatCmp, asBool, h1, h2]
theorem run_ceql {a b : Nat} (ha : fin a = true) (hb : fin b = true) (w : World) : Sem.run Tryz.prog (binOp .eql 26 (.complex .f64 a b) (.complex .f64 a b)) w = .ok (.bool true) w := by
  have h1 := order_self ha
  have h2 := order_self hb
  simp [binOp, Op.complexOp, Op.Complex.cmp, Op.floatCmp, asBool, h1, h2]
set_option maxHeartbeats 4000000 in
theorem turns_yes (x y : Int) (w : World) (hg : Glob w) : Calls Tryz.prog 3 #[.agg #[.int .u64 x, .int .u64 y]] w fun e w' => e = .returned (.bool true) ∧ Below w.heap.size w w' := by
  have HK := fun (w : World) (hg : Glob w) => wakes_yes hg
  have H5 := number_any x y
  generalize x.toNat = a at H5
  generalize y.toNat = b at H5
  have H6 := finite_any a b
  have B0 : Below w.heap.size w (w.alloc (.cells #[.int .u64 x, .int .u64 y] 24)) := (Below.refl _ _).alloc (Nat.le_refl _) _
  have hg0 := hg.below B0
  have T1 := Turned_any a b
  have T2 := Turned_any (flip b) a
  have M1 := Mirrored_any a b
  have T3 := Turned_any (flip a) (flip b)
  have T4 := Turned_any b (flip a)
  have M2 := Mirrored_any a (flip b)
  have M3 := Mirrored_any (flip b) a
  have T5 := Turned_any a (flip b)
  have T6 := Turned_any b a
  have T7 := Turned_any (flip a) b
  rw [flip_flip] at T3 T4 M2 T5
  have n1 := run_neg a
  have n2 := run_neg b
  go_enter Tryz.func3, Tryz.ntmps3
  go_wp2_with fail
  refine (HK _ hg0).mono ?_
  rintro e w1 ⟨rfl, hb⟩
  have c0 : w1.cell? ⟨w.heap.size, 0, none⟩ = some (.int .u64 x) := (hb.cell (p := ⟨w.heap.size, 0, none⟩) (by simp)).trans (by simp)
  have c1 : w1.cell? ⟨w.heap.size, 1, none⟩ = some (.int .u64 y) := (hb.cell (p := ⟨w.heap.size, 1, none⟩) (by simp)).trans (by simp)
  have B1 := B0.trans (hb.mono B0.size)
  clear B0 hb hg hg0 HK
  go_wp2_with fail
  refine (H5 _).mono ?_
  rintro e w2 ⟨rfl, hb⟩
  have B2 := B1.trans (hb.mono B1.size)
  clear B1 hb c0 c1 H5
  go_wp2_with fail
  refine (H6 _).mono ?_
  rintro e w3 ⟨rfl, hb⟩
  have B3 := B2.trans (hb.mono B2.size)
  clear B2 hb H6
  by_cases hq : (fin a && fin b) = true
  · rw [hq]
    simp only [Bool.and_eq_true] at hq
    obtain ⟨ha, hb⟩ := hq
    have ha' : fin (flip a) = true := by rw [fin_flip]; exact ha
    have hb' : fin (flip b) = true := by rw [fin_flip]; exact hb
    have e1 := run_cneq ha hb
    have e2 := run_cneq ha' hb'
    have e3 := run_ceql hb' ha'
    have o1 := order_self ha
    have o2 := order_self hb
    have o3 := order_self ha'
    have o4 := order_self hb'
    clear ha hb ha' hb'
    go_wp2_with fail
    refine (T1 _).mono ?_
    rintro e w4 ⟨rfl, rfl⟩
    go_wp2_with fail
    refine (T2 _).mono ?_
    rintro e w5 ⟨rfl, rfl⟩
    go_wp2_with fail
    refine (M1 _).mono ?_
    rintro e w6 ⟨rfl, rfl⟩
    go_wp2_with fail
    refine (T3 _).mono ?_
    rintro e w7 ⟨rfl, rfl⟩
    go_wp2_with fail
    refine (T4 _).mono ?_
    rintro e w8 ⟨rfl, rfl⟩
    go_wp2_with fail
    refine (M2 _).mono ?_
    rintro e w9 ⟨rfl, rfl⟩
    go_wp2_with fail
    refine (M3 _).mono ?_
    rintro e w10 ⟨rfl, rfl⟩
    go_wp2_with fail
    refine (T5 _).mono ?_
    rintro e w11 ⟨rfl, rfl⟩
    go_wp2_with fail
    refine (T6 _).mono ?_
    rintro e w12 ⟨rfl, rfl⟩
    go_wp2_with fail
    refine (T7 _).mono ?_
    rintro e w13 ⟨rfl, rfl⟩
    go_wp2_with fail
    refine bodyPost_ret (v := .bool true) ?_ rfl ⟨rfl, B3⟩
    simp [results, Tryz.results3, go_sem]
  · have hq := eq_false_of_ne_true hq
    rw [hq]
    clear T1 T2 T3 T4 T5 T6 T7 M1 M2 M3 n1 n2 hq
    go_wp2_with fail
    refine bodyPost_ret (v := .bool true) ?_ rfl ⟨rfl, B3⟩
    simp [results, Tryz.results3, go_sem]
theorem law_yes (x y : Int) (_ : (Lit.int .u64 x).wf = true) (_ : (Lit.int .u64 y).wf = true) (w : World) (hg : Glob w) : Calls Tryz.prog 3 #[.agg #[.int .u64 x, .int .u64 y]] w fun e w' => e = .returned (.bool true) ∧ Below w.heap.size w w' := turns_yes x y w hg
end Go.Proofs.YtdglogdigiajbaaGreatDoor
