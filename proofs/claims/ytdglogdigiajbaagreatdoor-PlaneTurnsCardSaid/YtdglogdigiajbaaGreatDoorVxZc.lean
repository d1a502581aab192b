/-
  A run told in advance, part twenty-eight: what the listed variables of a row give; tables of what has been told. No condition.
-/
import Derived.Test.YtdglogdigiajbaaGreatDoorVxZb
import Derived.LaidLaws
import Derived.FnData
set_option linter.unusedSectionVars false
set_option linter.unusedSimpArgs false
set_option linter.unusedVariables false
namespace Go.Vx
open Go.RowKit

theorem mapM_some {α β : Type} {f : α → Option β} : ∀ {l : List α} {ys : List β}, l.mapM f = some ys → ys.length = l.length ∧ ∀ (i : Nat) (a : α), l[i]? = some a → ∃ y, ys[i]? = some y ∧ f a = some y
  | [], ys, h => by
    simp only [List.mapM_nil, Option.pure_def, Option.some.injEq] at h
    subst h
    simp
  | a :: l, ys, h => by
    simp only [List.mapM_cons, Option.bind_eq_bind, Option.bind_eq_some_iff, Option.pure_def, Option.some.injEq] at h
    obtain ⟨y, hy, zs, hz, rfl⟩ := h
    obtain ⟨h1, h2⟩ := mapM_some hz
    refine ⟨by simp [h1], fun i b hb => ?_⟩
    cases i with
    | zero =>
      simp only [List.getElem?_cons_zero, Option.some.injEq] at hb
      subst hb
      exact ⟨y, by simp, hy⟩
    | succ i =>
      simp only [List.getElem?_cons_succ] at hb ⊢
      exact h2 i b hb

theorem int_of_trod {H : Type} {enc : TypeId × Value → H} {P : Program} {w : World} {base : Nat} {sp : Nat → Bool} {held : Bool} {fuel : Nat} {t : TypeId} {k : IntKind} {c : Value} {y : DataW H × List MemPlace}
    (ht : P.underlying t = some (.int k)) (h : DataW.trod enc P w base sp held fuel t [c] = some y) : ∃ n, c = .int k n ∧ y = (.lit (.int k n), []) := by
  cases fuel with
  | zero => simp [DataW.trod] at h
  | succ fuel =>
    cases c <;> simp [DataW.trod, ht] at h
    rename_i k' n
    obtain ⟨⟨rfl, _⟩, rfl⟩ := h
    exact ⟨n, rfl, rfl⟩

/-- An array of integers that is laid. -/
theorem ints_of_trod {H : Type} {enc : TypeId × Value → H} {P : Program} {w : World} {base : Nat} {sp : Nat → Bool} {held : Bool} {fuel n : Nat} {t e : TypeId} {k : IntKind} {cs : List Value} {xs : List Int} {p : List MemPlace}
    (ht : P.underlying t = some (.array n e)) (he : P.underlying e = some (.int k)) (hce : P.cellsOf e = 1) (hct : P.cellsOf t = n) (h : DataW.trod enc P w base sp held fuel t cs = some (.agg (xs.map fun x => .lit (.int k x)), p)) : cs = xs.map (Value.int k) := by
  cases fuel with
  | zero => simp [DataW.trod] at h
  | succ fuel =>
    simp only [DataW.trod, ht, hce, hct] at h
    split at h
    · rename_i hl
      simp only [Option.map_eq_some_iff, Prod.mk.injEq, DataW.agg.injEq] at h
      obtain ⟨ys, hy, h1, _⟩ := h
      obtain ⟨g1, g2⟩ := mapM_some hy
      have hlen : xs.length = n := by
        have := congrArg List.length h1
        simp only [List.length_map] at this
        rw [← this, g1, List.length_range]
      apply List.ext_getElem?
      intro i
      by_cases hi : i < n
      · obtain ⟨y, hy1, hy2⟩ := g2 i i (by simp [hi])
        have hic : i < cs.length := by omega
        have hix : i < xs.length := by omega
        have htk : (cs.drop (i * 1)).take 1 = [cs[i]] := by
          rw [Nat.mul_one, List.drop_eq_getElem_cons hic]
          rfl
        rw [htk] at hy2
        obtain ⟨m, hm1, rfl⟩ := int_of_trod he hy2
        have h2 : (ys.map (·.1))[i]? = (xs.map fun x => (DataW.lit (.int k x) : DataW H))[i]? := by rw [h1]
        simp only [List.getElem?_map, hy1, Option.map_some, List.getElem?_eq_getElem hix, Option.some.injEq, DataW.lit.injEq, Lit.int.injEq] at h2
        rw [List.getElem?_eq_getElem hic, hm1]
        simp [List.getElem?_eq_getElem hix, h2.2]
      · rw [List.getElem?_eq_none (by omega), List.getElem?_eq_none (by simp; omega)]
    · cases h

theorem heap_of_var {P : Program} {w : World} {n : String} {g : Nat} {cs : Array Value} (hg : P.globalNamed n = some g) (h : w.var? P n = some cs) : ∃ t fz, w.heap[g]? = some (.cells cs t fz) := by
  simp only [World.var?, hg, Option.bind_some] at h
  split at h
  · rename_i c t fz hc
    obtain rfl := Option.some.inj h
    exact ⟨t, fz, hc⟩
  · cases h

theorem laid_tab {R : Ren} {w : World} {t : Tab} {cs : Array Value} (h : ∃ e fz, w.heap[t.g]? = some (.cells cs e fz)) (hc : cs.toList = concL R t.l) : ∃ x, w.heap[t.g]? = some x ∧ ORel R t.o x := by
  obtain ⟨e, fz, h⟩ := h
  refine ⟨_, h, ?_⟩
  simp only [Tab.o, ORel]
  refine ⟨trivial, fun i v hv => ?_⟩
  rw [← Array.getElem?_toList, hc, concL_getElem?, hv]
  rfl

/-! ### Tables of what has been told -/

theorem allN {α : Type} {q : α → Prop} : ∀ p ∈ ([] : List α), q p := fun p hp => by simp at hp
theorem allC {α : Type} {q : α → Prop} {a : α} {l : List α} (h : q a) (hl : ∀ p ∈ l, q p) : ∀ p ∈ a :: l, q p := fun p hp => by
  rcases List.mem_cons.1 hp with rfl | hp
  · exact h
  · exact hl p hp

noncomputable def sumsOf (f : Nat) : List (Nat × (List AV → St → Option (AV × St))) → Option (List AV → St → Option (AV × St))
  | [] => none
  | x :: l => match Nat.beq f x.1 with
    | true => some x.2
    | false => sumsOf f l

/-- The environment in which of these functions only that is known. -/
noncomputable def withS (E : Env) (l : List (Nat × (List AV → St → Option (AV × St)))) : Env := sumE E (l.map fun x => x.1) (fun f => sumsOf f l)

theorem withS_ok {P : Program} {E : Env} (h : E.Ok P) {l : List (Nat × (List AV → St → Option (AV × St)))} (hl : ∀ x ∈ l, SumOk P E.G x.1 x.2) : (withS E l).Ok P :=
  sumE_ok h fun f p hp => by
    have gen : ∀ l : List (Nat × (List AV → St → Option (AV × St))), (∀ x ∈ l, SumOk P E.G x.1 x.2) → sumsOf f l = some p → SumOk P E.G f p := by
      intro l
      induction l with
      | nil => intro _ h; simp [sumsOf] at h
      | cons x l ih =>
        intro hl h
        unfold sumsOf at h
        split at h
        · rename_i e
          obtain rfl := Nat.eq_of_beq_eq_true e
          obtain rfl := Option.some.inj h
          exact hl x (by simp)
        · exact ih (fun y hy => hl y (List.mem_cons_of_mem _ hy)) h
    exact gen l hl hp

theorem bnd0 {v : AV} (h : avEq v v = true) : Bnd 0 v := (avEq_ok h).2
theorem bndL0 {l : List AV} (h : avEqL l l = true) : BndL 0 l := (avEqL_ok h).2

end Go.Vx
