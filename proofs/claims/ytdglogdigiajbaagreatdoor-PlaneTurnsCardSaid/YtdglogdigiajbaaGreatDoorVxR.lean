/-
  A run told in advance, part eighteen: drawn regions: what has been told in the order of the text, seen as a whole. No condition.
-/
import Derived.Test.YtdglogdigiajbaaGreatDoorVxQ
set_option linter.unusedSectionVars false
set_option linter.unusedSimpArgs false
set_option linter.unusedVariables false
namespace Go.Vx
open Go.RowKit

/-- The trace of a drawn region. -/
structure Cn (E : Env) (call : CallX) (lo n0 : Nat) (all : List Oper) (bs : List Nat) (F : Nat → Fr) (S : Nat → St) (M : Nat → Met) (V : Nat → AV) : Prop where
  step : ∀ i o b, all[i]? = some o → bs[i]? = some b → StepD E call lo n0 all i o b (F i) (S i) (M i) (V i) (F (i + 1)) (S (i + 1)) (M (i + 1))
  s0 : (S 0).nx = n0
  m0 : M 0 = ⟨0, 0, 0, [], []⟩
  f0 : (F 0).n ≤ 1024
  out : ∀ t, (F 0).n ≤ t → (F 0).T.get t = none
  bef : Before all bs
  len : bs.length = all.length
  slots : ∀ (i j : Nat) (x y : Oper) (b : Nat), i < j → all[i]? = some x → all[j]? = some y → bs[j]? = some b → meetX all x y = true → Nat.testBit b i = true
  lo_le : lo ≤ n0
  limit : n0 ≤ lim

section
variable {E : Env} {call : CallX} {lo n0 : Nat} {all : List Oper} {bs : List Nat} {F : Nat → Fr} {S : Nat → St} {M : Nat → Met} {V : Nat → AV}

/-- The operation i writes what was there. -/
def Wild (E : Env) (call : CallX) (lo : Nat) (all : List Oper) (bs : List Nat) (F : Nat → Fr) (S : Nat → St) (M : Nat → Met) (V : Nat → AV) (i : Nat) : Prop :=
  ∃ o b g w, all[i]? = some o ∧ bs[i]? = some b ∧ Restr all o (F i) g ∧ wantX g all o = true ∧ Nat.land (M i).rm b = (M i).rm ∧ Nat.land (M i).wm b = (M i).wm ∧ Nat.land (M i).tm b = (M i).tm ∧ writeOk b w (M i).rl = true ∧
    stepX o.op E call lo g (S i) = some (V i, S (i + 1)) ∧ (∀ c, w = some c → ∃ x, kindX o.op = .touch (some x) ∧ blockOf (evX x g) = some c) ∧ (S i).nx ≤ (S (i + 1)).nx ∧ (S (i + 1)).nx ≤ lim ∧
    M (i + 1) = ⟨mark (M i).rm i (S i) (S (i + 1)), Nat.lor (M i).tm (Nat.shiftLeft 1 i), Nat.lor (M i).wm (Nat.shiftLeft 1 i), (M i).rl, (i, w) :: (M i).wl⟩

theorem land_sub {m b k : Nat} (h : Nat.land m b = m) (hk : Nat.testBit m k = true) : Nat.testBit b k = true := by
  have : (m &&& b).testBit k = m.testBit k := by rw [show m &&& b = m from h]
  rw [Nat.testBit_and, hk] at this
  simpa using this

theorem lor_bit (m i : Nat) : Nat.testBit (Nat.lor m (Nat.shiftLeft 1 i)) i = true := by
  show (m ||| (1 <<< i)).testBit i = true
  rw [Nat.testBit_or, Nat.one_shiftLeft, Nat.testBit_two_pow]
  simp

theorem lor_keep {m k : Nat} (i : Nat) (h : Nat.testBit m k = true) : Nat.testBit (Nat.lor m (Nat.shiftLeft 1 i)) k = true := by
  show (m ||| (1 <<< i)).testBit k = true
  rw [Nat.testBit_or, h]; rfl

theorem mark_keep {m k i : Nat} {s r : St} (h : Nat.testBit m k = true) : Nat.testBit (mark m i s r) k = true := by
  unfold mark; split
  · exact h
  · exact lor_keep i h

theorem mark_bit {m i : Nat} {s r : St} (h : s.nx < r.nx) : Nat.testBit (mark m i s r) i = true := by
  unfold mark
  rw [show Nat.ble r.nx s.nx = false by rw [← Bool.not_eq_true, Nat.ble_eq]; omega]
  exact lor_bit m i

theorem mark_same {m i : Nat} {s r : St} (h : r.nx = s.nx) : mark m i s r = m := by
  unfold mark
  rw [show Nat.ble r.nx s.nx = true by rw [Nat.ble_eq]; omega]

variable (C : Cn E call lo n0 all bs F S M V)
include C

theorem Cn.at {i : Nat} (hi : i < all.length) : ∃ o b, all[i]? = some o ∧ bs[i]? = some b :=
  ⟨all[i], bs[i]'(by rw [C.len]; exact hi), List.getElem?_eq_getElem hi, List.getElem?_eq_getElem (by rw [C.len]; exact hi)⟩

/-- A step that is not wild. -/
theorem Cn.tame {i : Nat} (hi : i < all.length) (hw : ¬ Wild E call lo all bs F S M V i) : (S i).nx ≤ (S (i + 1)).nx ∧ ((S i).nx ≤ lim → (S (i + 1)).nx ≤ lim) ∧ (∀ k, ¬ ((S i).nx ≤ k ∧ k < (S (i + 1)).nx) → (S (i + 1)).get k = (S i).get k) ∧
    (∀ k, Nat.testBit (M i).rm k = true → Nat.testBit (M (i + 1)).rm k = true) ∧ (∀ k, Nat.testBit (M i).tm k = true → Nat.testBit (M (i + 1)).tm k = true) ∧ (∀ k, Nat.testBit (M i).wm k = true → Nat.testBit (M (i + 1)).wm k = true) ∧
    (∀ p, p ∈ (M i).rl → p ∈ (M (i + 1)).rl) ∧ (∀ p, p ∈ (M i).wl → p ∈ (M (i + 1)).wl) ∧ ((S i).nx < (S (i + 1)).nx → Nat.testBit (M (i + 1)).rm i = true) := by
  obtain ⟨o, b, ho, hb⟩ := C.at hi
  obtain ⟨hp, g, hg, halt⟩ := C.step i o b ho hb
  rcases halt with ⟨_, _, h1, h2⟩ | ⟨hwant, ht⟩
  · rw [h1, h2]
    exact ⟨Nat.le_refl _, id, fun _ _ => rfl, fun _ h => h, fun _ h => h, fun _ h => h, fun _ h => h, fun _ h => h, fun h => absurd h (Nat.lt_irrefl _)⟩
  · cases ht with
    | free r h hn hl hf hs hgk hm =>
      refine ⟨by omega, fun _ => by omega, fun k hk => ?_, ?_⟩
      · rw [hgk k, if_neg (by rw [← hs]; exact hk)]
      · rw [hm]
        exact ⟨fun k hk => mark_keep hk, fun _ h => h, fun _ h => h, fun _ h => h, fun _ h => h, fun hlt => mark_bit (by omega)⟩
    | read0 r h hn hf hs hm =>
      rw [hs, hm]
      exact ⟨Nat.le_refl _, id, fun _ _ => rfl, fun _ h => h, fun _ h => h, fun _ h => h, fun _ h => h, fun _ h => h, fun h => absurd h (Nat.lt_irrefl _)⟩
    | read c ob r hc h hn hf hr hcl hc0 hs hm =>
      rw [hs, hm]
      exact ⟨Nat.le_refl _, id, fun _ _ => rfl, fun _ h => h, fun _ h => h, fun _ h => h, fun _ h => List.mem_cons_of_mem _ h, fun _ h => h, fun h => absurd h (Nat.lt_irrefl _)⟩
    | tame r hrm hwm h hn hl hs hgk hm =>
      refine ⟨by omega, fun _ => by omega, fun k hk => ?_, ?_⟩
      · rcases hgk with hgk | hgk
        · rw [hgk k, if_neg (by rw [← hs]; exact hk)]
        · exact hgk k
      · rw [hm]
        exact ⟨fun k hk => mark_keep hk, fun k hk => lor_keep i hk, fun _ h => h, fun _ h => h, fun _ h => h, fun hlt => mark_bit (by omega)⟩
    | wild w hrm hwm htm hwo h hk hn hl hm => exact absurd ⟨o, b, g, w, ho, hb, hg, hwant, hrm, hwm, htm, hwo, h, hk, hn, hl, hm⟩ hw

theorem Cn.wildM {i : Nat} (hw : Wild E call lo all bs F S M V i) : (S i).nx ≤ (S (i + 1)).nx ∧ (S (i + 1)).nx ≤ lim ∧
    (∀ k, Nat.testBit (M i).rm k = true → Nat.testBit (M (i + 1)).rm k = true) ∧ (∀ k, Nat.testBit (M i).tm k = true → Nat.testBit (M (i + 1)).tm k = true) ∧ (∀ k, Nat.testBit (M i).wm k = true → Nat.testBit (M (i + 1)).wm k = true) ∧
    (∀ p, p ∈ (M i).rl → p ∈ (M (i + 1)).rl) ∧ (∀ p, p ∈ (M i).wl → p ∈ (M (i + 1)).wl) ∧ ((S i).nx < (S (i + 1)).nx → Nat.testBit (M (i + 1)).rm i = true) ∧ Nat.testBit (M (i + 1)).tm i = true ∧ Nat.testBit (M (i + 1)).wm i = true := by
  obtain ⟨o, b, g, w, ho, hb, hg, hwant, hrm, hwm, htm, hwo, h, hk, hn, hl, hm⟩ := hw
  rw [hm]
  exact ⟨hn, hl, fun k hk => mark_keep hk, fun k hk => lor_keep i hk, fun k hk => lor_keep i hk, fun _ h => h, fun _ h => List.mem_cons_of_mem _ h, fun hlt => mark_bit hlt, lor_bit _ _, lor_bit _ _⟩

/-- What grows from step to step. -/
theorem Cn.up {i : Nat} (hi : i < all.length) : (S i).nx ≤ (S (i + 1)).nx ∧ ((S i).nx ≤ lim → (S (i + 1)).nx ≤ lim) ∧ (∀ k, Nat.testBit (M i).rm k = true → Nat.testBit (M (i + 1)).rm k = true) ∧ (∀ k, Nat.testBit (M i).tm k = true → Nat.testBit (M (i + 1)).tm k = true) ∧
    (∀ k, Nat.testBit (M i).wm k = true → Nat.testBit (M (i + 1)).wm k = true) ∧ (∀ p, p ∈ (M i).rl → p ∈ (M (i + 1)).rl) ∧ (∀ p, p ∈ (M i).wl → p ∈ (M (i + 1)).wl) ∧ ((S i).nx < (S (i + 1)).nx → Nat.testBit (M (i + 1)).rm i = true) := by
  by_cases hw : Wild E call lo all bs F S M V i
  · have := C.wildM hw
    exact ⟨this.1, fun _ => this.2.1, this.2.2.1, this.2.2.2.1, this.2.2.2.2.1, this.2.2.2.2.2.1, this.2.2.2.2.2.2.1, this.2.2.2.2.2.2.2.1⟩
  · have := C.tame hi hw
    exact ⟨this.1, this.2.1, this.2.2.2.1, this.2.2.2.2.1, this.2.2.2.2.2.1, this.2.2.2.2.2.2.1, this.2.2.2.2.2.2.2.1, this.2.2.2.2.2.2.2.2⟩

theorem Cn.mono {i : Nat} : ∀ {j : Nat}, i ≤ j → j ≤ all.length → (S i).nx ≤ (S j).nx ∧ (∀ k, Nat.testBit (M i).rm k = true → Nat.testBit (M j).rm k = true) ∧ (∀ k, Nat.testBit (M i).tm k = true → Nat.testBit (M j).tm k = true) ∧
    (∀ k, Nat.testBit (M i).wm k = true → Nat.testBit (M j).wm k = true) ∧ (∀ p, p ∈ (M i).rl → p ∈ (M j).rl) ∧ (∀ p, p ∈ (M i).wl → p ∈ (M j).wl)
  | 0, hi, _ => by
    have : i = 0 := by omega
    subst this
    exact ⟨Nat.le_refl _, fun _ h => h, fun _ h => h, fun _ h => h, fun _ h => h, fun _ h => h⟩
  | j + 1, hi, hj => by
    by_cases e : i = j + 1
    · subst e
      exact ⟨Nat.le_refl _, fun _ h => h, fun _ h => h, fun _ h => h, fun _ h => h, fun _ h => h⟩
    · have ih := Cn.mono (i := i) (j := j) (by omega) (by omega)
      have u := C.up (i := j) (by omega)
      exact ⟨Nat.le_trans ih.1 u.1, fun k h => u.2.2.1 k (ih.2.1 k h), fun k h => u.2.2.2.1 k (ih.2.2.1 k h), fun k h => u.2.2.2.2.1 k (ih.2.2.2.1 k h), fun p h => u.2.2.2.2.2.1 p (ih.2.2.2.2.1 p h), fun p h => u.2.2.2.2.2.2.1 p (ih.2.2.2.2.2 p h)⟩

theorem Cn.nx_lim : ∀ {j : Nat}, j ≤ all.length → (S j).nx ≤ lim
  | 0, _ => by rw [C.s0]; exact C.limit
  | j + 1, hj => (C.up (i := j) (by omega)).2.1 (Cn.nx_lim (by omega))

theorem Cn.nx_n0 {j : Nat} (hj : j ≤ all.length) : n0 ≤ (S j).nx := by
  have := (C.mono (Nat.zero_le j) hj).1
  rw [C.s0] at this; exact this

/-- An operation that has made names is marked. -/
theorem Cn.marked {t i : Nat} (ht : t < i) (hi : i ≤ all.length) (hlt : (S t).nx < (S (t + 1)).nx) : Nat.testBit (M i).rm t = true :=
  (C.mono (i := t + 1) ht hi).2.1 t ((C.up (by omega)).2.2.2.2.2.2.2 hlt)

theorem Cn.wilded {t i : Nat} (ht : t < i) (hi : i ≤ all.length) (hw : Wild E call lo all bs F S M V t) : Nat.testBit (M i).wm t = true ∧ Nat.testBit (M i).tm t = true :=
  ⟨(C.mono (i := t + 1) ht hi).2.2.2.1 t (C.wildM hw).2.2.2.2.2.2.2.2.2, (C.mono (i := t + 1) ht hi).2.2.1 t (C.wildM hw).2.2.2.2.2.2.2.2.1⟩

/-- The slots in the order of the text. -/
theorem Cn.frames : ∀ {i : Nat}, i ≤ all.length → (F i).n = (F 0).n ∧ (F i).G = (F 0).G ∧ (∀ t, (F 0).n ≤ t → (F i).T.get t = none) ∧ (∀ t, ((F i).T.get t).getD (.tup []) = slotD all (fun _ => true) V (F 0) t i)
  | 0, _ => ⟨rfl, rfl, C.out, fun _ => rfl⟩
  | i + 1, hi => by
    obtain ⟨h1, h2, h3, h4⟩ := Cn.frames (i := i) (by omega)
    obtain ⟨o, b, ho, hb⟩ := C.at (i := i) (by omega)
    obtain ⟨hp, _⟩ := C.step i o b ho hb
    obtain ⟨p1, p2, p3, p4⟩ := putX_get hp (by rw [h1]; exact C.f0)
    refine ⟨p1.trans h1, p2.trans h2, fun t ht => ?_, fun t => ?_⟩
    · rw [p3 t]
      split
      · rename_i hd
        have := p4 t hd
        rw [h1] at this
        exact absurd (Nat.lt_of_lt_of_le this ht) (Nat.lt_irrefl _)
      · exact h3 t ht
    · rw [p3 t]
      unfold slotD
      have hd : dstIs all[i]? t = decide (o.dst = some t) := by
        rw [ho]
        unfold dstIs
        cases hdst : o.dst with
        | none => simp [hdst]
        | some d =>
          simp only [hdst, Option.some.injEq]
          rw [Bool.eq_iff_iff, Nat.beq_eq, decide_eq_true_eq]
      rw [hd]
      by_cases e : o.dst = some t
      · simp [e]
      · simp [e, h4 t]

/-- Nothing wild between: what the heap is. -/
theorem Cn.chain {κ : Nat} (hbd : ∀ n o, (S κ).get n = some o → n < (S κ).nx) : ∀ {i : Nat}, κ ≤ i → i ≤ all.length → (∀ t, κ ≤ t → t < i → ¬ Wild E call lo all bs F S M V t) →
    (∀ n, n < (S κ).nx → (S i).get n = (S κ).get n) ∧ (∀ n o, (S i).get n = some o → n < (S i).nx) ∧
    (∀ n o, (S i).get n = some o → (S κ).nx ≤ n → ∃ j, κ ≤ j ∧ j < i ∧ (S j).nx ≤ n ∧ n < (S (j + 1)).nx ∧ (S (j + 1)).get n = some o ∧ ¬ ∀ k, (S (j + 1)).get k = (S j).get k)
  | 0, h1, _, _ => by
    have : κ = 0 := by omega
    subst this
    exact ⟨fun _ _ => rfl, hbd, fun n o h h' => absurd (hbd n o h) (by omega)⟩
  | i + 1, h1, h2, hnw => by
    by_cases e : κ = i + 1
    · subst e
      exact ⟨fun _ _ => rfl, hbd, fun n o h h' => absurd (hbd n o h) (by omega)⟩
    · obtain ⟨c1, c2, c3⟩ := Cn.chain hbd (i := i) (by omega) (by omega) fun t h1 h2 => hnw t h1 (by omega)
      have ht := C.tame (i := i) (by omega) (hnw i (by omega) (by omega))
      have hmono := (C.mono (i := κ) (j := i) (by omega) (by omega)).1
      refine ⟨fun n hn => ?_, fun n o hn => ?_, fun n o hn hk => ?_⟩
      · rw [ht.2.2.1 n (by omega)]
        exact c1 n hn
      · by_cases hr : (S i).nx ≤ n ∧ n < (S (i + 1)).nx
        · exact hr.2
        · rw [ht.2.2.1 n hr] at hn
          have := c2 n o hn
          have := ht.1
          omega
      · by_cases hr : (S i).nx ≤ n ∧ n < (S (i + 1)).nx
        · by_cases hs : ∀ k, (S (i + 1)).get k = (S i).get k
          · rw [hs n] at hn
            have := c2 n o hn
            omega
          · exact ⟨i, by omega, by omega, hr.1, hr.2, hn, hs⟩
        · rw [ht.2.2.1 n hr] at hn
          obtain ⟨j, j1, j2, j3⟩ := c3 n o hn hk
          exact ⟨j, j1, by omega, j3⟩

end
end Go.Vx
