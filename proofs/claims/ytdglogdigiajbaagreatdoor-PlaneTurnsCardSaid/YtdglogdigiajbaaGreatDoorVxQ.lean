/-
  A run told in advance, part seventeen: what the plan of a drawn region says; what is kept on the way. No condition.
-/
import Derived.Test.YtdglogdigiajbaaGreatDoorVxP
set_option linter.unusedSectionVars false
set_option linter.unusedSimpArgs false
set_option linter.unusedVariables false
namespace Go.Vx
open Go.RowKit

theorem maskOf_ok {bs : List Nat} {i : Nat} : ∀ {es : List Edge} {m : Nat}, maskOf bs i es = some m →
    (∀ k, Nat.testBit m k = true → ∃ e ∈ es, Region.binds .any e = true ∧ e.on < i ∧ (k = e.on ∨ ∃ b, bs[e.on]? = some b ∧ Nat.testBit b k = true)) ∧
    (∀ e ∈ es, Region.binds .any e = true → e.on < i)
  | [], m, h => by
    obtain rfl := Option.some.inj (show some 0 = some m from h)
    exact ⟨fun k hk => by simp at hk, by simp⟩
  | e :: es, m, h => by
    unfold maskOf at h
    split at h
    · simp at h
    · rename_i m' hm'
      have ih := maskOf_ok hm'
      split at h
      · rename_i hb
        obtain rfl := Option.some.inj h
        refine ⟨fun k hk => ?_, fun e' he' hb' => ?_⟩
        · obtain ⟨e', h1, h2⟩ := ih.1 k hk
          exact ⟨e', List.mem_cons_of_mem _ h1, h2⟩
        · rcases List.mem_cons.1 he' with rfl | he'
          · rw [hb] at hb'; simp at hb'
          · exact ih.2 e' he' hb'
      · rename_i hb
        split at h
        · rename_i hlt
          have hlt := Nat.le_of_ble_eq_true hlt
          split at h
          · rename_i b hbs
            obtain rfl := Option.some.inj h
            refine ⟨fun k hk => ?_, fun e' he' hb' => ?_⟩
            · have hk : (m' ||| ((1 <<< e.on) ||| b)).testBit k = true := hk
              simp only [Nat.testBit_or, Bool.or_eq_true] at hk
              rcases hk with hk | hk | hk
              · obtain ⟨e', h1, h2⟩ := ih.1 k hk
                exact ⟨e', List.mem_cons_of_mem _ h1, h2⟩
              · refine ⟨e, by simp, hb, hlt, .inl ?_⟩
                rw [Nat.one_shiftLeft, Nat.testBit_two_pow] at hk
                simpa using (of_decide_eq_true hk).symm
              · exact ⟨e, by simp, hb, hlt, .inr ⟨b, hbs, hk⟩⟩
            · rcases List.mem_cons.1 he' with rfl | he'
              · exact hlt
              · exact ih.2 e' he' hb'
          · simp at h
        · simp at h

/-- What the plan says of each operation. -/
structure Before (all : List Oper) (bs : List Nat) : Prop where
  mask : ∀ (i : Nat) (o : Oper) (b : Nat), all[i]? = some o → bs[i]? = some b →
    (∀ k, Nat.testBit b k = true → ∃ e ∈ o.after.toList, Region.binds .any e = true ∧ e.on < i ∧ (k = e.on ∨ ∃ b', bs[e.on]? = some b' ∧ Nat.testBit b' k = true)) ∧
    (∀ e ∈ o.after.toList, Region.binds .any e = true → e.on < i)

theorem befores_ok (all : List Oper) : ∀ (l : List Oper) (i : Nat) (bs r : List Nat), befores l i bs = some r → bs.length = i → all.drop i = l →
    (∀ (j : Nat) (o : Oper) (b : Nat), j < i → all[j]? = some o → bs[j]? = some b →
      (∀ k, Nat.testBit b k = true → ∃ e ∈ o.after.toList, Region.binds .any e = true ∧ e.on < j ∧ (k = e.on ∨ ∃ b', bs[e.on]? = some b' ∧ Nat.testBit b' k = true)) ∧ (∀ e ∈ o.after.toList, Region.binds .any e = true → e.on < j)) →
    r.length = i + l.length ∧ (∀ j, j < i → r[j]? = bs[j]?) ∧ Before all r
  | [], i, bs, r, h, hl, hd, hp => by
    obtain rfl := Option.some.inj (show some bs = some r from h)
    have hall : all.length ≤ i := by
      have := congrArg List.length hd
      simp at this; omega
    refine ⟨by simp [hl], fun _ _ => rfl, ⟨fun j o b ho hb => hp j o b ?_ ho hb⟩⟩
    have := (List.getElem?_eq_some_iff.1 ho).1; omega
  | o :: l, i, bs, r, h, hl, hd, hp => by
    unfold befores at h
    split at h
    · rename_i m hm
      have ho : all[i]? = some o := by rw [← List.head?_drop, hd]; rfl
      have hd' : all.drop (i + 1) = l := by
        have := congrArg (List.drop 1) hd
        rw [List.drop_drop] at this; simpa using this
      have hmk := maskOf_ok hm
      have hget : ∀ j, j < i → (bs ++ [m])[j]? = bs[j]? := fun j hj => List.getElem?_append_left (by omega)
      have := befores_ok all l (Nat.succ i) (bs ++ [m]) r h (by simp [hl]) hd' (fun j o' b hj ho' hb => by
        by_cases e : j = i
        · subst e
          rw [ho] at ho'
          obtain rfl := Option.some.inj ho'
          rw [List.getElem?_append_right (by omega), hl, Nat.sub_self] at hb
          obtain rfl := Option.some.inj (show some m = some b from hb)
          refine ⟨fun k hk => ?_, hmk.2⟩
          obtain ⟨e, h1, h2, h3, h4⟩ := hmk.1 k hk
          exact ⟨e, h1, h2, h3, h4.imp id fun ⟨b', q1, q2⟩ => ⟨b', by rw [hget _ h3]; exact q1, q2⟩⟩
        · have hj' : j < i := by omega
          rw [hget j hj'] at hb
          have := hp j o' b hj' ho' hb
          refine ⟨fun k hk => ?_, this.2⟩
          obtain ⟨e, h1, h2, h3, h4⟩ := this.1 k hk
          exact ⟨e, h1, h2, h3, h4.imp id fun ⟨b', q1, q2⟩ => ⟨b', by rw [hget _ (by omega)]; exact q1, q2⟩⟩)
      refine ⟨by rw [this.1]; simp; omega, fun j hj => ?_, this.2.2⟩
      rw [this.2.1 j (by omega), hget j hj]
    · simp at h

theorem plan_ok {all : List Oper} {bs : List Nat} (h : plan all = some bs) : Before all bs ∧ bs.length = all.length ∧
    (∀ (i j : Nat) (x y : Oper) (b : Nat), i < j → all[i]? = some x → all[j]? = some y → bs[j]? = some b → meetX all x y = true → Nat.testBit b i = true) := by
  unfold plan at h
  split at h
  · rename_i r hr
    split at h
    · rename_i hc
      obtain rfl := Option.some.inj h
      simp only [Bool.and_eq_true] at hc
      have := befores_ok all all 0 [] r hr rfl rfl (by intro j o b hj; omega)
      refine ⟨this.2.2, Nat.eq_of_beq_eq_true hc.2, fun i j x y b hij hx hy hb hm => ?_⟩
      have hs := hc.1
      unfold slotsOk at hs
      have hj : j < all.length := (List.getElem?_eq_some_iff.1 hy).1
      have := List.all_eq_true.1 (List.all_eq_true.1 hs j (List.mem_range.2 hj)) i (List.mem_range.2 hij)
      simp only [hx, hy, hb, hm, Bool.not_true, Bool.false_or] at this
      exact this
    · simp at h
  · simp at h

/-- The slot that an operation writes. -/
def dstIs (o : Option Oper) (t : Nat) : Bool := match o with
  | some o => match o.dst with
    | some d => Nat.beq d t
    | none => false
  | none => false

/-- What a slot holds where the operations of D are done: the last one's value. -/
noncomputable def slotD (all : List Oper) (D : Nat → Bool) (V : Nat → AV) (f : Fr) (t : Nat) : Nat → AV
  | 0 => (f.T.get t).getD (.tup [])
  | i + 1 => match D i && dstIs all[i]? t with
    | true => V i
    | false => slotD all D V f t i

theorem slotD_congr {all : List Oper} {D D' : Nat → Bool} {V : Nat → AV} {f : Fr} {t : Nat} : ∀ {n : Nat}, (∀ i, i < n → dstIs all[i]? t = true → D i = D' i) → slotD all D V f t n = slotD all D' V f t n
  | 0, _ => rfl
  | n + 1, h => by
    have ih := slotD_congr (V := V) (f := f) (n := n) fun i hi => h i (by omega)
    unfold slotD
    cases hd : dstIs all[n]? t with
    | false => simp [ih]
    | true => rw [h n (by omega) hd, ih]

theorem slotD_cut {all : List Oper} {D : Nat → Bool} {V : Nat → AV} {f : Fr} {t i : Nat} : ∀ {n : Nat}, i ≤ n → (∀ j, i ≤ j → j < n → D j = true → dstIs all[j]? t = false) → slotD all D V f t n = slotD all D V f t i
  | 0, hi, _ => by have : i = 0 := by omega
                   subst this; rfl
  | n + 1, hi, h => by
    by_cases e : i = n + 1
    · subst e; rfl
    · have ih := slotD_cut (V := V) (f := f) (n := n) (by omega : i ≤ n) fun j h1 h2 h3 => h j h1 (by omega) h3
      rw [← ih]
      conv => lhs; unfold slotD
      cases hD : D n with
      | false => simp
      | true => rw [h n (by omega) (by omega) hD]; simp

theorem putX_get {d : Option Tmp} {v : AV} {F F' : Fr} (h : putX d v F some = some F') (hle : F.n ≤ 1024) : F'.n = F.n ∧ F'.G = F.G ∧ (∀ t, F'.T.get t = if d = some t then some v else F.T.get t) ∧ (∀ t, d = some t → t < F.n) := by
  unfold putX at h
  split at h
  · obtain rfl := Option.some.inj h
    exact ⟨rfl, rfl, fun t => by simp, by simp⟩
  · rename_i d
    split at h
    · rename_i hdn
      have hdn : (d : Nat) < F.n := Nat.le_of_ble_eq_true hdn
      obtain ⟨T0, n, G⟩ := F
      simp only [Tr.setK_eq] at h
      obtain rfl := Option.some.inj h
      refine ⟨rfl, rfl, fun t => ?_, fun t ht => by obtain rfl := Option.some.inj ht; exact hdn⟩
      show (Tr.set 11 T0 d (some v)).get t = _
      have hd' : (d : Nat) + 1 ≤ 1024 := Nat.succ_le_of_lt (Nat.lt_of_lt_of_le hdn hle)
      rw [Tr.get_set 11 T0 d t (some v) (Nat.lt_of_le_of_lt hd' (by decide))]
      by_cases e : t = d
      · subst e; simp
      · rw [if_neg e, if_neg (fun e' => e (Option.some.inj e').symm)]
    · simp at h

end Go.Vx
