/-
  A run told in advance, part sixteen: regions whose order is drawn: what was told in the order of the text, told step by step. No condition.
-/
import Derived.Test.YtdglogdigiajbaaGreatDoorVxO
set_option linter.unusedSectionVars false
set_option linter.unusedSimpArgs false
set_option linter.unusedVariables false
namespace Go.Vx
open Go.RowKit

theorem mergeN_get {β : Type} : ∀ (k : Nat) (r H : Tr AO) (n : Nat) (f : Tr AO → β), n + k ≤ lim → ∃ H', mergeN k r H n f = f H' ∧ ∀ m, Tr.get H' m = if n ≤ m ∧ m < n + k then Tr.get r m else Tr.get H m
  | 0, r, H, n, f, _ => ⟨H, rfl, fun m => by rw [if_neg (by omega)]⟩
  | k + 1, r, H, n, f, hn => by
    have e : mergeN (k + 1) r H n f = Tr.setK 21 H n (Tr.get r n) fun H => mergeN k r H (Nat.succ n) f := rfl
    rw [e, Tr.setK_eq]
    obtain ⟨H', h1, h2⟩ := mergeN_get k r (Tr.set 21 H n (Tr.get r n)) (Nat.succ n) f (by omega)
    refine ⟨H', h1, fun m => ?_⟩
    rw [h2 m, Tr.get_set 21 H n m _ (by unfold lim at hn; omega)]
    by_cases c1 : n + 1 ≤ m ∧ m < n + 1 + k
    · rw [if_pos c1, if_pos (by omega)]
    · rw [if_neg c1]
      by_cases c2 : m = n
      · subst c2; rw [if_pos rfl, if_pos (by omega)]
      · rw [if_neg c2, if_neg (by omega)]

theorem mergeK_get {β : Type} (s r : St) (f : St → β) (h1 : s.nx ≤ r.nx) (h2 : r.nx ≤ lim) : ∃ q : St, mergeK s r f = f q ∧ q.nx = r.nx ∧ ∀ m, q.get m = if s.nx ≤ m ∧ m < r.nx then r.get m else s.get m := by
  obtain ⟨H', g1, g2⟩ := mergeN_get (Nat.sub r.nx s.nx) r.H s.H s.nx (fun H => natK r.nx fun n => f ⟨H, n⟩) (by have : Nat.sub r.nx s.nx = r.nx - s.nx := rfl; omega)
  refine ⟨⟨H', r.nx⟩, ?_, rfl, fun m => ?_⟩
  · unfold mergeK; rw [g1, natK_eq]
  · have : s.nx + Nat.sub r.nx s.nx = r.nx := by have : Nat.sub r.nx s.nx = r.nx - s.nx := rfl; omega
    show Tr.get H' m = _
    rw [g2 m, this]; rfl

theorem restrK_get {β : Type} : ∀ (l : List Nat) (S T : Tr AV) (f : Tr AV → β), (∀ t ∈ l, (∃ v, Tr.get S t = some v) → t < 1024) → ∃ T', restrK l S T f = f T' ∧ ∀ m, Tr.get T' m = if m ∈ l then (match Tr.get S m with | some v => some v | none => Tr.get T m) else Tr.get T m
  | [], S, T, f, _ => ⟨T, rfl, fun m => by simp⟩
  | t :: l, S, T, f, h => by
    have e : restrK (t :: l) S T f = Option.rec (motive := fun _ => β) (restrK l S T f) (fun v => Tr.setK 11 T t (some v) fun T => restrK l S T f) (Tr.get S t) := rfl
    have hl : ∀ t ∈ l, (∃ v, Tr.get S t = some v) → t < 1024 := fun t ht => h t (List.mem_cons_of_mem _ ht)
    cases hg : Tr.get S t with
    | none =>
      rw [hg] at e
      obtain ⟨T', g1, g2⟩ := restrK_get l S T f hl
      refine ⟨T', by rw [e]; exact g1, fun m => ?_⟩
      rw [g2 m]
      by_cases hm : m ∈ l
      · simp [hm]
      · by_cases e2 : m = t
        · subst e2; simp [hm, hg]
        · simp [hm, e2]
    | some v =>
      rw [hg] at e
      have e : restrK (t :: l) S T f = Tr.setK 11 T t (some v) fun T => restrK l S T f := e
      have ht := h t (by simp) ⟨v, hg⟩
      rw [Tr.setK_eq] at e
      obtain ⟨T', g1, g2⟩ := restrK_get l S (Tr.set 11 T t (some v)) f hl
      refine ⟨T', by rw [e]; exact g1, fun m => ?_⟩
      have hset := Tr.get_set 11 T t m (some v) (by omega)
      rw [g2 m, hset]
      by_cases e2 : m = t
      · subst e2
        by_cases hm : m ∈ l <;> simp [hm, hg]
      · by_cases hm : m ∈ l <;> simp [hm, e2]

/-- How one operation of a drawn region was told. -/
inductive Told (E : Env) (call : CallX) (lo n0 : Nat) (b i : Nat) (o : Op) (m : Met) (f : Fr) (s : St) (v : AV) (s' : St) (m' : Met) : Prop
  | free (r : St) (h : stepX o E call s.nx f ⟨.e, s.nx⟩ = some (v, r)) (hn : s.nx ≤ r.nx) (hl : r.nx ≤ lim) (hf : floatOk n0 b m.rm v s r = true) (hs : s'.nx = r.nx)
      (hg : ∀ k, s'.get k = if s.nx ≤ k ∧ k < r.nx then r.get k else s.get k) (hm : m' = ⟨mark m.rm i s r, m.tm, m.wm, m.rl, m.wl⟩)
  | read0 (r : St) (h : stepX o E call s.nx f ⟨.e, s.nx⟩ = some (v, r)) (hn : r.nx = s.nx) (hf : floatOk n0 b m.rm v s r = true) (hs : s' = s) (hm : m' = m)
  | read (c : Nat) (ob : AO) (r : St) (hc : s.get c = some ob) (h : stepX o E call s.nx f ⟨Tr.set 21 .e c (some ob), s.nx⟩ = some (v, r)) (hn : r.nx = s.nx) (hf : floatOk n0 b m.rm v s r = true)
      (hr : readOk b c m.wl = true) (hcl : c < lim) (hc0 : c < n0 ∨ (Nat.land m.rm b = m.rm ∧ c < s.nx)) (hs : s' = s) (hm : m' = ⟨m.rm, m.tm, m.wm, (i, c) :: m.rl, m.wl⟩)
  | tame (r : St) (hrm : Nat.land m.rm b = m.rm) (hwm : Nat.land m.wm b = m.wm) (h : stepX o E call s.nx f s = some (v, r)) (hn : s.nx ≤ r.nx) (hl : r.nx ≤ lim) (hs : s'.nx = r.nx)
      (hg : (∀ k, s'.get k = if s.nx ≤ k ∧ k < r.nx then r.get k else s.get k) ∨ (∀ k, s'.get k = s.get k)) (hm : m' = ⟨mark m.rm i s r, Nat.lor m.tm (Nat.shiftLeft 1 i), m.wm, m.rl, m.wl⟩)
  | wild (w : Option Nat) (hrm : Nat.land m.rm b = m.rm) (hwm : Nat.land m.wm b = m.wm) (htm : Nat.land m.tm b = m.tm) (hw : writeOk b w m.rl = true) (h : stepX o E call lo f s = some (v, s'))
      (hk : ∀ c, w = some c → ∃ x, kindX o = .touch (some x) ∧ blockOf (evX x f) = some c) (hn : s.nx ≤ s'.nx) (hl : s'.nx ≤ lim)
      (hm : m' = ⟨mark m.rm i s s', Nat.lor m.tm (Nat.shiftLeft 1 i), Nat.lor m.wm (Nat.shiftLeft 1 i), m.rl, (i, w) :: m.wl⟩)

theorem okNx_ok {s r : St} (h : okNx s r = true) : s.nx ≤ r.nx ∧ r.nx ≤ lim := by
  unfold okNx at h
  simp only [Bool.and_eq_true] at h
  exact ⟨Nat.le_of_ble_eq_true h.1, Nat.le_of_ble_eq_true h.2⟩

theorem drawO_told {E : Env} {call : CallX} {lo n0 b i : Nat} {o : Op} {m : Met} {f : Fr} {s : St} {k : DrawK} {r : Fr × St} (h : drawO (kindX o) o E call lo n0 b i m f s k = some r) :
    ∃ m' v s', k m' v s' = some r ∧ Told E call lo n0 b i o m f s v s' m' := by
  have wild : ∀ {w : Option Nat} (hk : ∀ c, w = some c → ∃ x, kindX o = .touch (some x) ∧ blockOf (evX x f) = some c), Nat.land m.rm b = m.rm → Nat.land m.wm b = m.wm →
      wildX (stepX o E call lo f s) w b i m s k = some r → ∃ m' v s', k m' v s' = some r ∧ Told E call lo n0 b i o m f s v s' m' := by
    intro w hk h1 h2 h
    unfold wildX at h
    split at h
    · simp at h
    · rename_i hc
      simp only [Bool.and_eq_true] at hc
      split at h
      · simp at h
      · rename_i v s' hs
        split at h
        · rename_i hn
          have := okNx_ok hn
          exact ⟨_, v, s', h, .wild w h1 h2 (Nat.eq_of_beq_eq_true hc.1) hc.2 hs hk this.1 this.2 rfl⟩
        · simp at h
  have touch : ∀ {w : Option Nat} (hk : ∀ c, w = some c → ∃ x, kindX o = .touch (some x) ∧ blockOf (evX x f) = some c), touchX o w E call lo b i m f s k = some r → ∃ m' v s', k m' v s' = some r ∧ Told E call lo n0 b i o m f s v s' m' := by
    intro w hk h
    unfold touchX at h
    split at h
    · simp at h
    · rename_i hc
      simp only [Bool.and_eq_true] at hc
      have h1 := Nat.eq_of_beq_eq_true hc.1
      have h2 := Nat.eq_of_beq_eq_true hc.2
      unfold tameX at h
      split at h
      · rename_i v q hs
        split at h
        · rename_i hn
          have hnx := okNx_ok hn
          split at h
          · obtain ⟨H, nx⟩ := s
            simp only [natK_eq] at h
            exact ⟨_, v, _, h, .tame q h1 h2 hs hnx.1 hnx.2 rfl (.inr fun k => rfl) rfl⟩
          · obtain ⟨q', g1, g2, g3⟩ := mergeK_get s q (fun q' => k ⟨mark m.rm i s q, Nat.lor m.tm (Nat.shiftLeft 1 i), m.wm, m.rl, m.wl⟩ v q') hnx.1 hnx.2
            rw [g1] at h
            exact ⟨_, v, q', h, .tame q h1 h2 hs hnx.1 hnx.2 g2 (.inl g3) rfl⟩
        · simp at h
      · exact wild hk h1 h2 h
  have free : ∀ {q : Option (AV × St)}, stepX o E call s.nx f ⟨.e, s.nx⟩ = q → freeX q n0 b i m s k = some r → ∃ m' v s', k m' v s' = some r ∧ Told E call lo n0 b i o m f s v s' m' := by
    intro q hq h
    unfold freeX at h
    split at h
    · rename_i v q'
      split at h
      · rename_i hc
        simp only [Bool.and_eq_true] at hc
        have hnx := okNx_ok hc.1
        obtain ⟨q2, g1, g2, g3⟩ := mergeK_get s q' (k ⟨mark m.rm i s q', m.tm, m.wm, m.rl, m.wl⟩ v) hnx.1 hnx.2
        have h : mergeK s q' (k ⟨mark m.rm i s q', m.tm, m.wm, m.rl, m.wl⟩ v) = some r := h
        exact ⟨_, v, q2, by rw [← g1]; exact h, .free q' hq hnx.1 hnx.2 hc.2 g2 g3 rfl⟩
      · simp at h
    · simp at h
  have read : ∀ {x : Operand}, readX o x E call n0 b i m f s k = some r → ∃ m' v s', k m' v s' = some r ∧ Told E call lo n0 b i o m f s v s' m' := by
    intro x h
    unfold readX at h
    split at h
    · unfold sameNx at h
      split at h
      · rename_i v q hs
        split at h
        · rename_i hc
          simp only [Bool.and_eq_true] at hc
          exact ⟨m, v, s, h, .read0 q hs (Nat.eq_of_beq_eq_true hc.1) hc.2 rfl rfl⟩
        · simp at h
      · simp at h
    · rename_i c hc
      split at h
      · simp at h
      · rename_i hck
        simp only [Bool.and_eq_true, Bool.or_eq_true] at hck
        obtain ⟨⟨k1, k2⟩, k3⟩ := hck
        unfold oneBlock at h
        split at h
        · rename_i ob hob
          obtain ⟨H, nx⟩ := s
          simp only [Tr.setK_eq] at h
          unfold sameNx at h
          split at h
          · rename_i v q hs
            split at h
            · rename_i hc2
              simp only [Bool.and_eq_true] at hc2
              refine ⟨_, v, _, h, .read c ob q hob hs (Nat.eq_of_beq_eq_true hc2.1) hc2.2 k1 (Nat.le_of_ble_eq_true k2) ?_ rfl rfl⟩
              rcases k3 with k3 | k3
              · exact .inl (Nat.le_of_ble_eq_true k3)
              · exact .inr ⟨Nat.eq_of_beq_eq_true k3.1, Nat.le_of_ble_eq_true k3.2⟩
            · simp at h
          · simp at h
        · simp at h
  unfold drawO at h
  split at h
  · exact free rfl h
  · rename_i x hx
    split at h
    · rename_i q hq
      exact free hq h
    · split at h
      · rename_i v q hq
        split at h
        · exact read h
        · exact touch (w := none) (fun c hc => by simp at hc) h
      · simp at h
  · rename_i x hx
    exact read h
  · rename_i x hx
    refine touch (fun c hc => ?_) h
    unfold touchW at hc
    split at hc
    · rename_i y
      exact ⟨y, by assumption, hc⟩
    · simp at hc

/-- The frame of what an operation reads. -/
structure Restr (all : List Oper) (o : Oper) (f g : Fr) : Prop where
  n : g.n = f.n
  G : g.G = f.G
  get : ∀ t, g.T.get t = if t ∈ readsOf all o then f.T.get t else none

/-- One step of a drawn region, in the order of the text. -/
structure StepD (E : Env) (call : CallX) (lo n0 : Nat) (all : List Oper) (i : Nat) (o : Oper) (b : Nat) (F : Fr) (S : St) (M : Met) (V : AV) (F' : Fr) (S' : St) (M' : Met) : Prop where
  put : putX o.dst V F some = some F'
  alt : ∃ g, Restr all o F g ∧ ((wantX g all o = false ∧ V = .tup [] ∧ S' = S ∧ M' = M) ∨ (wantX g all o = true ∧ Told E call lo n0 b i o.op M g S V S' M'))

theorem putX_some {β : Type} {d : Option Tmp} {v : AV} {f : Fr} {k : Fr → Option β} {r : β} (h : putX d v f k = some r) : ∃ f', putX d v f some = some f' ∧ k f' = some r := by
  unfold putX at *
  cases d with
  | none => exact ⟨f, rfl, h⟩
  | some d =>
    simp only at *
    split at h
    · obtain ⟨T, n, G⟩ := f
      simp only [Tr.setK_eq] at *
      exact ⟨_, rfl, h⟩
    · simp at h

def Traced (E : Env) (call : CallX) (lo n0 : Nat) (all : List Oper) (r : Fr × St) (l : List (Oper × Nat)) (i : Nat) (m : Met) (f : Fr) (s : St) : Prop :=
  ∃ (F : Nat → Fr) (S : Nat → St) (M : Nat → Met) (V : Nat → AV), F 0 = f ∧ S 0 = s ∧ M 0 = m ∧ F l.length = r.1 ∧ S l.length = r.2 ∧
    ∀ j o b, l[j]? = some (o, b) → StepD E call lo n0 all (i + j) o b (F j) (S j) (M j) (V j) (F (j + 1)) (S (j + 1)) (M (j + 1))

theorem drawN_trace {E : Env} {call : CallX} {lo n0 : Nat} {all : List Oper} {r : Fr × St} : ∀ (l : List (Oper × Nat)) (i : Nat) (m : Met) (f : Fr) (s : St), drawN l E call lo n0 all i m f s = some r → (∀ t, f.n ≤ t → f.T.get t = none) → f.n ≤ 1024 →
    Traced E call lo n0 all r l i m f s
  | [], i, m, f, s, h, _, _ => by
    obtain rfl := Option.some.inj (show some (f, s) = some r from h)
    exact ⟨fun _ => f, fun _ => s, fun _ => m, fun _ => .tup [], rfl, rfl, rfl, rfl, rfl, by simp⟩
  | (o, b) :: l, i, m, f, s, h, hout, hle => by
    have h : (restrK (readsOf all o) f.T .e fun T =>
      Bool.rec (motive := fun _ => Option (Fr × St)) (putX o.dst (.tup []) f fun f => drawN l E call lo n0 all (Nat.succ i) m f s)
        (drawO (kindX o.op) o.op E call lo n0 b i m ⟨T, f.n, f.G⟩ s fun m v s => avK v fun v => putX o.dst v f fun f => drawN l E call lo n0 all (Nat.succ i) m f s)
        (wantX ⟨T, f.n, f.G⟩ all o)) = some r := h
    obtain ⟨T, g1, g2⟩ := restrK_get (readsOf all o) f.T .e (fun T =>
      Bool.rec (motive := fun _ => Option (Fr × St)) (putX o.dst (.tup []) f fun f => drawN l E call lo n0 all (Nat.succ i) m f s)
        (drawO (kindX o.op) o.op E call lo n0 b i m ⟨T, f.n, f.G⟩ s fun m v s => avK v fun v => putX o.dst v f fun f => drawN l E call lo n0 all (Nat.succ i) m f s)
        (wantX ⟨T, f.n, f.G⟩ all o)) (fun t _ hv => by
          obtain ⟨v, hv⟩ := hv
          rcases Nat.lt_or_ge t f.n with h | h
          · omega
          · rw [hout t h] at hv; simp at hv)
    rw [g1] at h
    have hre : Restr all o f ⟨T, f.n, f.G⟩ := ⟨rfl, rfl, fun t => by
      show Tr.get T t = _
      rw [g2 t]
      split
      · cases Tr.get f.T t <;> rfl
      · rfl⟩
    have fin : ∀ (v : AV) (f1 : Fr) (s1 : St) (m1 : Met), putX o.dst v f some = some f1 → drawN l E call lo n0 all (Nat.succ i) m1 f1 s1 = some r →
        ((wantX ⟨T, f.n, f.G⟩ all o = false ∧ v = .tup [] ∧ s1 = s ∧ m1 = m) ∨ (wantX ⟨T, f.n, f.G⟩ all o = true ∧ Told E call lo n0 b i o.op m ⟨T, f.n, f.G⟩ s v s1 m1)) → Traced E call lo n0 all r ((o, b) :: l) i m f s := by
      intro v f1 s1 m1 hp hd ht
      have hf1 : (∀ t, f1.n ≤ t → f1.T.get t = none) ∧ f1.n = f.n := by
        unfold putX at hp
        split at hp
        · obtain rfl := Option.some.inj hp; exact ⟨hout, rfl⟩
        · rename_i d _
          split at hp
          · rename_i hdn
            have hdn : (d : Nat) < f.n := Nat.le_of_ble_eq_true hdn
            obtain ⟨T0, n, G⟩ := f
            simp only [Tr.setK_eq] at hp
            obtain rfl := Option.some.inj hp
            refine ⟨fun t ht => ?_, rfl⟩
            show (Tr.set 11 T0 d (some v)).get t = none
            have hd' : (d : Nat) + 1 ≤ 1024 := Nat.succ_le_of_lt (Nat.lt_of_lt_of_le hdn hle)
            rw [Tr.get_set 11 T0 d t (some v) (Nat.lt_of_le_of_lt hd' (by decide))]
            rw [if_neg (fun e => by subst e; exact Nat.lt_irrefl _ (Nat.lt_of_lt_of_le hdn ht))]
            exact hout t ht
          · simp at hp
      obtain ⟨F, S, M, V, h1, h2, h3, h4, h5, h6⟩ := drawN_trace l (Nat.succ i) m1 f1 s1 hd hf1.1 (by rw [hf1.2]; exact hle)
      refine ⟨fun j => if j = 0 then f else F (j - 1), fun j => if j = 0 then s else S (j - 1), fun j => if j = 0 then m else M (j - 1), fun j => if j = 0 then v else V (j - 1), rfl, rfl, rfl, h4, h5, ?_⟩
      intro j o' b' hj
      cases j with
      | zero =>
        obtain ⟨rfl, rfl⟩ := Prod.mk.inj (Option.some.inj hj)
        simp only [h1, h2, h3, Nat.add_zero, if_true, Nat.zero_add, Nat.one_ne_zero, if_false, Nat.sub_self]
        exact ⟨hp, ⟨T, f.n, f.G⟩, hre, ht⟩
      | succ j =>
        have := h6 j o' b' (by simpa using hj)
        have e : i + (j + 1) = Nat.succ i + j := by omega
        rw [e]
        simpa using this
    cases hw : wantX ⟨T, f.n, f.G⟩ all o with
    | false =>
      rw [hw] at h
      have h : putX o.dst (.tup []) f (fun f => drawN l E call lo n0 all (Nat.succ i) m f s) = some r := h
      obtain ⟨f1, k1, k2⟩ := putX_some h
      exact fin (.tup []) f1 s m k1 k2 (.inl ⟨hw, rfl, rfl, rfl⟩)
    | true =>
      rw [hw] at h
      have h : drawO (kindX o.op) o.op E call lo n0 b i m ⟨T, f.n, f.G⟩ s (fun m v s => avK v fun v => putX o.dst v f fun f => drawN l E call lo n0 all (Nat.succ i) m f s) = some r := h
      obtain ⟨m', v, s', k1, k2⟩ := drawO_told h
      rw [avK_eq] at k1
      obtain ⟨f1, k3, k4⟩ := putX_some k1
      exact fin v f1 s' m' k3 k4 (.inr ⟨hw, k2⟩)

end Go.Vx
