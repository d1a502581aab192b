/-
  A run told in advance, part twenty-three: the code and the calls. No condition.
-/
import Derived.Test.YtdglogdigiajbaaGreatDoorVxV
import Derived.LoopN
import Derived.Scope
set_option linter.unusedSectionVars false
set_option linter.unusedSimpArgs false
set_option linter.unusedVariables false
namespace Go.Vx
open Go.RowKit

def exOf : Ex → Exit
  | .normal => .normal
  | .exit id => .exit id
  | .ret => .ret
  | .goto l => .goto l

/-- What a piece of code comes to. -/
def Ends (E : Env) (lo : Nat) (R : Ren) (s : St) (w : World) (ds : List Deferred) (e : Ex) (f' : Fr) (s' : St) : Exit → Act → World → Prop := fun e' a' w' =>
  e' = exOf e ∧ ∃ R', Rel R' s' w' ∧ Mv lo R s w R' s' w' ∧ FrOk R' s'.nx f' a' ∧ f'.G = E.G ∧ a'.defers = ds

theorem Ends.trans {E : Env} {lo : Nat} {R R1 : Ren} {s s1 : St} {w w1 : World} {ds ds1 : List Deferred} {e : Ex} {f' : Fr} {s' : St} {e' : Exit} {a' : Act} {w' : World} (hm : Mv lo R s w R1 s1 w1) (hds : ds1 = ds)
    (h : Ends E lo R1 s1 w1 ds1 e f' s' e' a' w') : Ends E lo R s w ds e f' s' e' a' w' := by
  obtain ⟨h1, R', h2, h3, h4, h5, h6⟩ := h
  exact ⟨h1, R', h2, hm.trans h3, h4, h5, h6.trans hds⟩

def CodeOk (P : Program) (E : Env) (call : CallX) (lo lf n : Nat) (c : Code) : Prop :=
  ∀ f s a w R e f' s', codeN n c E call lo lf f s = some (e, f', s') → Rel R s w → FrOk R s.nx f a → f.G = E.G → lo ≤ s.nx → c.wp P (Ends E lo R s w a.defers e f' s') a w

section
variable {E : Env} {P : Program} (hE : E.Ok P) {call : CallX} (hcall : CallOk P E call)

theorem rounds_ok {lo lf q : Nat} {c : Code} (hc : CodeOk P E call lo lf q c) {e : Ex} {f' : Fr} {s' : St} : ∀ (n : Nat) (f : Fr) (s : St) (a : Act) (w : World) (R : Ren), loopN n (codeN q c E call lo lf) f s = some (e, f', s') → Rel R s w → FrOk R s.nx f a → f.G = E.G → lo ≤ s.nx →
    Code.rounds P c (Ends E lo R s w a.defers e f' s') n a w
  | 0, f, s, a, w, R, h, _, _, _, _ => by
    have h : (none : Out) = some (e, f', s') := h
    simp at h
  | n + 1, f, s, a, w, R, h, hR, hF, hG, hlo => by
    rw [rounds_succ]
    have h : seqX (codeN q c E call lo lf f s) (loopN n (codeN q c E call lo lf)) = some (e, f', s') := h
    cases hr : codeN q c E call lo lf f s with
    | none => rw [hr] at h; simp [seqX] at h
    | some r =>
      obtain ⟨e2, f2, s2⟩ := r
      rw [hr] at h
      refine wp_mono (hc f s a w R e2 f2 s2 hr hR hF hG hlo) fun e3 a3 w3 h3 => ?_
      obtain ⟨rfl, R3, g2, g3, g4, g5, g6⟩ := h3
      cases e2 with
      | normal =>
        have h : loopN n (codeN q c E call lo lf) f2 s2 = some (e, f', s') := h
        have := rounds_ok hc n f2 s2 a3 w3 R3 h g2 g4 g5 (Nat.le_trans hlo g3.nx)
        have gen : ∀ m a4 w4, Code.rounds P c (Ends E lo R3 s2 w3 a3.defers e f' s') m a4 w4 → Code.rounds P c (Ends E lo R s w a.defers e f' s') m a4 w4 := by
          intro m
          induction m with
          | zero => intro a4 w4 h; exact h
          | succ m ih =>
            intro a4 w4 h
            rw [rounds_succ] at h ⊢
            refine wp_mono h fun e5 a5 w5 h5 => ?_
            cases e5 <;> first
              | exact ih _ _ h5
              | exact Ends.trans g3 g6 h5
        exact gen n a3 w3 this
      | exit id =>
        obtain ⟨rfl, h2⟩ := Prod.mk.inj (Option.some.inj (show some (Ex.exit id, f2, s2) = some (e, f', s') from h))
        obtain ⟨rfl, rfl⟩ := Prod.mk.inj h2
        exact ⟨rfl, R3, g2, g3, g4, g5, g6⟩
      | goto l =>
        obtain ⟨rfl, h2⟩ := Prod.mk.inj (Option.some.inj (show some (Ex.goto l, f2, s2) = some (e, f', s') from h))
        obtain ⟨rfl, rfl⟩ := Prod.mk.inj h2
        exact ⟨rfl, R3, g2, g3, g4, g5, g6⟩
      | ret =>
        obtain ⟨rfl, h2⟩ := Prod.mk.inj (Option.some.inj (show some (Ex.ret, f2, s2) = some (e, f', s') from h))
        obtain ⟨rfl, rfl⟩ := Prod.mk.inj h2
        exact ⟨rfl, R3, g2, g3, g4, g5, g6⟩

/-- A piece of code that stands in a scope. -/
def InScope (P : Program) (c x : Code) (Q : Exit → Act → World → Prop) (a : Act) (w : World) : Prop := ∀ (b : Frame) (k : List Item) (cs : List Frame), ∃ e a' w', Q e a' w' ∧ Arrives P (lone (b.at a (.code x :: .inScope c :: k)) cs w) b k cs e a' w'

def jumpQ (P : Program) (c : Code) (Q : Exit → Act → World → Prop) : Exit → Act → World → Prop
  | .goto l, a, w => match findLabel c l with
    | some rest => InScope P c rest Q a w
    | none => Q (.goto l) a w
  | e, a, w => Q e a w

theorem inScope_of {c x : Code} {Q : Exit → Act → World → Prop} {a : Act} {w : World} (h : x.wp P (jumpQ P c Q) a w) : InScope P c x Q a w := by
  intro b k cs
  obtain ⟨e, a1, w1, hq, harr⟩ := h b (.inScope c :: k) cs
  cases e with
  | normal => exact ⟨.normal, a1, w1, hq, Steps.trans harr (.one step_inScope)⟩
  | exit id => exact ⟨.exit id, a1, w1, hq, fun k' hk => harr k' (by simp [exitTo, hk])⟩
  | goto l =>
    have hq : (match findLabel c l with | some rest => InScope P c rest Q a1 w1 | none => Q (.goto l) a1 w1) := hq
    cases hf : findLabel c l with
    | some rest =>
      rw [hf] at hq
      obtain ⟨e2, a2, w2, hq2, harr2⟩ := hq b k cs
      exact ⟨e2, a2, w2, hq2, .of_steps (harr _ (by simp [gotoIn, hf])) harr2⟩
    | none =>
      rw [hf] at hq
      exact ⟨.goto l, a1, w1, hq, fun k' hk => harr k' (by simp [gotoIn, hf, hk])⟩
  | ret => exact ⟨_, a1, w1, hq, harr⟩
  | panic ch => exact ⟨_, a1, w1, hq, harr⟩
  | outgrown => exact ⟨_, a1, w1, hq, harr⟩

theorem wp_scope_in {c : Code} {Q : Exit → Act → World → Prop} {a : Act} {w : World} (h : InScope P c c Q a w) : (Code.scope c).wp P Q a w := by
  intro b k cs
  obtain ⟨e, a1, w1, hq, harr⟩ := h b k cs
  exact ⟨e, a1, w1, hq, .of_steps (.one step_scope) harr⟩

def JumpsOk (P : Program) (E : Env) (lo : Nat) (c : Code) (k : Nat → Fr → St → Out) : Prop := ∀ l f s a w R e f' s' rest, k l f s = some (e, f', s') → findLabel c l = some rest → Rel R s w → FrOk R s.nx f a → f.G = E.G → lo ≤ s.nx → InScope P c rest (Ends E lo R s w a.defers e f' s') a w

theorem InScope.mono {c x : Code} {Q Q' : Exit → Act → World → Prop} {a : Act} {w : World} (h : InScope P c x Q a w) (hq : ∀ e a w, Q e a w → Q' e a w) : InScope P c x Q' a w := fun b k cs => by
  obtain ⟨e, a1, w1, h1, h2⟩ := h b k cs
  exact ⟨e, a1, w1, hq _ _ _ h1, h2⟩

theorem after_ok (lo lf q : Nat) (deep : ∀ c, CodeOk P E call lo lf q c) {c x : Code} {k : Nat → Fr → St → Out} (hk : JumpsOk P E lo c k ∧ ∀ l f s, findLabel c l = none → k l f s = none ∨ k l f s = some (.goto l, f, s)) {n : Nat} (hx : CodeOk P E call lo lf n x) {f : Fr} {s : St} {a : Act} {w : World} {R : Ren} {e : Ex} {f' : Fr} {s' : St}
    (h : afterX k (codeN n x E call lo lf f s) = some (e, f', s')) (hR : Rel R s w) (hF : FrOk R s.nx f a) (hG : f.G = E.G) (hlo : lo ≤ s.nx) : InScope P c x (Ends E lo R s w a.defers e f' s') a w := by
  cases hr : codeN n x E call lo lf f s with
  | none => rw [hr] at h; simp [afterX] at h
  | some r =>
    obtain ⟨e1, f1, s1⟩ := r
    rw [hr] at h
    refine inScope_of (wp_mono (hx f s a w R e1 f1 s1 hr hR hF hG hlo) fun e3 a3 w3 h3 => ?_)
    obtain ⟨rfl, R3, g2, g3, g4, g5, g6⟩ := h3
    cases e1 with
    | normal =>
      obtain ⟨rfl, h2⟩ := Prod.mk.inj (Option.some.inj (show some (Ex.normal, f1, s1) = some (e, f', s') from h))
      obtain ⟨rfl, rfl⟩ := Prod.mk.inj h2
      exact ⟨rfl, R3, g2, g3, g4, g5, g6⟩
    | exit id =>
      obtain ⟨rfl, h2⟩ := Prod.mk.inj (Option.some.inj (show some (Ex.exit id, f1, s1) = some (e, f', s') from h))
      obtain ⟨rfl, rfl⟩ := Prod.mk.inj h2
      exact ⟨rfl, R3, g2, g3, g4, g5, g6⟩
    | ret =>
      obtain ⟨rfl, h2⟩ := Prod.mk.inj (Option.some.inj (show some (Ex.ret, f1, s1) = some (e, f', s') from h))
      obtain ⟨rfl, rfl⟩ := Prod.mk.inj h2
      exact ⟨rfl, R3, g2, g3, g4, g5, g6⟩
    | goto l =>
      have h : k l f1 s1 = some (e, f', s') := h
      show (match findLabel c l with | some rest => _ | none => _)
      cases hf : findLabel c l with
      | some rest => exact (hk.1 l f1 s1 a3 w3 R3 e f' s' rest h hf g2 g4 g5 (Nat.le_trans hlo g3.nx)).mono fun e5 a5 w5 h5 => Ends.trans g3 g6 h5
      | none =>
        rcases hk.2 l f1 s1 hf with h' | h'
        · rw [h'] at h; simp at h
        · rw [h'] at h
          obtain ⟨rfl, h2⟩ := Prod.mk.inj (Option.some.inj h)
          obtain ⟨rfl, rfl⟩ := Prod.mk.inj h2
          exact ⟨rfl, R3, g2, g3, g4, g5, g6⟩

theorem jumps_ok (lo lf q : Nat) (deep : ∀ c, CodeOk P E call lo lf q c) {c : Code} : ∀ m, JumpsOk P E lo c (jumpN m c fun x => codeN q x E call lo lf) ∧ ∀ l f s, findLabel c l = none → jumpN m c (fun x => codeN q x E call lo lf) l f s = none ∨ jumpN m c (fun x => codeN q x E call lo lf) l f s = some (.goto l, f, s)
  | 0 => ⟨fun l f s a w R e f' s' rest h => by
      have h : (none : Out) = some (e, f', s') := h
      simp at h, fun l f s _ => .inl rfl⟩
  | m + 1 => by
    have ih := jumps_ok lo lf q deep (c := c) m
    refine ⟨fun l f s a w R e f' s' rest h hf hR hF hG hlo => ?_, fun l f s hf => .inr ?_⟩
    · have h : restX c (fun x => codeN q x E call lo lf) l f s (afterX (jumpN m c fun x => codeN q x E call lo lf)) = some (e, f', s') := h
      unfold restX at h
      rw [hf] at h
      exact after_ok lo lf q deep ih (deep rest) h hR hF hG hlo
    · show restX c (fun x => codeN q x E call lo lf) l f s (afterX (jumpN m c fun x => codeN q x E call lo lf)) = _
      unfold restX
      rw [hf]

include hE hcall in
theorem codeS_ok (lo lf q : Nat) (deep : ∀ c, CodeOk P E call lo lf q c) : ∀ c, CodeOk P E call lo lf (q + 1) c
  | .skip => fun f s a w R e f' s' h hR hF hG hlo => by
    obtain ⟨rfl, h2⟩ := Prod.mk.inj (Option.some.inj (show some (Ex.normal, f, s) = some (e, f', s') from h))
    obtain ⟨rfl, rfl⟩ := Prod.mk.inj h2
    exact wp_skip ⟨rfl, R, hR, Mv.refl _ _ _ _, hF, hG, rfl⟩
  | .label l => fun f s a w R e f' s' h hR hF hG hlo => by
    obtain ⟨rfl, h2⟩ := Prod.mk.inj (Option.some.inj (show some (Ex.normal, f, s) = some (e, f', s') from h))
    obtain ⟨rfl, rfl⟩ := Prod.mk.inj h2
    exact wp_label ⟨rfl, R, hR, Mv.refl _ _ _ _, hF, hG, rfl⟩
  | .exit id => fun f s a w R e f' s' h hR hF hG hlo => by
    obtain ⟨rfl, h2⟩ := Prod.mk.inj (Option.some.inj (show some (Ex.exit id, f, s) = some (e, f', s') from h))
    obtain ⟨rfl, rfl⟩ := Prod.mk.inj h2
    exact wp_exit ⟨rfl, R, hR, Mv.refl _ _ _ _, hF, hG, rfl⟩
  | .ret => fun f s a w R e f' s' h hR hF hG hlo => by
    obtain ⟨rfl, h2⟩ := Prod.mk.inj (Option.some.inj (show some (Ex.ret, f, s) = some (e, f', s') from h))
    obtain ⟨rfl, rfl⟩ := Prod.mk.inj h2
    exact wp_ret ⟨rfl, R, hR, Mv.refl _ _ _ _, hF, hG, rfl⟩
  | .rangeFunc _ _ _ _ => fun f s a w R e f' s' h => by
    have h : (none : Out) = some (e, f', s') := h
    simp at h
  | .goto l => fun f s a w R e f' s' h hR hF hG hlo => by
    obtain ⟨rfl, h2⟩ := Prod.mk.inj (Option.some.inj (show some (Ex.goto l, f, s) = some (e, f', s') from h))
    obtain ⟨rfl, rfl⟩ := Prod.mk.inj h2
    exact wp_goto ⟨rfl, R, hR, Mv.refl _ _ _ _, hF, hG, rfl⟩
  | .refuse _ => fun f s a w R e f' s' h => by
    have h : (none : Out) = some (e, f', s') := h
    simp at h
  | .region id ops draw => fun f s a w R e f' s' h hR hF hG hlo => by
    cases draw with
    | false =>
      have h : regionX (opsX ops.toList E call lo ops.toList f s) = some (e, f', s') := h
      cases ho : opsX ops.toList E call lo ops.toList f s with
      | none => rw [ho] at h; simp [regionX] at h
      | some r =>
        obtain ⟨f1, s1⟩ := r
        rw [ho] at h
        obtain ⟨rfl, h2⟩ := Prod.mk.inj (Option.some.inj (show some (Ex.normal, f1, s1) = some (e, f', s') from h))
        obtain ⟨rfl, rfl⟩ := Prod.mk.inj h2
        refine wp_region ?_
        have := opsX_ok (P := P) hE hcall (ops := ops) (lo := lo) (Q := Ends E lo R s w a.defers .normal f1 s1) ops.toList 0 f s a w R rfl ho hR hF hG hlo fun R' a' w' g1 g2 g3 g4 g5 => ⟨rfl, R', g1, g2, g3, g4, g5⟩
        rw [show List.range ops.size = List.range' 0 ops.toList.length by rw [List.range_eq_range']; simp]
        exact this
    | true =>
      have h : regionX (drawX ops.toList E call lo f s) = some (e, f', s') := h
      cases ho : drawX ops.toList E call lo f s with
      | none => rw [ho] at h; simp [regionX] at h
      | some r =>
        obtain ⟨f1, s1⟩ := r
        rw [ho] at h
        obtain ⟨rfl, h2⟩ := Prod.mk.inj (Option.some.inj (show some (Ex.normal, f1, s1) = some (e, f', s') from h))
        obtain ⟨rfl, rfl⟩ := Prod.mk.inj h2
        refine wp_region_any hE.mixed ?_
        exact drawX_ok (P := P) hE hcall (Q := Ends E lo R s w a.defers .normal f1 s1) ho (hR.drawn _) hF hG hlo fun R' a' w' g1 g2 g3 g4 g5 => ⟨rfl, R', g1, (Mv.drawn _).trans g2, g3, g4, g5⟩
  | .seq x y => fun f s a w R e f' s' h hR hF hG hlo => by
    have h : seqX (codeN (q + 1) x E call lo lf f s) (codeN (q + 1) y E call lo lf) = some (e, f', s') := h
    cases hx : codeN (q + 1) x E call lo lf f s with
    | none => rw [hx] at h; simp [seqX] at h
    | some r =>
      obtain ⟨e1, f1, s1⟩ := r
      rw [hx] at h
      refine wp_seq (wp_mono (codeS_ok lo lf q deep x f s a w R e1 f1 s1 hx hR hF hG hlo) fun e3 a3 w3 h3 => ?_)
      obtain ⟨rfl, R3, g2, g3, g4, g5, g6⟩ := h3
      cases e1 with
      | normal =>
        have h : codeN (q + 1) y E call lo lf f1 s1 = some (e, f', s') := h
        exact wp_mono (codeS_ok lo lf q deep y f1 s1 a3 w3 R3 e f' s' h g2 g4 g5 (Nat.le_trans hlo g3.nx)) fun e5 a5 w5 h5 => Ends.trans g3 g6 h5
      | exit id =>
        obtain ⟨rfl, h2⟩ := Prod.mk.inj (Option.some.inj (show some (Ex.exit id, f1, s1) = some (e, f', s') from h))
        obtain ⟨rfl, rfl⟩ := Prod.mk.inj h2
        exact ⟨rfl, R3, g2, g3, g4, g5, g6⟩
      | goto l =>
        obtain ⟨rfl, h2⟩ := Prod.mk.inj (Option.some.inj (show some (Ex.goto l, f1, s1) = some (e, f', s') from h))
        obtain ⟨rfl, rfl⟩ := Prod.mk.inj h2
        exact ⟨rfl, R3, g2, g3, g4, g5, g6⟩
      | ret =>
        obtain ⟨rfl, h2⟩ := Prod.mk.inj (Option.some.inj (show some (Ex.ret, f1, s1) = some (e, f', s') from h))
        obtain ⟨rfl, rfl⟩ := Prod.mk.inj h2
        exact ⟨rfl, R3, g2, g3, g4, g5, g6⟩
  | .cond c x y => fun f s a w R e f' s' h hR hF hG hlo => by
    have h : condX (evX c f) (codeN (q + 1) x E call lo lf) (codeN (q + 1) y E call lo lf) f s = some (e, f', s') := h
    unfold condX at h
    split at h
    · rename_i hc
      exact wp_cond_true (hF.ev hc).1 (codeS_ok lo lf q deep x f s a w R e f' s' h hR hF hG hlo)
    · rename_i hc
      exact wp_cond_false (hF.ev hc).1 (codeS_ok lo lf q deep y f s a w R e f' s' h hR hF hG hlo)
    · simp at h
  | .block id c => fun f s a w R e f' s' h hR hF hG hlo => by
    have h : blockX id (codeN (q + 1) c E call lo lf f s) = some (e, f', s') := h
    cases hx : codeN (q + 1) c E call lo lf f s with
    | none => rw [hx] at h; simp [blockX] at h
    | some r =>
      obtain ⟨e1, f1, s1⟩ := r
      rw [hx] at h
      refine wp_block (wp_mono (codeS_ok lo lf q deep c f s a w R e1 f1 s1 hx hR hF hG hlo) fun e3 a3 w3 h3 => ?_)
      obtain ⟨rfl, R3, g2, g3, g4, g5, g6⟩ := h3
      cases e1 with
      | normal =>
        obtain ⟨rfl, h2⟩ := Prod.mk.inj (Option.some.inj (show some (Ex.normal, f1, s1) = some (e, f', s') from h))
        obtain ⟨rfl, rfl⟩ := Prod.mk.inj h2
        exact ⟨rfl, R3, g2, g3, g4, g5, g6⟩
      | goto l =>
        obtain ⟨rfl, h2⟩ := Prod.mk.inj (Option.some.inj (show some (Ex.goto l, f1, s1) = some (e, f', s') from h))
        obtain ⟨rfl, rfl⟩ := Prod.mk.inj h2
        exact ⟨rfl, R3, g2, g3, g4, g5, g6⟩
      | exit i =>
        have h : (match Nat.beq i id with | true => some (Ex.normal, f1, s1) | false => some (Ex.exit i, f1, s1)) = some (e, f', s') := h
        show (if i = id then _ else _)
        split at h
        · rename_i hi
          obtain ⟨rfl, h2⟩ := Prod.mk.inj (Option.some.inj h)
          obtain ⟨rfl, rfl⟩ := Prod.mk.inj h2
          rw [if_pos (Nat.eq_of_beq_eq_true hi)]
          exact ⟨rfl, R3, g2, g3, g4, g5, g6⟩
        · rename_i hi
          obtain ⟨rfl, h2⟩ := Prod.mk.inj (Option.some.inj h)
          obtain ⟨rfl, rfl⟩ := Prod.mk.inj h2
          rw [if_neg (fun e => by rw [e] at hi; simp at hi)]
          exact ⟨rfl, R3, g2, g3, g4, g5, g6⟩
      | ret =>
        obtain ⟨rfl, h2⟩ := Prod.mk.inj (Option.some.inj (show some (Ex.ret, f1, s1) = some (e, f', s') from h))
        obtain ⟨rfl, rfl⟩ := Prod.mk.inj h2
        exact ⟨rfl, R3, g2, g3, g4, g5, g6⟩
  | .loop c => fun f s a w R e f' s' h hR hF hG hlo =>
    wp_loop_rounds lf (rounds_ok (codeS_ok lo lf q deep c) lf f s a w R h hR hF hG hlo)
  | .scope c => fun f s a w R e f' s' h hR hF hG hlo => by
    have h : afterX (jumpN lf c fun x => codeN q x E call lo lf) (codeN (q + 1) c E call lo lf f s) = some (e, f', s') := h
    exact wp_scope_in (after_ok lo lf q deep (jumps_ok lo lf q deep lf) (codeS_ok lo lf q deep c) h hR hF hG hlo)

include hE hcall in
theorem codeN_ok (lo lf : Nat) : ∀ q c, CodeOk P E call lo lf q c
  | 0, c => fun f s a w R e f' s' h => by
    have h : (none : Out) = some (e, f', s') := h
    simp at h
  | q + 1, c => codeS_ok hE hcall lo lf q (codeN_ok lo lf q) c

include hE hcall in
theorem codeX_ok (lo lf : Nat) (c : Code) : CodeOk P E call lo lf 6 c := codeN_ok hE hcall lo lf 6 c

/-- The results of a call. -/
theorem resX_ok (hE : E.Ok P) {R : Ren} {s : St} {w : World} {f : Fr} {a : Act} (hR : Rel R s w) (hF : FrOk R s.nx f a) : ∀ {l : List ResultVar} {m : List AV}, resX l E f s = some m →
    (l.mapM (fun | .tmp t => pure (a.tmps.getD t undef) | .cell x t => do loadVar t (← asAddr (a.tmps.getD x undef))) : Sem (List Value)).run P w = .ok (concL R m) w ∧ BndL s.nx m
  | [], m, h => by
    obtain rfl := Option.some.inj (show some [] = some m from h)
    simp [concL, BndL]
  | .tmp t :: l, m, h => by
    unfold resX at h
    split at h
    · simp at h
    · rename_i v hv
      split at h
      · rename_i m' hm'
        obtain rfl := Option.some.inj h
        have h1 := hF.ev (o := .tmp t) hv
        have h2 := resX_ok hE hR hF hm'
        have e : a.tmps.getD t undef = conc R v := h1.1
        refine ⟨?_, h1.2, h2.2⟩
        rw [List.mapM_cons]
        simp only [Sem.run_bind, Sem.run_pure, Result.andThen_ok, e, h2.1, concL]
      · simp at h
  | .cell x t :: l, m, h => by
    unfold resX at h
    split at h
    · rename_i b o hv
      split at h
      · rename_i v hld
        split at h
        · rename_i m' hm'
          obtain rfl := Option.some.inj h
          have h1 := hF.ev (o := .tmp x) hv
          have h2 := resX_ok hE hR hF hm'
          have e : a.tmps.getD x undef = .pointer (some ⟨R.blk b, o, none⟩) := h1.1
          have h3 := run_loadVar hE hR hld
          refine ⟨?_, h3.2, h2.2⟩
          rw [List.mapM_cons]
          have ha : (asAddr (a.tmps.getD x undef)).run P w = .ok ⟨R.blk b, o, none⟩ w := by rw [e]; rfl
          simp only [Sem.run_bind, Sem.run_pure, Result.andThen_ok, ha, h3.1, h2.1, concL]
        · simp at h
      · simp at h
    · simp at h

theorem results_ok (hE : E.Ok P) {fn : Func} {R : Ren} {s : St} {w : World} {f : Fr} {a : Act} (hR : Rel R s w) (hF : FrOk R s.nx f a) {v : AV} {s' : St} (h : oneOf (resX fn.results.toList E f s) s = some (v, s')) :
    (results fn a.tmps).run P w = .ok (conc R v) w ∧ Bnd s.nx v ∧ s' = s := by
  cases hm : resX fn.results.toList E f s with
  | none => rw [hm] at h; simp [oneOf] at h
  | some m =>
    rw [hm] at h
    have hr := resX_ok (P := P) hE hR hF hm
    have hmm : (results fn a.tmps).run P w = .ok (if h : (⟨concL R m⟩ : Array Value).size = 1 then (⟨concL R m⟩ : Array Value)[0] else .tuple ⟨concL R m⟩) w := by
      unfold results
      rw [Array.mapM_eq_mapM_toList]
      simp only [Sem.run_bind, Sem.run_map, Sem.run_pure]
      exact (congrArg (fun r => Result.andThen (Result.andThen r fun (q : List Value) w' => .ok q.toArray w') fun (q : Array Value) w' => .ok (if h : q.size = 1 then q[0] else .tuple q) w') hr.1).trans rfl
    rw [hmm]
    cases m with
    | nil =>
      obtain ⟨rfl, rfl⟩ := Prod.mk.inj (Option.some.inj (show some (AV.tup [], s) = some (v, s') from h))
      exact ⟨by simp [conc, concL], by simp [Bnd, BndL], rfl⟩
    | cons x m =>
      cases m with
      | nil =>
        obtain ⟨rfl, rfl⟩ := Prod.mk.inj (Option.some.inj (show some (x, s) = some (v, s') from h))
        exact ⟨by simp [concL], hr.2.1, rfl⟩
      | cons y m =>
        obtain ⟨rfl, rfl⟩ := Prod.mk.inj (Option.some.inj (show some (AV.tup (x :: y :: m), s) = some (v, s') from h))
        exact ⟨by simp [conc, concL], hr.2, rfl⟩

theorem argsX_get : ∀ (l : List AV) (i : Nat) (T : Tr AV) (k : Tr AV → Option (AV × St)), i + l.length ≤ 1024 → ∃ T', argsX l i T k = k T' ∧ ∀ m, Tr.get T' m = if i ≤ m ∧ m < i + l.length then l[m - i]? else Tr.get T m
  | [], i, T, k, _ => ⟨T, rfl, fun m => by rw [if_neg (by simp only [List.length_nil]; omega)]⟩
  | v :: l, i, T, k, h => by
    simp only [List.length_cons] at h
    have e : argsX (v :: l) i T k = Tr.setK 11 T i (some v) fun T => argsX l (Nat.succ i) T k := rfl
    rw [e, Tr.setK_eq]
    obtain ⟨T', h1, h2⟩ := argsX_get l (Nat.succ i) (Tr.set 11 T i (some v)) k (by omega)
    refine ⟨T', h1, fun m => ?_⟩
    rw [h2 m, Tr.get_set 11 T i m (some v) (by omega)]
    simp only [List.length_cons]
    by_cases c1 : i + 1 ≤ m ∧ m < i + 1 + l.length
    · rw [if_pos c1, if_pos (by omega)]
      have : m - i = (m - (i + 1)) + 1 := by omega
      rw [this]; simp
    · rw [if_neg c1]
      by_cases c2 : m = i
      · subst c2; rw [if_pos rfl, if_pos (by omega)]; simp
      · rw [if_neg c2, if_neg (by omega)]

include hE hcall in
theorem body_ok {lo lf : Nat} {fi : FuncId} {fn : Func} {c : Code} {args : List AV} {v : AV} {s s' : St} {w : World} {R : Ren} (hf : P.funcs[fi]? = some fn) (hb : fn.body = some c) (h : bodyX fn c E call lo lf args s = some (v, s')) (hR : Rel R s w) (hargs : BndL s.nx args) (hlo : lo ≤ s.nx)
    (hglob : ∀ g, g < E.G → R.blk g = g ∧ g < s.nx) : Calls P fi ⟨concL R args⟩ w fun e w' => ∃ R', e = .returned (conc R' v) ∧ Rel R' s' w' ∧ Mv lo R s w R' s' w' ∧ Bnd s'.nx v := by
  unfold bodyX at h
  split at h
  · rename_i hc
    simp only [Bool.and_eq_true] at hc
    have c1 := Nat.le_of_ble_eq_true hc.1
    have c2 := Nat.le_of_ble_eq_true hc.2
    obtain ⟨T, h1, h2⟩ := argsX_get args 0 .e (fun T => endX fn.results.toList E (codeX c E call lo lf ⟨T, fn.ntmps, E.G⟩ s)) (by omega)
    rw [h1] at h
    have hF : FrOk R s.nx ⟨T, fn.ntmps, E.G⟩ { tmps := (⟨concL R args⟩ : Array Value) ++ Array.replicate (fn.ntmps - (⟨concL R args⟩ : Array Value).size) undef, defers := [] } := by
      refine ⟨by simp; omega, fun t ht => ?_, fun t ht => ?_, fun t u hu => ?_, hglob, c2⟩
      · show _ = some (conc R ((Tr.get T t).getD (.tup [])))
        rw [h2 t]
        have ht : t < fn.ntmps := ht
        by_cases ha : t < args.length
        · rw [if_pos (by omega), Nat.sub_zero, Array.getElem?_append_left (by simpa using ha)]
          simp [List.getElem?_eq_getElem ha]
        · rw [if_neg (by omega), Tr.get_e, Array.getElem?_append_right (by simp; omega)]
          simp only [List.size_toArray, concL_length, Option.getD_none]
          rw [Array.getElem?_replicate, if_pos (by omega)]
          simp [conc, concL, undef]
      · show Tr.get T t = none
        rw [h2 t]
        have ht : fn.ntmps ≤ t := ht
        rw [if_neg (by omega), Tr.get_e]
      · have hu : Tr.get T t = some u := hu
        rw [h2 t] at hu
        split at hu
        · exact BndL_get hargs hu
        · rw [Tr.get_e] at hu; simp at hu
    cases hx : codeX c E call lo lf ⟨T, fn.ntmps, E.G⟩ s with
    | none => rw [hx] at h; simp [endX] at h
    | some r =>
      obtain ⟨e1, f1, s1⟩ := r
      rw [hx] at h
      refine calls_of_wp hf hb (wp_mono (codeX_ok hE hcall lo lf c ⟨T, fn.ntmps, E.G⟩ s _ w R e1 f1 s1 hx hR hF rfl hlo) fun e3 a3 w3 h3 => ?_)
      obtain ⟨rfl, R3, g2, g3, g4, g5, g6⟩ := h3
      cases e1 with
      | normal =>
        have h : oneOf (resX fn.results.toList E f1 s1) s1 = some (v, s') := h
        obtain ⟨r1, r2, rfl⟩ := results_ok (P := P) hE g2 g4 h
        exact ⟨g6, _, r1, R3, rfl, g2, g3, r2⟩
      | ret =>
        have h : oneOf (resX fn.results.toList E f1 s1) s1 = some (v, s') := h
        obtain ⟨r1, r2, rfl⟩ := results_ok (P := P) hE g2 g4 h
        exact ⟨g6, _, r1, R3, rfl, g2, g3, r2⟩
      | exit id =>
        have h : (none : Option (AV × St)) = some (v, s') := h
        simp at h
      | goto l =>
        have h : (none : Option (AV × St)) = some (v, s') := h
        simp at h
  · simp at h

end

theorem callX_ok {E : Env} {P : Program} (hE : E.Ok P) (lf : Nat) : ∀ d, CallOk P E (callX d E lf)
  | 0 => by
    intro lo f args s v s' R w h
    have h : (none : Option (AV × St)) = some (v, s') := h
    simp at h
  | d + 1 => by
    intro lo f args s v s' R w h hR hargs hlo hglob o a K Q hK
    have h : funcX (E.fn f) f E (callX d E lf) lo lf args s = some (v, s') := h
    unfold funcX at h
    split at h
    · rename_i fn hfn
      split at h
      · rename_i c hc
        rw [hE.call f fn c hfn hc]
        rw [Oper.upon_enter]
        refine (body_ok hE (callX_ok hE lf d) (hE.fn f fn hfn) hc h hR hargs hlo hglob).mono fun e w' hh => ?_
        obtain ⟨R', rfl, h1, h2, h3⟩ := hh
        exact hK R' w' h1 h2 h3
      · unfold extX at h
        split at h
        · rename_i p hp
          obtain ⟨h1, rfl⟩ := ret1_some h
          obtain ⟨h2, h3⟩ := hE.ext f p hp args v h1
          rw [h3 R w]
          exact hK R w hR (Mv.refl _ _ _ _) (h2 _ hargs)
        · unfold nzX at h
          split at h
          · rename_i e he
            split at h
            · rename_i n _
              split at h
              · rename_i hc
                simp only [Bool.and_eq_true] at hc
                have h1 := Nat.le_of_ble_eq_true hc.1
                have hq : s.nx < lim := Nat.le_of_ble_eq_true hc.2
                rw [addK_eq] at h
                obtain ⟨rfl, rfl⟩ := Prod.mk.inj (Option.some.inj h)
                obtain ⟨cs, d, g1, g2⟩ := hE.nz f e he n w h1
                have hn := rel_new (lo := lo) hR hlo hq (.row [] e (.gr s.nx 1)) (.cells cs e (0, 0)) cs.size ⟨by simp [BndL], Nat.lt_succ_self _⟩ (by
                  simp only [ORel]
                  exact ⟨trivial, fun i u hu => by simp at hu, by simp, by simp, fun i _ => by simp⟩)
                have e1 : ({ w with drawn := d, heap := w.heap.push (.cells cs e) } : World) = { ({ w with heap := w.heap.push (.cells cs e) } : World) with drawn := d } := rfl
                have hv : conc (R.name s.nx w.heap.size cs.size) (.slc s.nx 0 n (Nat.add big s.nx)) = .slice (some ⟨w.heap.size, 0, none⟩) n cs.size := by
                  have t1 : ¬ Nat.add big s.nx < big := by show ¬ big + s.nx < big; omega
                  have t2 : Nat.add big s.nx - big = s.nx := by show big + s.nx - big = s.nx; omega
                  simp only [conc, Ren.c]
                  rw [if_neg t1, t2]
                  simp
                simp only [concL, conc]
                rw [g2, e1, ← hv]
                refine hK _ _ (hn.1.drawn _) (hn.2.trans (Mv.drawn _)) ?_
                simp only [Bnd]
                have t2 : Nat.add big s.nx - big = s.nx := by show big + s.nx - big = s.nx; omega
                rw [t2]
                exact ⟨Nat.lt_succ_self _, .inr (Nat.lt_succ_self _)⟩
              · simp at h
            · simp at h
          · simp at h
    · unfold sumX at h
      split at h
      · rename_i p hp
        obtain ⟨g1, g2⟩ := hE.sum f p hp
        rw [g1, Oper.upon_enter]
        refine (g2 lo args s v s' R w h hR hargs hlo hglob).mono fun e w' hh => ?_
        obtain ⟨R', rfl, h1, h2, h3⟩ := hh
        exact hK R' w' h1 h2 h3
      · simp at h

/-- A call with arguments and a heap that are told: what it comes to, in every world that fits. -/
theorem run_told {E : Env} {P : Program} (hE : E.Ok P) (d lf lo : Nat) {f : FuncId} {fn : Func} {c : Code} {args : List AV} {v : AV} {s s' : St} {w : World} {R : Ren} (hf : E.fn f = some fn) (hb : fn.body = some c) (h : callX (d + 1) E lf lo f args s = some (v, s')) (hR : Rel R s w)
    (hargs : BndL s.nx args) (hlo : lo ≤ s.nx) (hglob : ∀ g, g < E.G → R.blk g = g ∧ g < s.nx) : Calls P f ⟨concL R args⟩ w fun e w' => ∃ R', e = .returned (conc R' v) ∧ Rel R' s' w' ∧ Mv lo R s w R' s' w' ∧ Bnd s'.nx v := by
  have h : funcX (E.fn f) f E (callX d E lf) lo lf args s = some (v, s') := h
  rw [hf] at h
  unfold funcX at h
  simp only [hb] at h
  exact body_ok hE (callX_ok hE lf d) (hE.fn f fn hf) hb h hR hargs hlo hglob

end Go.Vx
