/-
  A run told in advance, part twenty-three: the code and the calls. No condition.
-/
import Derived.Test.YtjmebclcmpfdmaaGreatDoorVxV
import Derived.LoopN
import Derived.Scope
import Derived.Lib.Bytealg
import Derived.Laws.Externs
import Derived.Lib.MakeNoZero
set_option linter.unusedSectionVars false
set_option linter.unusedSimpArgs false
set_option linter.unusedVariables false
namespace Go.Vx
open Go.RowKit

def exOf : Ex → Exit
  | .normal => .normal
  | .exit id => .exit id
  | .ret => .ret
  | .goto l => .goto l

/-- What a piece of code comes to. -/
def Ends (E : Env) (lo : Nat) (R : Ren) (s : St) (w : World) (ds : List Deferred) (e : Ex) (f' : Fr) (s' : St) : Exit → Act → World → Prop := fun e' a' w' =>
  e' = exOf e ∧ ∃ R', Rel R' s' w' ∧ Mv lo R s w R' s' w' ∧ FrOk R' s'.nx f' a' ∧ f'.G = E.G ∧ a'.defers = ds

theorem Ends.trans {E : Env} {lo : Nat} {R R1 : Ren} {s s1 : St} {w w1 : World} {ds ds1 : List Deferred} {e : Ex} {f' : Fr} {s' : St} {e' : Exit} {a' : Act} {w' : World} (hm : Mv lo R s w R1 s1 w1) (hds : ds1 = ds)
    (h : Ends E lo R1 s1 w1 ds1 e f' s' e' a' w') : Ends E lo R s w ds e f' s' e' a' w' := by
  obtain ⟨h1, R', h2, h3, h4, h5, h6⟩ := h
  exact ⟨h1, R', h2, hm.trans h3, h4, h5, h6.trans hds⟩

def CodeOk (P : Program) (E : Env) (call : CallX) (lo lf n : Nat) (c : Code) : Prop :=
  ∀ f s a w R e f' s', codeN n c E call lo lf f s = some (e, f', s') → Rel R s w → FrOk R s.nx f a → f.G = E.G → lo ≤ s.nx → c.wp P (Ends E lo R s w a.defers e f' s') a w

section
variable {E : Env} {P : Program} (hE : E.Ok P) {call : CallX} (hcall : CallOk P E call)

theorem rounds_ok {lo lf q : Nat} {c : Code} (hc : CodeOk P E call lo lf q c) {e : Ex} {f' : Fr} {s' : St} : ∀ (n : Nat) (f : Fr) (s : St) (a : Act) (w : World) (R : Ren), loopN n (codeN q c E call lo lf) f s = some (e, f', s') → Rel R s w → FrOk R s.nx f a → f.G = E.G → lo ≤ s.nx →
    Code.rounds P c (Ends E lo R s w a.defers e f' s') n a w
  | 0, f, s, a, w, R, h, _, _, _, _ => by
    have h : (none : Out) = some (e, f', s') := h
    simp at h
  | n + 1, f, s, a, w, R, h, hR, hF, hG, hlo => by
    rw [rounds_succ]
    have h : seqX (codeN q c E call lo lf f s) (loopN n (codeN q c E call lo lf)) = some (e, f', s') := h
    cases hr : codeN q c E call lo lf f s with
    | none => rw [hr] at h; simp [seqX] at h
    | some r =>
      obtain ⟨e2, f2, s2⟩ := r
      rw [hr] at h
      refine wp_mono (hc f s a w R e2 f2 s2 hr hR hF hG hlo) fun e3 a3 w3 h3 => ?_
      obtain ⟨rfl, R3, g2, g3, g4, g5, g6⟩ := h3
      cases e2 with
      | normal =>
        have h : loopN n (codeN q c E call lo lf) f2 s2 = some (e, f', s') := h
        have := rounds_ok hc n f2 s2 a3 w3 R3 h g2 g4 g5 (Nat.le_trans hlo g3.nx)
        have gen : ∀ m a4 w4, Code.rounds P c (Ends E lo R3 s2 w3 a3.defers e f' s') m a4 w4 → Code.rounds P c (Ends E lo R s w a.defers e f' s') m a4 w4 := by
          intro m
          induction m with
          | zero => intro a4 w4 h; exact h
          | succ m ih =>
            intro a4 w4 h
            rw [rounds_succ] at h ⊢
            refine wp_mono h fun e5 a5 w5 h5 => ?_
            cases e5 <;> first
              | exact ih _ _ h5
              | exact Ends.trans g3 g6 h5
        exact gen n a3 w3 this
      | exit id =>
        obtain ⟨rfl, h2⟩ := Prod.mk.inj (Option.some.inj (show some (Ex.exit id, f2, s2) = some (e, f', s') from h))
        obtain ⟨rfl, rfl⟩ := Prod.mk.inj h2
        exact ⟨rfl, R3, g2, g3, g4, g5, g6⟩
      | goto l =>
        obtain ⟨rfl, h2⟩ := Prod.mk.inj (Option.some.inj (show some (Ex.goto l, f2, s2) = some (e, f', s') from h))
        obtain ⟨rfl, rfl⟩ := Prod.mk.inj h2
        exact ⟨rfl, R3, g2, g3, g4, g5, g6⟩
      | ret =>
        obtain ⟨rfl, h2⟩ := Prod.mk.inj (Option.some.inj (show some (Ex.ret, f2, s2) = some (e, f', s') from h))
        obtain ⟨rfl, rfl⟩ := Prod.mk.inj h2
        exact ⟨rfl, R3, g2, g3, g4, g5, g6⟩

/-- A piece of code that stands in a scope. -/
def InScope (P : Program) (c x : Code) (Q : Exit → Act → World → Prop) (a : Act) (w : World) : Prop := ∀ (b : Frame) (k : List Item) (cs : List Frame), ∃ e a' w', Q e a' w' ∧ Arrives P (lone (b.at a (.code x :: .inScope c :: k)) cs w) b k cs e a' w'

def jumpQ (P : Program) (c : Code) (Q : Exit → Act → World → Prop) : Exit → Act → World → Prop
  | .goto l, a, w => match findLabel c l with
    | some rest => InScope P c rest Q a w
    | none => Q (.goto l) a w
  | e, a, w => Q e a w

theorem inScope_of {c x : Code} {Q : Exit → Act → World → Prop} {a : Act} {w : World} (h : x.wp P (jumpQ P c Q) a w) : InScope P c x Q a w := by
  intro b k cs
  obtain ⟨e, a1, w1, hq, harr⟩ := h b (.inScope c :: k) cs
  cases e with
  | normal => exact ⟨.normal, a1, w1, hq, Steps.trans harr (.one step_inScope)⟩
  | exit id => exact ⟨.exit id, a1, w1, hq, fun k' hk => harr k' (by simp [exitTo, hk])⟩
  | goto l =>
    have hq : (match findLabel c l with | some rest => InScope P c rest Q a1 w1 | none => Q (.goto l) a1 w1) := hq
    cases hf : findLabel c l with
    | some rest =>
      rw [hf] at hq
      obtain ⟨e2, a2, w2, hq2, harr2⟩ := hq b k cs
      exact ⟨e2, a2, w2, hq2, .of_steps (harr _ (by simp [gotoIn, hf])) harr2⟩
    | none =>
      rw [hf] at hq
      exact ⟨.goto l, a1, w1, hq, fun k' hk => harr k' (by simp [gotoIn, hf, hk])⟩
  | ret => exact ⟨_, a1, w1, hq, harr⟩
  | panic ch => exact ⟨_, a1, w1, hq, harr⟩
  | outgrown => exact ⟨_, a1, w1, hq, harr⟩

theorem wp_scope_in {c : Code} {Q : Exit → Act → World → Prop} {a : Act} {w : World} (h : InScope P c c Q a w) : (Code.scope c).wp P Q a w := by
  intro b k cs
  obtain ⟨e, a1, w1, hq, harr⟩ := h b k cs
  exact ⟨e, a1, w1, hq, .of_steps (.one step_scope) harr⟩

def JumpsOk (P : Program) (E : Env) (lo : Nat) (c : Code) (k : Nat → Fr → St → Out) : Prop := ∀ l f s a w R e f' s' rest, k l f s = some (e, f', s') → findLabel c l = some rest → Rel R s w → FrOk R s.nx f a → f.G = E.G → lo ≤ s.nx → InScope P c rest (Ends E lo R s w a.defers e f' s') a w

theorem InScope.mono {c x : Code} {Q Q' : Exit → Act → World → Prop} {a : Act} {w : World} (h : InScope P c x Q a w) (hq : ∀ e a w, Q e a w → Q' e a w) : InScope P c x Q' a w := fun b k cs => by
  obtain ⟨e, a1, w1, h1, h2⟩ := h b k cs
  exact ⟨e, a1, w1, hq _ _ _ h1, h2⟩

theorem after_ok (lo lf q : Nat) (deep : ∀ c, CodeOk P E call lo lf q c) {c x : Code} {k : Nat → Fr → St → Out} (hk : JumpsOk P E lo c k ∧ ∀ l f s, findLabel c l = none → k l f s = none ∨ k l f s = some (.goto l, f, s)) {n : Nat} (hx : CodeOk P E call lo lf n x) {f : Fr} {s : St} {a : Act} {w : World} {R : Ren} {e : Ex} {f' : Fr} {s' : St}
    (h : afterX k (codeN n x E call lo lf f s) = some (e, f', s')) (hR : Rel R s w) (hF : FrOk R s.nx f a) (hG : f.G = E.G) (hlo : lo ≤ s.nx) : InScope P c x (Ends E lo R s w a.defers e f' s') a w := by
  cases hr : codeN n x E call lo lf f s with
  | none => rw [hr] at h; simp [afterX] at h
  | some r =>
    obtain ⟨e1, f1, s1⟩ := r
    rw [hr] at h
    refine inScope_of (wp_mono (hx f s a w R e1 f1 s1 hr hR hF hG hlo) fun e3 a3 w3 h3 => ?_)
    obtain ⟨rfl, R3, g2, g3, g4, g5, g6⟩ := h3
    cases e1 with
    | normal =>
      obtain ⟨rfl, h2⟩ := Prod.mk.inj (Option.some.inj (show some (Ex.normal, f1, s1) = some (e, f', s') from h))
      obtain ⟨rfl, rfl⟩ := Prod.mk.inj h2
      exact ⟨rfl, R3, g2, g3, g4, g5, g6⟩
    | exit id =>
      obtain ⟨rfl, h2⟩ := Prod.mk.inj (Option.some.inj (show some (Ex.exit id, f1, s1) = some (e, f', s') from h))
      obtain ⟨rfl, rfl⟩ := Prod.mk.inj h2
      exact ⟨rfl, R3, g2, g3, g4, g5, g6⟩
    | ret =>
      obtain ⟨rfl, h2⟩ := Prod.mk.inj (Option.some.inj (show some (Ex.ret, f1, s1) = some (e, f', s') from h))
      obtain ⟨rfl, rfl⟩ := Prod.mk.inj h2
      exact ⟨rfl, R3, g2, g3, g4, g5, g6⟩
    | goto l =>
      have h : k l f1 s1 = some (e, f', s') := h
      show (match findLabel c l with | some rest => _ | none => _)
      cases hf : findLabel c l with
      | some rest => exact (hk.1 l f1 s1 a3 w3 R3 e f' s' rest h hf g2 g4 g5 (Nat.le_trans hlo g3.nx)).mono fun e5 a5 w5 h5 => Ends.trans g3 g6 h5
      | none =>
        rcases hk.2 l f1 s1 hf with h' | h'
        · rw [h'] at h; simp at h
        · rw [h'] at h
          obtain ⟨rfl, h2⟩ := Prod.mk.inj (Option.some.inj h)
          obtain ⟨rfl, rfl⟩ := Prod.mk.inj h2
          exact ⟨rfl, R3, g2, g3, g4, g5, g6⟩

theorem jumps_ok (lo lf q : Nat) (deep : ∀ c, CodeOk P E call lo lf q c) {c : Code} : ∀ m, JumpsOk P E lo c (jumpN m c fun x => codeN q x E call lo lf) ∧ ∀ l f s, findLabel c l = none → jumpN m c (fun x => codeN q x E call lo lf) l f s = none ∨ jumpN m c (fun x => codeN q x E call lo lf) l f s = some (.goto l, f, s)
  | 0 => ⟨fun l f s a w R e f' s' rest h => by
      have h : (none : Out) = some (e, f', s') := h
      simp at h, fun l f s _ => .inl rfl⟩
  | m + 1 => by
    have ih := jumps_ok lo lf q deep (c := c) m
    refine ⟨fun l f s a w R e f' s' rest h hf hR hF hG hlo => ?_, fun l f s hf => .inr ?_⟩
    · have h : restX c (fun x => codeN q x E call lo lf) l f s (afterX (jumpN m c fun x => codeN q x E call lo lf)) = some (e, f', s') := h
      unfold restX at h
      rw [hf] at h
      exact after_ok lo lf q deep ih (deep rest) h hR hF hG hlo
    · show restX c (fun x => codeN q x E call lo lf) l f s (afterX (jumpN m c fun x => codeN q x E call lo lf)) = _
      unfold restX
      rw [hf]

include hE hcall in
theorem codeS_ok (lo lf q : Nat) (deep : ∀ c, CodeOk P E call lo lf q c) : ∀ c, CodeOk P E call lo lf (q + 1) c
  | .skip => fun f s a w R e f' s' h hR hF hG hlo => by
    obtain ⟨rfl, h2⟩ := Prod.mk.inj (Option.some.inj (show some (Ex.normal, f, s) = some (e, f', s') from h))
    obtain ⟨rfl, rfl⟩ := Prod.mk.inj h2
    exact wp_skip ⟨rfl, R, hR, Mv.refl _ _ _ _, hF, hG, rfl⟩
  | .label l => fun f s a w R e f' s' h hR hF hG hlo => by
    obtain ⟨rfl, h2⟩ := Prod.mk.inj (Option.some.inj (show some (Ex.normal, f, s) = some (e, f', s') from h))
    obtain ⟨rfl, rfl⟩ := Prod.mk.inj h2
    exact wp_label ⟨rfl, R, hR, Mv.refl _ _ _ _, hF, hG, rfl⟩
  | .exit id => fun f s a w R e f' s' h hR hF hG hlo => by
    obtain ⟨rfl, h2⟩ := Prod.mk.inj (Option.some.inj (show some (Ex.exit id, f, s) = some (e, f', s') from h))
    obtain ⟨rfl, rfl⟩ := Prod.mk.inj h2
    exact wp_exit ⟨rfl, R, hR, Mv.refl _ _ _ _, hF, hG, rfl⟩
  | .ret => fun f s a w R e f' s' h hR hF hG hlo => by
    obtain ⟨rfl, h2⟩ := Prod.mk.inj (Option.some.inj (show some (Ex.ret, f, s) = some (e, f', s') from h))
    obtain ⟨rfl, rfl⟩ := Prod.mk.inj h2
    exact wp_ret ⟨rfl, R, hR, Mv.refl _ _ _ _, hF, hG, rfl⟩
  | .rangeFunc _ _ _ _ => fun f s a w R e f' s' h => by
    have h : (none : Out) = some (e, f', s') := h
    simp at h
  | .goto l => fun f s a w R e f' s' h hR hF hG hlo => by
    obtain ⟨rfl, h2⟩ := Prod.mk.inj (Option.some.inj (show some (Ex.goto l, f, s) = some (e, f', s') from h))
    obtain ⟨rfl, rfl⟩ := Prod.mk.inj h2
    exact wp_goto ⟨rfl, R, hR, Mv.refl _ _ _ _, hF, hG, rfl⟩
  | .refuse _ => fun f s a w R e f' s' h => by
    have h : (none : Out) = some (e, f', s') := h
    simp at h
  | .region id ops draw => fun f s a w R e f' s' h hR hF hG hlo => by
    cases draw with
    | false =>
      have h : regionX (opsX ops.toList E call lo ops.toList f s) = some (e, f', s') := h
      cases ho : opsX ops.toList E call lo ops.toList f s with
      | none => rw [ho] at h; simp [regionX] at h
      | some r =>
        obtain ⟨f1, s1⟩ := r
        rw [ho] at h
        obtain ⟨rfl, h2⟩ := Prod.mk.inj (Option.some.inj (show some (Ex.normal, f1, s1) = some (e, f', s') from h))
        obtain ⟨rfl, rfl⟩ := Prod.mk.inj h2
        refine wp_region ?_
        have := opsX_ok (P := P) hE hcall (ops := ops) (lo := lo) (Q := Ends E lo R s w a.defers .normal f1 s1) ops.toList 0 f s a w R rfl ho hR hF hG hlo fun R' a' w' g1 g2 g3 g4 g5 => ⟨rfl, R', g1, g2, g3, g4, g5⟩
        rw [show List.range ops.size = List.range' 0 ops.toList.length by rw [List.range_eq_range']; simp]
        exact this
    | true =>
      have h : regionX (drawX ops.toList E call lo f s) = some (e, f', s') := h
      cases ho : drawX ops.toList E call lo f s with
      | none => rw [ho] at h; simp [regionX] at h
      | some r =>
        obtain ⟨f1, s1⟩ := r
        rw [ho] at h
        obtain ⟨rfl, h2⟩ := Prod.mk.inj (Option.some.inj (show some (Ex.normal, f1, s1) = some (e, f', s') from h))
        obtain ⟨rfl, rfl⟩ := Prod.mk.inj h2
        refine wp_region_any hE.mixed ?_
        exact drawX_ok (P := P) hE hcall (Q := Ends E lo R s w a.defers .normal f1 s1) ho (hR.drawn _) hF hG hlo fun R' a' w' g1 g2 g3 g4 g5 => ⟨rfl, R', g1, (Mv.drawn _).trans g2, g3, g4, g5⟩
  | .seq x y => fun f s a w R e f' s' h hR hF hG hlo => by
    have h : seqX (codeN (q + 1) x E call lo lf f s) (codeN (q + 1) y E call lo lf) = some (e, f', s') := h
    cases hx : codeN (q + 1) x E call lo lf f s with
    | none => rw [hx] at h; simp [seqX] at h
    | some r =>
      obtain ⟨e1, f1, s1⟩ := r
      rw [hx] at h
      refine wp_seq (wp_mono (codeS_ok lo lf q deep x f s a w R e1 f1 s1 hx hR hF hG hlo) fun e3 a3 w3 h3 => ?_)
      obtain ⟨rfl, R3, g2, g3, g4, g5, g6⟩ := h3
      cases e1 with
      | normal =>
        have h : codeN (q + 1) y E call lo lf f1 s1 = some (e, f', s') := h
        exact wp_mono (codeS_ok lo lf q deep y f1 s1 a3 w3 R3 e f' s' h g2 g4 g5 (Nat.le_trans hlo g3.nx)) fun e5 a5 w5 h5 => Ends.trans g3 g6 h5
      | exit id =>
        obtain ⟨rfl, h2⟩ := Prod.mk.inj (Option.some.inj (show some (Ex.exit id, f1, s1) = some (e, f', s') from h))
        obtain ⟨rfl, rfl⟩ := Prod.mk.inj h2
        exact ⟨rfl, R3, g2, g3, g4, g5, g6⟩
      | goto l =>
        obtain ⟨rfl, h2⟩ := Prod.mk.inj (Option.some.inj (show some (Ex.goto l, f1, s1) = some (e, f', s') from h))
        obtain ⟨rfl, rfl⟩ := Prod.mk.inj h2
        exact ⟨rfl, R3, g2, g3, g4, g5, g6⟩
      | ret =>
        obtain ⟨rfl, h2⟩ := Prod.mk.inj (Option.some.inj (show some (Ex.ret, f1, s1) = some (e, f', s') from h))
        obtain ⟨rfl, rfl⟩ := Prod.mk.inj h2
        exact ⟨rfl, R3, g2, g3, g4, g5, g6⟩
  | .cond c x y => fun f s a w R e f' s' h hR hF hG hlo => by
    have h : condX (evX c f) (codeN (q + 1) x E call lo lf) (codeN (q + 1) y E call lo lf) f s = some (e, f', s') := h
    unfold condX at h
    split at h
    · rename_i hc
      exact wp_cond_true (hF.ev hc).1 (codeS_ok lo lf q deep x f s a w R e f' s' h hR hF hG hlo)
    · rename_i hc
      exact wp_cond_false (hF.ev hc).1 (codeS_ok lo lf q deep y f s a w R e f' s' h hR hF hG hlo)
    · simp at h
  | .block id c => fun f s a w R e f' s' h hR hF hG hlo => by
    have h : blockX id (codeN (q + 1) c E call lo lf f s) = some (e, f', s') := h
    cases hx : codeN (q + 1) c E call lo lf f s with
    | none => rw [hx] at h; simp [blockX] at h
    | some r =>
      obtain ⟨e1, f1, s1⟩ := r
      rw [hx] at h
      refine wp_block (wp_mono (codeS_ok lo lf q deep c f s a w R e1 f1 s1 hx hR hF hG hlo) fun e3 a3 w3 h3 => ?_)
      obtain ⟨rfl, R3, g2, g3, g4, g5, g6⟩ := h3
      cases e1 with
      | normal =>
        obtain ⟨rfl, h2⟩ := Prod.mk.inj (Option.some.inj (show some (Ex.normal, f1, s1) = some (e, f', s') from h))
        obtain ⟨rfl, rfl⟩ := Prod.mk.inj h2
        exact ⟨rfl, R3, g2, g3, g4, g5, g6⟩
      | goto l =>
        obtain ⟨rfl, h2⟩ := Prod.mk.inj (Option.some.inj (show some (Ex.goto l, f1, s1) = some (e, f', s') from h))
        obtain ⟨rfl, rfl⟩ := Prod.mk.inj h2
        exact ⟨rfl, R3, g2, g3, g4, g5, g6⟩
      | exit i =>
        have h : (match Nat.beq i id with | true => some (Ex.normal, f1, s1) | false => some (Ex.exit i, f1, s1)) = some (e, f', s') := h
        show (if i = id then _ else _)
        split at h
        · rename_i hi
          obtain ⟨rfl, h2⟩ := Prod.mk.inj (Option.some.inj h)
          obtain ⟨rfl, rfl⟩ := Prod.mk.inj h2
          rw [if_pos (Nat.eq_of_beq_eq_true hi)]
          exact ⟨rfl, R3, g2, g3, g4, g5, g6⟩
        · rename_i hi
          obtain ⟨rfl, h2⟩ := Prod.mk.inj (Option.some.inj h)
          obtain ⟨rfl, rfl⟩ := Prod.mk.inj h2
          rw [if_neg (fun e => by rw [e] at hi; simp at hi)]
          exact ⟨rfl, R3, g2, g3, g4, g5, g6⟩
      | ret =>
        obtain ⟨rfl, h2⟩ := Prod.mk.inj (Option.some.inj (show some (Ex.ret, f1, s1) = some (e, f', s') from h))
        obtain ⟨rfl, rfl⟩ := Prod.mk.inj h2
        exact ⟨rfl, R3, g2, g3, g4, g5, g6⟩
  | .loop c => fun f s a w R e f' s' h hR hF hG hlo =>
    wp_loop_rounds lf (rounds_ok (codeS_ok lo lf q deep c) lf f s a w R h hR hF hG hlo)
  | .scope c => fun f s a w R e f' s' h hR hF hG hlo => by
    have h : afterX (jumpN lf c fun x => codeN q x E call lo lf) (codeN (q + 1) c E call lo lf f s) = some (e, f', s') := h
    exact wp_scope_in (after_ok lo lf q deep (jumps_ok lo lf q deep lf) (codeS_ok lo lf q deep c) h hR hF hG hlo)

include hE hcall in
theorem codeN_ok (lo lf : Nat) : ∀ q c, CodeOk P E call lo lf q c
  | 0, c => fun f s a w R e f' s' h => by
    have h : (none : Out) = some (e, f', s') := h
    simp at h
  | q + 1, c => codeS_ok hE hcall lo lf q (codeN_ok lo lf q) c

include hE hcall in
theorem codeX_ok (lo lf : Nat) (c : Code) : CodeOk P E call lo lf 6 c := codeN_ok hE hcall lo lf 6 c

/-- The results of a call. -/
theorem resX_ok (hE : E.Ok P) {R : Ren} {s : St} {w : World} {f : Fr} {a : Act} (hR : Rel R s w) (hF : FrOk R s.nx f a) : ∀ {l : List ResultVar} {m : List AV}, resX l E f s = some m →
    (l.mapM (fun | .tmp t => pure (a.tmps.getD t undef) | .cell x t => do loadVar t (← asAddr (a.tmps.getD x undef))) : Sem (List Value)).run P w = .ok (concL R m) w ∧ BndL s.nx m
  | [], m, h => by
    obtain rfl := Option.some.inj (show some [] = some m from h)
    simp [concL, BndL]
  | .tmp t :: l, m, h => by
    unfold resX at h
    split at h
    · simp at h
    · rename_i v hv
      split at h
      · rename_i m' hm'
        obtain rfl := Option.some.inj h
        have h1 := hF.ev (o := .tmp t) hv
        have h2 := resX_ok hE hR hF hm'
        have e : a.tmps.getD t undef = conc R v := h1.1
        refine ⟨?_, h1.2, h2.2⟩
        rw [List.mapM_cons]
        simp only [Sem.run_bind, Sem.run_pure, Result.andThen_ok, e, h2.1, concL]
      · simp at h
  | .cell x t :: l, m, h => by
    unfold resX at h
    split at h
    · rename_i b o hv
      split at h
      · rename_i v hld
        split at h
        · rename_i m' hm'
          obtain rfl := Option.some.inj h
          have h1 := hF.ev (o := .tmp x) hv
          have h2 := resX_ok hE hR hF hm'
          have e : a.tmps.getD x undef = .pointer (some ⟨R.blk b, o, none⟩) := h1.1
          have h3 := run_loadVar hE hR hld
          refine ⟨?_, h3.2, h2.2⟩
          rw [List.mapM_cons]
          have ha : (asAddr (a.tmps.getD x undef)).run P w = .ok ⟨R.blk b, o, none⟩ w := by rw [e]; rfl
          simp only [Sem.run_bind, Sem.run_pure, Result.andThen_ok, ha, h3.1, h2.1, concL]
        · simp at h
      · simp at h
    · simp at h

theorem results_ok (hE : E.Ok P) {fn : Func} {R : Ren} {s : St} {w : World} {f : Fr} {a : Act} (hR : Rel R s w) (hF : FrOk R s.nx f a) {v : AV} {s' : St} (h : oneOf (resX fn.results.toList E f s) s = some (v, s')) :
    (results fn a.tmps).run P w = .ok (conc R v) w ∧ Bnd s.nx v ∧ s' = s := by
  cases hm : resX fn.results.toList E f s with
  | none => rw [hm] at h; simp [oneOf] at h
  | some m =>
    rw [hm] at h
    have hr := resX_ok (P := P) hE hR hF hm
    have hmm : (results fn a.tmps).run P w = .ok (if h : (⟨concL R m⟩ : Array Value).size = 1 then (⟨concL R m⟩ : Array Value)[0] else .tuple ⟨concL R m⟩) w := by
      unfold results
      rw [Array.mapM_eq_mapM_toList]
      simp only [Sem.run_bind, Sem.run_map, Sem.run_pure]
      exact (congrArg (fun r => Result.andThen (Result.andThen r fun (q : List Value) w' => .ok q.toArray w') fun (q : Array Value) w' => .ok (if h : q.size = 1 then q[0] else .tuple q) w') hr.1).trans rfl
    rw [hmm]
    cases m with
    | nil =>
      obtain ⟨rfl, rfl⟩ := Prod.mk.inj (Option.some.inj (show some (AV.tup [], s) = some (v, s') from h))
      exact ⟨by simp [conc, concL], by simp [Bnd, BndL], rfl⟩
    | cons x m =>
      cases m with
      | nil =>
        obtain ⟨rfl, rfl⟩ := Prod.mk.inj (Option.some.inj (show some (x, s) = some (v, s') from h))
        exact ⟨by simp [concL], hr.2.1, rfl⟩
      | cons y m =>
        obtain ⟨rfl, rfl⟩ := Prod.mk.inj (Option.some.inj (show some (AV.tup (x :: y :: m), s) = some (v, s') from h))
        exact ⟨by simp [conc, concL], hr.2, rfl⟩

theorem argsX_get : ∀ (l : List AV) (i : Nat) (T : Tr AV) (k : Tr AV → Option (AV × St)), i + l.length ≤ 1024 → ∃ T', argsX l i T k = k T' ∧ ∀ m, Tr.get T' m = if i ≤ m ∧ m < i + l.length then l[m - i]? else Tr.get T m
  | [], i, T, k, _ => ⟨T, rfl, fun m => by rw [if_neg (by simp only [List.length_nil]; omega)]⟩
  | v :: l, i, T, k, h => by
    simp only [List.length_cons] at h
    have e : argsX (v :: l) i T k = Tr.setK 11 T i (some v) fun T => argsX l (Nat.succ i) T k := rfl
    rw [e, Tr.setK_eq]
    obtain ⟨T', h1, h2⟩ := argsX_get l (Nat.succ i) (Tr.set 11 T i (some v)) k (by omega)
    refine ⟨T', h1, fun m => ?_⟩
    rw [h2 m, Tr.get_set 11 T i m (some v) (by omega)]
    simp only [List.length_cons]
    by_cases c1 : i + 1 ≤ m ∧ m < i + 1 + l.length
    · rw [if_pos c1, if_pos (by omega)]
      have : m - i = (m - (i + 1)) + 1 := by omega
      rw [this]; simp
    · rw [if_neg c1]
      by_cases c2 : m = i
      · subst c2; rw [if_pos rfl, if_pos (by omega)]; simp
      · rw [if_neg c2, if_neg (by omega)]

include hE hcall in
theorem body_ok {lo lf : Nat} {fi : FuncId} {fn : Func} {c : Code} {args : List AV} {v : AV} {s s' : St} {w : World} {R : Ren} (hf : P.funcs[fi]? = some fn) (hb : fn.body = some c) (h : bodyX fn c E call lo lf args s = some (v, s')) (hR : Rel R s w) (hargs : BndL s.nx args) (hlo : lo ≤ s.nx)
    (hglob : ∀ g, g < E.G → R.blk g = g ∧ g < s.nx) : Calls P fi ⟨concL R args⟩ w fun e w' => ∃ R', e = .returned (conc R' v) ∧ Rel R' s' w' ∧ Mv lo R s w R' s' w' ∧ Bnd s'.nx v := by
  unfold bodyX at h
  split at h
  · rename_i hc
    simp only [Bool.and_eq_true] at hc
    have c1 := Nat.le_of_ble_eq_true hc.1
    have c2 := Nat.le_of_ble_eq_true hc.2
    obtain ⟨T, h1, h2⟩ := argsX_get args 0 .e (fun T => endX fn.results.toList E (codeX c E call lo lf ⟨T, fn.ntmps, E.G⟩ s)) (by omega)
    rw [h1] at h
    have hF : FrOk R s.nx ⟨T, fn.ntmps, E.G⟩ { tmps := (⟨concL R args⟩ : Array Value) ++ Array.replicate (fn.ntmps - (⟨concL R args⟩ : Array Value).size) undef, defers := [] } := by
      refine ⟨by simp; omega, fun t ht => ?_, fun t ht => ?_, fun t u hu => ?_, hglob, c2⟩
      · show _ = some (conc R ((Tr.get T t).getD (.tup [])))
        rw [h2 t]
        have ht : t < fn.ntmps := ht
        by_cases ha : t < args.length
        · rw [if_pos (by omega), Nat.sub_zero, Array.getElem?_append_left (by simpa using ha)]
          simp [List.getElem?_eq_getElem ha]
        · rw [if_neg (by omega), Tr.get_e, Array.getElem?_append_right (by simp; omega)]
          simp only [List.size_toArray, concL_length, Option.getD_none]
          rw [Array.getElem?_replicate, if_pos (by omega)]
          simp [conc, concL, undef]
      · show Tr.get T t = none
        rw [h2 t]
        have ht : fn.ntmps ≤ t := ht
        rw [if_neg (by omega), Tr.get_e]
      · have hu : Tr.get T t = some u := hu
        rw [h2 t] at hu
        split at hu
        · exact BndL_get hargs hu
        · rw [Tr.get_e] at hu; simp at hu
    cases hx : codeX c E call lo lf ⟨T, fn.ntmps, E.G⟩ s with
    | none => rw [hx] at h; simp [endX] at h
    | some r =>
      obtain ⟨e1, f1, s1⟩ := r
      rw [hx] at h
      refine calls_of_wp hf hb (wp_mono (codeX_ok hE hcall lo lf c ⟨T, fn.ntmps, E.G⟩ s _ w R e1 f1 s1 hx hR hF rfl hlo) fun e3 a3 w3 h3 => ?_)
      obtain ⟨rfl, R3, g2, g3, g4, g5, g6⟩ := h3
      cases e1 with
      | normal =>
        have h : oneOf (resX fn.results.toList E f1 s1) s1 = some (v, s') := h
        obtain ⟨r1, r2, rfl⟩ := results_ok (P := P) hE g2 g4 h
        exact ⟨g6, _, r1, R3, rfl, g2, g3, r2⟩
      | ret =>
        have h : oneOf (resX fn.results.toList E f1 s1) s1 = some (v, s') := h
        obtain ⟨r1, r2, rfl⟩ := results_ok (P := P) hE g2 g4 h
        exact ⟨g6, _, r1, R3, rfl, g2, g3, r2⟩
      | exit id =>
        have h : (none : Option (AV × St)) = some (v, s') := h
        simp at h
      | goto l =>
        have h : (none : Option (AV × St)) = some (v, s') := h
        simp at h
  · simp at h

end

theorem callX_ok {E : Env} {P : Program} (hE : E.Ok P) (lf : Nat) : ∀ d, CallOk P E (callX d E lf)
  | 0 => by
    intro lo f args s v s' R w h
    have h : (none : Option (AV × St)) = some (v, s') := h
    simp at h
  | d + 1 => by
    intro lo f args s v s' R w h hR hargs hlo hglob o a K Q hK
    have h : funcX (E.fn f) f E (callX d E lf) lo lf args s = some (v, s') := h
    unfold funcX at h
    split at h
    · rename_i fn hfn
      split at h
      · rename_i c hc
        rw [hE.call f fn c hfn hc]
        rw [Oper.upon_enter]
        refine (body_ok hE (callX_ok hE lf d) (hE.fn f fn hfn) hc h hR hargs hlo hglob).mono fun e w' hh => ?_
        obtain ⟨R', rfl, h1, h2, h3⟩ := hh
        exact hK R' w' h1 h2 h3
      · unfold extX at h
        split at h
        · rename_i p hp
          obtain ⟨h1, rfl⟩ := ret1_some h
          obtain ⟨h2, h3⟩ := hE.ext f p hp args v h1
          rw [h3 R w]
          exact hK R w hR (Mv.refl _ _ _ _) (h2 _ hargs)
        · unfold nzX at h
          split at h
          · rename_i e he
            split at h
            · rename_i n _
              split at h
              · rename_i hc
                simp only [Bool.and_eq_true] at hc
                have h1 := Nat.le_of_ble_eq_true hc.1
                have hq : s.nx < lim := Nat.le_of_ble_eq_true hc.2
                rw [addK_eq] at h
                obtain ⟨rfl, rfl⟩ := Prod.mk.inj (Option.some.inj h)
                obtain ⟨cs, d, g1, g2⟩ := hE.nz f e he n w h1
                have hn := rel_new (lo := lo) hR hlo hq (.row [] e (.gr s.nx 1)) (.cells cs e (0, 0)) cs.size ⟨by simp [BndL], Nat.lt_succ_self _⟩ (by
                  simp only [ORel]
                  exact ⟨trivial, fun i u hu => by simp at hu, by simp, by simp, fun i _ => by simp⟩)
                have e1 : ({ w with drawn := d, heap := w.heap.push (.cells cs e) } : World) = { ({ w with heap := w.heap.push (.cells cs e) } : World) with drawn := d } := rfl
                have hv : conc (R.name s.nx w.heap.size cs.size) (.slc s.nx 0 n (Nat.add big s.nx)) = .slice (some ⟨w.heap.size, 0, none⟩) n cs.size := by
                  have t1 : ¬ Nat.add big s.nx < big := by show ¬ big + s.nx < big; omega
                  have t2 : Nat.add big s.nx - big = s.nx := by show big + s.nx - big = s.nx; omega
                  simp only [conc, Ren.c]
                  rw [if_neg t1, t2]
                  simp
                simp only [concL, conc]
                rw [g2, e1, ← hv]
                refine hK _ _ (hn.1.drawn _) (hn.2.trans (Mv.drawn _)) ?_
                simp only [Bnd]
                have t2 : Nat.add big s.nx - big = s.nx := by show big + s.nx - big = s.nx; omega
                rw [t2]
                exact ⟨Nat.lt_succ_self _, .inr (Nat.lt_succ_self _)⟩
              · simp at h
            · simp at h
          · simp at h
    · unfold sumX at h
      split at h
      · rename_i p hp
        obtain ⟨g1, g2⟩ := hE.sum f p hp
        rw [g1, Oper.upon_enter]
        refine (g2 lo args s v s' R w h hR hargs hlo hglob).mono fun e w' hh => ?_
        obtain ⟨R', rfl, h1, h2, h3⟩ := hh
        exact hK R' w' h1 h2 h3
      · simp at h

/-- A call with arguments and a heap that are told: what it comes to, in every world that fits. -/
theorem run_told {E : Env} {P : Program} (hE : E.Ok P) (d lf lo : Nat) {f : FuncId} {fn : Func} {c : Code} {args : List AV} {v : AV} {s s' : St} {w : World} {R : Ren} (hf : E.fn f = some fn) (hb : fn.body = some c) (h : callX (d + 1) E lf lo f args s = some (v, s')) (hR : Rel R s w)
    (hargs : BndL s.nx args) (hlo : lo ≤ s.nx) (hglob : ∀ g, g < E.G → R.blk g = g ∧ g < s.nx) : Calls P f ⟨concL R args⟩ w fun e w' => ∃ R', e = .returned (conc R' v) ∧ Rel R' s' w' ∧ Mv lo R s w R' s' w' ∧ Bnd s'.nx v := by
  have h : funcX (E.fn f) f E (callX d E lf) lo lf args s = some (v, s') := h
  rw [hf] at h
  unfold funcX at h
  simp only [hb] at h
  exact body_ok hE (callX_ok hE lf d) (hE.fn f fn hf) hb h hR hargs hlo hglob

end Go.Vx
set_option linter.unusedSectionVars false
set_option linter.unusedSimpArgs false
set_option linter.unusedVariables false
namespace Go.Vx
open Go.RowKit

/-- All that a tree holds, a key being told as a + st * k. -/
def All {α : Type} (p : Nat → α → Prop) (T : Tr α) (a st : Nat) : Prop := ∀ k u, Tr.get T k = some u → p (a + st * k) u

theorem all_e {α : Type} {p : Nat → α → Prop} {a st : Nat} : All p .e a st := fun k u h => by rw [Tr.get_e] at h; simp at h

theorem all_n {α : Type} {p : Nat → α → Prop} {u : α} {x y : Tr α} {a st : Nat} (h0 : p a u) (hx : All p x (a + st) (2 * st)) (hy : All p y (a + 2 * st) (2 * st)) : All p (.n (some u) x y) a st := by
  intro k v h
  cases k with
  | zero =>
    rw [Tr.get_zero] at h
    obtain rfl := Option.some.inj h
    simpa using h0
  | succ j =>
    rw [Tr.get_succ] at h
    split at h
    · rename_i hj
      have := hx _ _ h
      have e : a + st + 2 * st * (j / 2) = a + st * (j + 1) := by
        have : j = 2 * (j / 2) := by omega
        generalize j / 2 = i at this ⊢
        subst this
        rw [Nat.mul_add, Nat.mul_comm 2 st, Nat.mul_assoc]
        omega
      rwa [e] at this
    · rename_i hj
      have := hy _ _ h
      have e : a + 2 * st + 2 * st * (j / 2) = a + st * (j + 1) := by
        have : j = 2 * (j / 2) + 1 := by omega
        generalize j / 2 = i at this ⊢
        subst this
        rw [Nat.mul_add, Nat.mul_add, Nat.mul_comm 2 st, Nat.mul_assoc]
        omega
      rwa [e] at this

theorem All.get {α : Type} {p : Nat → α → Prop} {T : Tr α} (h : All p T 0 1) {k : Nat} {u : α} (hk : Tr.get T k = some u) : p k u := by
  have := h k u hk
  simpa using this

def skC (P : Program) : List Field → List SK → Nat → Bool
  | [], [], _ => true
  | f :: fs, k :: ks, n => f.offset == n && f.name != "_" && (match P.underlying f.type, k with | some .string, .s => true | some (.int _), .i => true | some .bool, .b => true | _, _ => false) && skC P fs ks (n + 1)
  | _, _, _ => false

theorem skC_ok {P : Program} : ∀ {fs : List Field} {ks : List SK} {n : Nat}, skC P fs ks n = true →
    fs.map (·.offset) = List.range' n ks.length ∧ (∀ f ∈ fs, f.name ≠ "_") ∧ ∀ (i : Nat) (f : Field) (k : SK), fs[i]? = some f → ks[i]? = some k → ∃ d, P.underlying f.type = some d ∧ skD k d
  | [], [], n, h => by simp
  | [], k :: ks, n, h => by simp [skC] at h
  | f :: fs, [], n, h => by simp [skC] at h
  | f :: fs, k :: ks, n, h => by
    unfold skC at h
    simp only [Bool.and_eq_true] at h
    obtain ⟨⟨⟨h1, h2⟩, h3⟩, h4⟩ := h
    obtain ⟨i1, i2, i3⟩ := skC_ok h4
    refine ⟨?_, ?_, ?_⟩
    · rw [List.map_cons, List.length_cons, List.range'_succ, i1]
      congr 1
      simpa using h1
    · intro g hg
      rcases List.mem_cons.1 hg with rfl | hg
      · simpa using h2
      · exact i2 g hg
    · intro i g k' hg hk
      cases i with
      | zero =>
        simp only [List.getElem?_cons_zero, Option.some.injEq] at hg hk
        subst hg hk
        split at h3
        · rename_i e; exact ⟨_, e, trivial⟩
        · rename_i e; exact ⟨_, e, trivial⟩
        · rename_i e; exact ⟨_, e, trivial⟩
        · simp at h3
      | succ i => exact i3 i g k' (by simpa using hg) (by simpa using hk)

def skB (P : Program) (t : TypeId) (d : TypeDesc) (l : List SK) : Bool := (match d with | .struct fs => skC P fs.toList l 0 | _ => false) && !P.stoodInHeld t && !P.eqGuardType P.depth t

theorem skB_ok {P : Program} {t : TypeId} {d : TypeDesc} {l : List SK} (h : skB P t d l = true) : SkOk P t d l := by
  unfold skB at h
  simp only [Bool.and_eq_true, Bool.not_eq_true'] at h
  obtain ⟨⟨h1, h2⟩, h3⟩ := h
  refine ⟨?_, h2, h3⟩
  split at h1
  · rename_i fs
    obtain ⟨i1, i2, i3⟩ := skC_ok h1
    exact ⟨fs, rfl, by rw [List.range_eq_range']; exact i1, i2, i3⟩
  · simp at h1

def TyOk (P : Program) (t : Nat) (x : TI) : Prop := P.info? t = some x.i ∧ P.underlying t = some x.d ∧ ∀ l, x.sk = some l → SkOk P t x.d l
def FnOk (P : Program) (f : Nat) (g : Func) : Prop := P.funcs[f]? = some g ∧ ∀ c, g.body = some c → ∀ args w, (callFunc f args).run P w = .ok (.enter f args) w

theorem fn_none {P : Program} {f : Nat} {g : Func} (h1 : P.funcs[f]? = some g) (h2 : g.body = none) : FnOk P f g := ⟨h1, fun c h => by rw [h2] at h; cases h⟩
theorem ty_plain {P : Program} {t : Nat} {d : TypeDesc} {i : TypeInfo} (h1 : P.info? t = some i) (h2 : P.underlying t = some d) : TyOk P t ⟨d, i, none⟩ := ⟨h1, h2, fun _ h => by cases h⟩
theorem ty_sk {P : Program} {t : Nat} {d : TypeDesc} {i : TypeInfo} {l : List SK} (h1 : P.info? t = some i) (h2 : P.underlying t = some d) (h3 : skB P t d l = true) : TyOk P t ⟨d, i, some l⟩ := ⟨h1, h2, fun _ h => by obtain rfl := Option.some.inj h; exact skB_ok h3⟩

/-! ### Two functions of the library without a body -/

def indexByteY : List AV → Option AV
  | [.str s, .int .u8 (.ofNat n)] => match Nat.ble (Nat.succ n) 256 with
    | true => some (.int .i64 (indexFrom n 0 s))
    | false => none
  | _ => none

def countY : List AV → Option AV
  | [.str s, .int .u8 (.ofNat n)] => match Nat.ble (Nat.succ n) 256 with
    | true => some (.int .i64 (.ofNat (countOf n 0 s)))
    | false => none
  | _ => none

theorem beq_byte (b : UInt8) (n : Nat) (h : n < 256) : (b == n.toUInt8) = Nat.beq b.toNat n := by
  have e : n.toUInt8.toNat = n := by simp [Nat.toUInt8]; omega
  by_cases c : b.toNat = n
  · have : b = n.toUInt8 := by apply UInt8.toNat_inj.1; rw [e]; exact c
    rw [← this, beq_self_eq_true, c]
    exact (Nat.beq_refl n).symm
  · have h1 : Nat.beq b.toNat n = false := by
      cases h : Nat.beq b.toNat n
      · rfl
      · exact absurd (Nat.eq_of_beq_eq_true h) c
    rw [h1, beq_eq_false_iff_ne]
    intro h
    rw [h] at c
    exact c e

theorem indexFrom_eq (n : Nat) (hn : n < 256) : ∀ (l : List UInt8) (i : Nat), indexFrom n i l = if Lib.indexByte l n.toUInt8 = -1 then -1 else Lib.indexByte l n.toUInt8 + i
  | [], i => by simp [indexFrom, Lib.indexByte]
  | b :: l, i => by
    have ge := Lib.indexByte_ge l n.toUInt8
    unfold indexFrom Lib.indexByte
    rw [beq_byte b n hn]
    cases h : Nat.beq b.toNat n
    · simp only [Bool.false_eq_true, if_false]
      rw [indexFrom_eq n hn l (i + 1)]
      by_cases c : Lib.indexByte l n.toUInt8 = -1
      · simp [c]
      · have c' : (Lib.indexByte l n.toUInt8 == -1) = false := by simpa using c
        rw [if_neg c, c']
        simp only [Bool.false_eq_true, if_false]
        rw [if_neg (by omega)]
        omega
    · simp

theorem countOf_eq (n : Nat) (hn : n < 256) : ∀ (l : List UInt8) (i : Nat), countOf n i l = i + Lib.countByte l n.toUInt8
  | [], i => by simp [countOf, Lib.countByte]
  | b :: l, i => by
    unfold countOf
    have e : Lib.countByte (b :: l) n.toUInt8 = Lib.countByte l n.toUInt8 + if (b == n.toUInt8) = true then 1 else 0 := by
      unfold Lib.countByte; rw [List.count_cons]
    rw [e, beq_byte b n hn]
    cases h : Nat.beq b.toNat n
    · simp only [Bool.false_eq_true, if_false]
      rw [countOf_eq n hn l i]; omega
    · simp only [if_true]
      rw [countOf_eq n hn l (i + 1)]; omega

/-- What a function without a body comes to. -/
def ExtOk (P : Program) (f : FuncId) (p : List AV → Option AV) : Prop := ∀ args v, p args = some v → (∀ n, BndL n args → Bnd n v) ∧ ∀ R w, (callFunc f ⟨concL R args⟩).run P w = .ok (.value (conc R v)) w

theorem ext_index {P : Program} {f : FuncId} {fn : Func} (hf : P.funcs[f]? = some fn) (hname : (fn.name == "runtime.NumGoroutine") = false) (hb : fn.body.isNone = true) (hn : Extern.findNext fn = none) (he : Extern.find fn = some Extern.BytealgIndexByte.indexByte) : ExtOk P f indexByteY := by
  intro args v h
  unfold indexByteY at h
  split at h
  · rename_i s n
    split at h
    · rename_i hlt
      have hlt := Nat.le_of_ble_eq_true hlt
      obtain rfl := Option.some.inj h
      refine ⟨fun _ _ => by simp [Bnd], fun R w => ?_⟩
      rw [run_callFunc_extern hf hname hb hn he]
      have := Lib.run_indexByteString (P := P) ⟨⟨s⟩⟩ (.ofNat n) w
      simp only [concL, conc]
      rw [this]
      simp only [Result.andThen_ok]
      congr 2
      rw [indexFrom_eq n (by omega)]
      simp only [Int.ofNat_eq_natCast, Int.toNat_natCast]
      split
      · rename_i h; rw [h]
      · simp
    · simp at h
  · simp at h

theorem ext_count {P : Program} {f : FuncId} {fn : Func} (hf : P.funcs[f]? = some fn) (hname : (fn.name == "runtime.NumGoroutine") = false) (hb : fn.body.isNone = true) (hn : Extern.findNext fn = none) (he : Extern.find fn = some Extern.BytealgCount.count) : ExtOk P f countY := by
  intro args v h
  unfold countY at h
  split at h
  · rename_i s n
    split at h
    · rename_i hlt
      have hlt := Nat.le_of_ble_eq_true hlt
      obtain rfl := Option.some.inj h
      refine ⟨fun _ _ => by simp [Bnd], fun R w => ?_⟩
      rw [run_callFunc_extern hf hname hb hn he]
      have := Lib.run_countString (P := P) ⟨⟨s⟩⟩ (.ofNat n) w
      simp only [concL, conc]
      rw [this]
      simp only [Result.andThen_ok]
      congr 2
      rw [countOf_eq n (by omega)]
      simp
    · simp at h
  · simp at h

def bits64Y : List AV → Option AV
  | [.flt .f64 n] => some (.int .u64 (.ofNat n))
  | _ => none
def from64Y : List AV → Option AV
  | [.int .u64 (.ofNat n)] => some (.flt .f64 n)
  | _ => none
def sameY : List AV → Option AV
  | [v] => some v
  | _ => none

theorem ext_bits64 {P : Program} {f : FuncId} {fn : Func} (hf : P.funcs[f]? = some fn) (hname : (fn.name == "runtime.NumGoroutine") = false) (hb : fn.body.isNone = true) (hn : Extern.findNext fn = none) (he : Extern.find fn = some Extern.MathFloatBits.float64bits) : ExtOk P f bits64Y := by
  intro args v h
  unfold bits64Y at h
  split at h
  · rename_i n
    obtain rfl := Option.some.inj h
    refine ⟨fun _ _ => by simp [Bnd], fun R w => ?_⟩
    rw [run_callFunc_extern hf hname hb hn he]
    rfl
  · simp at h

theorem ext_from64 {P : Program} {f : FuncId} {fn : Func} (hf : P.funcs[f]? = some fn) (hname : (fn.name == "runtime.NumGoroutine") = false) (hb : fn.body.isNone = true) (hn : Extern.findNext fn = none) (he : Extern.find fn = some Extern.MathFloatBits.float64frombits) : ExtOk P f from64Y := by
  intro args v h
  unfold from64Y at h
  split at h
  · rename_i n
    obtain rfl := Option.some.inj h
    refine ⟨fun _ _ => by simp [Bnd], fun R w => ?_⟩
    rw [run_callFunc_extern hf hname hb hn he]
    rfl
  · simp at h

theorem ext_same {P : Program} {f : FuncId} {fn : Func} (hf : P.funcs[f]? = some fn) (hname : (fn.name == "runtime.NumGoroutine") = false) (hb : fn.body.isNone = true) (hn : Extern.findNext fn = none) (he : Extern.find fn = some Extern.AbiNoEscape.same) : ExtOk P f sameY := by
  intro args v h
  unfold sameY at h
  split at h
  · rename_i u
    obtain rfl := Option.some.inj h
    refine ⟨fun n hn => hn.1, fun R w => ?_⟩
    rw [run_callFunc_extern hf hname hb hn he]
    rfl
  · simp at h

def cmpX : List UInt8 → List UInt8 → Int
  | [], [] => 0
  | [], _ :: _ => -1
  | _ :: _, [] => 1
  | a :: x, b :: y => match Nat.ble (Nat.succ a.toNat) b.toNat with
    | true => -1
    | false => match Nat.ble (Nat.succ b.toNat) a.toNat with
      | true => 1
      | false => cmpX x y
def cmpY : List AV → Option AV
  | [.str a, .str b] => some (.int .i64 (cmpX a b))
  | _ => none

theorem cmpX_eq : ∀ (a b : List UInt8), cmpX a b = Lib.compareBytes a b
  | [], [] => rfl
  | [], _ :: _ => rfl
  | _ :: _, [] => rfl
  | a :: x, b :: y => by
    have hab : ∀ (a b : UInt8), Nat.ble (Nat.succ a.toNat) b.toNat = decide (a < b) := fun a b => by
      rw [Bool.eq_iff_iff, Nat.ble_eq, decide_eq_true_eq, UInt8.lt_iff_toNat_lt]; exact Iff.rfl
    unfold cmpX Lib.compareBytes
    rw [hab a b, hab b a, cmpX_eq x y]
    by_cases c : a < b
    · simp [c]
    · by_cases d : b < a
      · simp [c, d]
      · simp [c, d]

theorem ext_cmp {P : Program} {f : FuncId} {fn : Func} (hf : P.funcs[f]? = some fn) (hname : (fn.name == "runtime.NumGoroutine") = false) (hb : fn.body.isNone = true) (hn : Extern.findNext fn = none) (he : Extern.find fn = some Extern.BytealgCompare.compare) : ExtOk P f cmpY := by
  intro args v h
  unfold cmpY at h
  split at h
  · rename_i a b
    obtain rfl := Option.some.inj h
    refine ⟨fun _ _ => by simp [Bnd], fun R w => ?_⟩
    rw [run_callFunc_extern hf hname hb hn he]
    have := Lib.run_compareString (P := P) ⟨⟨a⟩⟩ ⟨⟨b⟩⟩ w
    simp only [concL, conc]
    rw [this, cmpX_eq]
    rfl
  · simp at h

theorem nz_ok {P : Program} {f : FuncId} {fn : Func} {ps : Array TypeId} {t e : TypeId} (hf : P.funcs[f]? = some fn) (hname : (fn.name == "runtime.NumGoroutine") = false) (hb : fn.body.isNone = true) (hn : Extern.findNext fn = none)
    (he : Extern.find fn = some (Extern.BytealgMakeNoZero.makeNoZero ps #[t])) (ht : P.underlying t = some (.slice e)) : NzOk P f e := by
  intro n w hle
  obtain ⟨cs, h1, h2, _⟩ := Lib.run_makeNoZero (P := P) w ps t e ht n (by omega)
  refine ⟨cs, w.drawn + 1 + 1, h2, ?_⟩
  rw [run_callFunc_extern hf hname hb hn he]
  have h1 : (Extern.BytealgMakeNoZero.makeNoZero ps #[t] ⟨[.int .i64 (Int.ofNat n)]⟩).run P w = _ := h1
  rw [h1]
  rfl

/-- The environment of a program. -/
noncomputable def mkE (tyT : Tr TI) (fnT : Tr Func) (ext : Nat → Option (List AV → Option AV)) (G : Nat) (mth : Nat → String → Option FuncId) (nz : Nat → Option TypeId) : Env := { ty := fun t => Tr.get tyT t, fn := fun f => Tr.get fnT f, ext, G, mth, nz }

/-- An environment in which of some functions only that is known. -/
noncomputable def sumE (E : Env) (fs : List Nat) (q : Nat → Option (List AV → St → Option (AV × St))) : Env := { E with fn := fun f => match fs.any (Nat.beq f) with | true => none | false => E.fn f, sum := q }

theorem sumE_ok {P : Program} {E : Env} (h : E.Ok P) {fs : List Nat} {q : Nat → Option (List AV → St → Option (AV × St))} (hq : ∀ f p, q f = some p → SumOk P E.G f p) : (sumE E fs q).Ok P where
  ty := h.ty
  fn f g hg := by
    have hg : (match fs.any (Nat.beq f) with | true => none | false => E.fn f) = some g := hg
    split at hg
    · simp at hg
    · exact h.fn f g hg
  call f g c hg := by
    have hg : (match fs.any (Nat.beq f) with | true => none | false => E.fn f) = some g := hg
    split at hg
    · simp at hg
    · exact h.call f g c hg
  ext := h.ext
  nz := h.nz
  sum := hq
  mixed := h.mixed
  mth := h.mth

/-- A method of a type's own, called through an interface: the receiver stays as it is. -/
def MthOk (P : Program) (t : Nat) (m : String) (f : FuncId) : Prop := ∀ v w, (method (P.types.size + Made.depth) t v m).run P w = .ok (f, v) w

theorem mth_value {P : Program} {t : Nat} {m : String} {f : FuncId} {i : TypeInfo} {d : TypeDesc} {r : Go.Method} (h1 : P.info? t = some i) (h2 : i.methods.find? (·.name == m) = some r) (h3 : r.path = #[]) (h4 : r.func = some (f, false)) (h5 : P.underlying t = some d) (h6 : ∀ e, d ≠ .pointer e) : MthOk P t m f := by
  intro v w
  have h0 : 0 < Made.depth := by decide
  have e : P.types.size + Made.depth = (P.types.size + Made.depth - 1) + 1 := by omega
  rw [e]
  unfold method
  simp only [Sem.run_bind, typeInfo, run_program, h1, Result.andThen_ok, h2, h3, h4, Sem.run_pure, follow, receiverAt, underlying, h5]
  cases d <;> first
    | exact absurd rfl (h6 _)
    | rfl


def mthB (P : Program) (t : Nat) (m : String) (f : FuncId) : Bool := match P.info? t, P.underlying t with
  | some i, some d => (match i.methods.find? (·.name == m) with
    | some r => r.path.isEmpty && (match r.func with | some (g, false) => g == f | _ => false)
    | none => false) && (match d with | .pointer _ => false | _ => true)
  | _, _ => false

theorem mth_ok {P : Program} {t : Nat} {m : String} {f : FuncId} (h : mthB P t m f = true) : MthOk P t m f := by
  unfold mthB at h
  split at h
  · rename_i i d h1 h5
    simp only [Bool.and_eq_true] at h
    obtain ⟨h2, h6⟩ := h
    split at h2
    · rename_i r hr
      simp only [Bool.and_eq_true] at h2
      obtain ⟨h3, h4⟩ := h2
      split at h4
      · rename_i g hg
        have : g = f := by simpa using h4
        subst this
        exact mth_value h1 hr (by simpa using h3) hg h5 (fun e he => by subst he; simp at h6)
      · simp at h4
    · simp at h2
  · simp at h

theorem mkE_ok {P : Program} {tyT : Tr TI} {fnT : Tr Func} {ext : Nat → Option (List AV → Option AV)} {G : Nat} (h1 : All (TyOk P) tyT 0 1) (h2 : All (FnOk P) fnT 0 1) (h3 : ∀ f p, ext f = some p → ExtOk P f p) (h4 : P.follows .mixedOrders = true) {mth : Nat → String → Option FuncId} (h5 : ∀ t m f, mth t m = some f → MthOk P t m f) {nz : Nat → Option TypeId} (h6 : ∀ f e, nz f = some e → NzOk P f e) : (mkE tyT fnT ext G mth nz).Ok P where
  ty _ _ h := h1.get h
  fn _ _ h := (h2.get h).1
  call _ _ c h hc := (h2.get h).2 c hc
  ext := h3
  nz := h6
  sum _ _ h := by cases h
  mixed := h4
  mth := h5

/-! ### A law that needs no heap: its answer is true -/

def isT : Option (AV × St) → Bool
  | some (.bool true, _) => true
  | _ => false

theorem isT_some {o : Option (AV × St)} (h : isT o = true) : ∃ s, o = some (.bool true, s) := by
  unfold isT at h
  split at h
  · exact ⟨_, rfl⟩
  · simp at h

/-- Names that stand for the blocks of the same number, and unknown values. -/
def renOf (l : List Value) (h : ∀ v ∈ l, isCell v) : Ren where
  blk := id
  cap := fun _ => 0
  opq := fun i => l.getD i (.string ⟨⟨[]⟩⟩)
  cell := fun i => by
    by_cases c : i < l.length
    · have e : l.getD i (.string ⟨⟨[]⟩⟩) = l[i] := by simp [List.getD, List.getElem?_eq_getElem c]
      rw [e]; exact h _ (List.getElem_mem c)
    · have e : l.getD i (.string ⟨⟨[]⟩⟩) = .string ⟨⟨[]⟩⟩ := by simp [List.getD, List.getElem?_eq_none (Nat.le_of_not_lt c)]
      rw [e]; trivial

theorem rel_empty (R : Ren) {G : Nat} (hG : G ≤ lim) (w : World) : Rel R { H := .e, nx := G } w where
  live n o h := by have h : Tr.get (.e : Tr AO) n = some o := h; rw [Tr.get_e] at h; simp at h
  inj n m o o' h := by have h : Tr.get (.e : Tr AO) n = some o := h; rw [Tr.get_e] at h; simp at h
  bnd n o h := by have h : Tr.get (.e : Tr AO) n = some o := h; rw [Tr.get_e] at h; simp at h
  lim := hG

/-- A run from an empty heap that comes to true: it does so in every world, and turns nothing that was there. -/
theorem told_true {E : Env} {P : Program} (hE : E.Ok P) (d lf : Nat) {G : Nat} (hEG : E.G = G) (hG : G ≤ lim) {f : FuncId} {fn : Func} {c : Code} {args : List AV} (hf : E.fn f = some fn) (hb : fn.body = some c) (h : isT (callX (d + 1) E lf G f args { H := .e, nx := G }) = true)
    (l : List Value) (hl : ∀ v ∈ l, isCell v) (hargs : BndL G args) (w : World) : Calls P f ⟨concL (renOf l hl) args⟩ w fun e w' => e = .returned (.bool true) ∧ Below w.heap.size w w' := by
  obtain ⟨s', hs⟩ := isT_some h
  refine (run_told hE d lf G hf hb hs (rel_empty (renOf l hl) hG w) hargs (Nat.le_refl _) (fun g hg => ⟨rfl, by rw [← hEG]; exact hg⟩)).mono fun e w' hh => ?_
  obtain ⟨R', rfl, h1, h2, h3⟩ := hh
  refine ⟨rfl, h2.os, h2.tape, h2.output, h2.size, fun k hk => h2.frame k hk fun n o hn hget => ?_⟩
  have hget : Tr.get (.e : Tr AO) n = some o := hget
  rw [Tr.get_e] at hget
  simp at hget

end Go.Vx
