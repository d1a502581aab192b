/-
  A run told in advance, part twenty-nine: a piece of code that stands in a round of a range over a function; the range itself, where its iterator's contract is known. No condition.
-/
import Derived.Test.YtpcgcghhddnifaaGreatDoorVxZc
import Derived.OrdersIn
import Derived.LoopNIn
import Derived.RangeFuncFrom
import Derived.RangeFuncLeaves
set_option linter.unusedSectionVars false
set_option linter.unusedSimpArgs false
set_option linter.unusedVariables false
namespace Go.Vx
open Go.RowKit

/-! ### From the plain words to those within a round -/

def fen : Option Nat → Fence
  | none => Fence.wide
  | some l => Fence.wide.inRound l

theorem fen_fn (r : Option Nat) (g : FuncId) : (fen r).fn g := by cases r <;> exact trivial
theorem fen_depth (r : Option Nat) : (fen r).depth = none := by cases r <;> rfl
theorem fen_round (r : Option Nat) : (fen r).round = r := by cases r <;> rfl

theorem callsIn_fen {r : Option Nat} {n : Nat} {P : Program} {f : FuncId} {args : Array Value} {w : World} {R : Ending → World → Prop} (h : Calls P f args w R) : CallsIn (fen r) n P f args w R := by
  cases r with
  | none => exact callsIn_wide.2 h
  | some l => exact (callsIn_wide.2 h : CallsIn Fence.wide n P f args w R)

theorem rowsIn_fen {r : Option Nat} {n : Nat} {P : Program} {row : String} {args : Array Value} {w : World} {R : Value → World → Prop} (h : Rows P row args w R) : RowsIn (fen r) n P row args w R := by
  intro c cs _
  obtain ⟨v, w', h1, h2⟩ := h c cs
  refine ⟨v, w', h1, ?_⟩
  cases r with
  | none => exact stepsIn_wide.2 h2
  | some l => exact stepsIn_wide.2 h2

def notDefer (o : Oper) : Bool := match o.op with
  | .defer _ => false
  | _ => true

theorem notDefer_ne {o : Oper} (h : notDefer o = true) : ∀ c, o.op ≠ .defer c := by
  intro c e
  unfold notDefer at h
  rw [e] at h
  simp at h

theorem oper_in {r : Option Nat} {n : Nat} {P : Program} {o : Oper} {a : Act} {w : World} {K : Act → World → Prop} {Q : Exit → Act → World → Prop} (hd : notDefer o = true) (hQ : ¬ LetsOut Q) (h : o.wp P a w K Q) : o.wpIn (fen r) n P a w K Q := by
  refine ⟨fun g _ => fen_fn r g, ?_⟩
  rw [fen_round, Oper.semAt_eq _ _ _ (notDefer_ne hd)]
  unfold Oper.wp at h
  generalize Sem.run P (execOp a.eval o) w = x at *
  cases x with
  | ok v w' =>
    cases v with
    | enter f args =>
      refine ⟨fun hh => ?_, callsIn_fen (Calls.mono h fun e w'' he => ?_)⟩
      · rw [fen_depth] at hh; simp at hh
      · cases e <;> exact he
    | row row args =>
      refine ⟨fun hh => ?_, rowsIn_fen h⟩
      rw [fen_depth] at hh; simp at hh
    | _ => first | exact h | exact h.elim
  | halt x w' =>
    cases x <;> first | exact h | exact h.elim

theorem ops_in {r : Option Nat} {n : Nat} {P : Program} {ops : Array Oper} {Q : Exit → Act → World → Prop} (hd : ops.toList.all notDefer = true) (hQ : ¬ LetsOut Q) : ∀ (l : List Nat) (a : Act) (w : World), wpOps P ops Q l a w → wpOpsIn (fen r) n P ops Q l a w
  | [], a, w, h => h
  | i :: l, a, w, h => by
    unfold wpOps at h
    unfold wpOpsIn
    split at h
    · rename_i hi
      simp only [hi]
      exact ops_in hd hQ l a w h
    · rename_i o hi
      simp only [hi]
      have ho : notDefer o = true := List.all_eq_true.1 hd o (by rw [← Array.getElem?_toList] at hi; exact List.mem_of_getElem? hi)
      split at h
      · rename_i hw
        rw [if_pos hw]
        rcases h with h | ⟨_, h⟩
        · exact oper_in ho hQ (Oper.wp_mono (fun a w h => ops_in hd hQ l a w h) h)
        · exact absurd h hQ
      · rename_i hw
        rw [if_neg hw]
        exact ⟨fun g _ => fen_fn r g, ops_in hd hQ l _ w h⟩

theorem any_in {r : Option Nat} {n : Nat} {P : Program} {md : Region.Mode} {ops : Array Oper} {Q : Exit → Act → World → Prop} (hd : ops.toList.all notDefer = true) (hQ : ¬ LetsOut Q) : ∀ (fuel : Nat) (listed : Array Bool) (a : Act) (w : World), wpAny P md ops Q fuel listed a w → wpAnyIn (fen r) n P md ops Q fuel listed a w
  | 0, listed, a, w, h => h
  | fuel + 1, listed, a, w, h => by
    refine ⟨h.1, fun i hi => ?_⟩
    have h := h.2 i hi
    unfold wpOp at h
    unfold wpOpIn
    split at h
    · rename_i hi
      simp only [hi]
      exact any_in hd hQ fuel _ a w h
    · rename_i o hi
      simp only [hi]
      have ho : notDefer o = true := List.all_eq_true.1 hd o (by rw [← Array.getElem?_toList] at hi; exact List.mem_of_getElem? hi)
      split at h
      · rename_i hw
        rw [if_pos hw]
        rcases h with h | ⟨_, h⟩
        · exact oper_in ho hQ (Oper.wp_mono (fun a w h => any_in hd hQ fuel _ a w h) h)
        · exact absurd h hQ
      · rename_i hw
        rw [if_neg hw]
        exact ⟨fun g _ => fen_fn r g, any_in hd hQ fuel _ _ w h⟩

end Go.Vx
set_option linter.unusedSectionVars false
set_option linter.unusedSimpArgs false
set_option linter.unusedVariables false
namespace Go.Vx
open Go.RowKit

abbrev RgX := Operand → Array Tmp → (Fr → St → Out) → (Fr → St → Out) → Fr → St → Out

def noOut (_ : Fr) (_ : St) : Out := none
def noDefers (ops : List Oper) : Bool := ops.all notDefer

noncomputable def codeR (c : Code) : RgX → Env → CallX → Nat → Nat → Bool → Fr → St → Out :=
  Code.rec (motive := fun _ => RgX → Env → CallX → Nat → Nat → Bool → Fr → St → Out)
    (fun _ _ _ _ _ _ f s => some (.normal, f, s))
    (fun _ ops draw _ E call lo _ _ f s => match noDefers ops.toList with
      | true => regionX (Bool.rec (motive := fun _ => Option (Fr × St)) (opsX ops.toList E call lo ops.toList f s) (drawX ops.toList E call lo f s) draw)
      | false => none)
    (fun _ _ ra rb rg E call lo lf i f s => seqX (ra rg E call lo lf i f s) (rb rg E call lo lf i))
    (fun c _ _ ra rb rg E call lo lf i f s => condX (evX c f) (ra rg E call lo lf i) (rb rg E call lo lf i) f s)
    (fun id _ r rg E call lo lf i f s => blockX id (r rg E call lo lf i f s))
    (fun _ r rg E call lo lf i f s => loopN lf (r rg E call lo lf i) f s)
    (fun g ps _ _ ra rb rg E call lo lf i f s => match i with
      | true => none
      | false => rg g ps (ra rg E call lo lf true) (rb rg E call lo lf true) f s)
    (fun id _ _ _ _ _ _ f s => some (.exit id, f, s))
    (fun _ _ _ _ _ _ _ _ f s => noOut f s)
    (fun _ _ _ _ _ _ _ f s => some (.normal, f, s))
    (fun _ _ _ _ _ _ _ f s => noOut f s)
    (fun _ _ _ _ _ _ f s => some (.ret, f, s))
    (fun _ _ _ _ _ _ _ f s => noOut f s) c

def markD (D : Nat) : Deferred := { target := .collected D, args := #[] }
def Marks (B : Nat) (w : World) (ds dl : List Deferred) : Prop := ∃ ms : List Nat, dl = ms.map markD ++ ds ∧ ms.Nodup ∧ ∀ D ∈ ms, B ≤ D ∧ w.heap[D]? = some (.deferred (some []))

theorem Marks.none_ (B : Nat) (w : World) (ds : List Deferred) : Marks B w ds ds := ⟨[], rfl, List.nodup_nil, fun D hD => by simp at hD⟩

theorem Mv.strange {lo : Nat} {R R' : Ren} {s s' : St} {w w' : World} (h : Mv lo R s w R' s' w') (hR : Rel R s w) {D : Nat} {x : Obj} (hx : w.heap[D]? = some x) (hn : ∀ o, ¬ ORel R o x) : w'.heap[D]? = some x := by
  rw [h.frame D (Array.getElem?_eq_some_iff.1 hx).1 fun n o _ hg e => ?_]
  · exact hx
  · obtain ⟨y, hy, hr⟩ := hR.live n o hg
    rw [e, hx] at hy
    obtain rfl := Option.some.inj hy
    exact hn o hr

theorem deferred_strange (R : Ren) (l : Option (List Deferred)) : ∀ o, ¬ ORel R o (.deferred l) := fun o h => by
  cases o with
  | row l e k => cases k <;> simp [ORel] at h
  | _ => simp [ORel] at h

theorem loop_strange (R : Ren) (l : Loop) : ∀ o, ¬ ORel R o (.loop l) := fun o h => by
  cases o with
  | row l e k => cases k <;> simp [ORel] at h
  | _ => simp [ORel] at h

def EndsM (E : Env) (lo : Nat) (R : Ren) (s : St) (w : World) (ds : List Deferred) (e : Ex) (f' : Fr) (s' : St) : Exit → Act → World → Prop := fun e' a' w' =>
  e' = exOf e ∧ ∃ R', Rel R' s' w' ∧ Mv lo R s w R' s' w' ∧ FrOk R' s'.nx f' a' ∧ f'.G = E.G ∧ Marks w.heap.size w' ds a'.defers

theorem EndsM.out {E : Env} {lo : Nat} {R : Ren} {s : St} {w : World} {ds : List Deferred} {e : Ex} {f' : Fr} {s' : St} : ¬ LetsOut (EndsM E lo R s w ds e f' s') := by
  rintro ⟨a, w, h, _⟩
  cases e <;> simp [exOf] at h

theorem EndsM.trans {E : Env} {lo : Nat} {R R1 : Ren} {s s1 : St} {w w1 : World} {ds ds1 : List Deferred} {e : Ex} {f' : Fr} {s' : St} {e' : Exit} {a' : Act} {w' : World} (hR : Rel R1 s1 w1) (hm : Mv lo R s w R1 s1 w1) (hds : Marks w.heap.size w1 ds ds1)
    (h : EndsM E lo R1 s1 w1 ds1 e f' s' e' a' w') : EndsM E lo R s w ds e f' s' e' a' w' := by
  obtain ⟨h1, R', h2, h3, h4, h5, ms, h6, hnd, h7⟩ := h
  obtain ⟨ms1, g6, gnd, g7⟩ := hds
  refine ⟨h1, R', h2, hm.trans h3, h4, h5, ms ++ ms1, by rw [h6, g6, List.map_append, List.append_assoc], List.nodup_append.2 ⟨hnd, gnd, fun x hx y hy e => ?_⟩, fun D hD => ?_⟩
  · subst e
    have a1 := (h7 x hx).1
    have a2 := (Array.getElem?_eq_some_iff.1 (g7 x hy).2).1
    omega
  · rcases List.mem_append.1 hD with q | q
    · exact ⟨Nat.le_trans hm.size (h7 D q).1, (h7 D q).2⟩
    · exact ⟨(g7 D q).1, h3.strange hR (g7 D q).2 (deferred_strange _ _)⟩

def CodeRk (P : Program) (E : Env) (lo n : Nat) (r : Option Nat) (k : Fr → St → Out) (c : Code) : Prop :=
  ∀ f s a w R e f' s', k f s = some (e, f', s') → Rel R s w → FrOk R s.nx f a → f.G = E.G → lo ≤ s.nx → c.wpIn (fen r) n P (EndsM E lo R s w a.defers e f' s') a w

def RgOk (P : Program) (E : Env) (lo : Nat) (rg : RgX) : Prop := ∀ n g ps ra rb assign body, (∀ l m, CodeRk P E lo m (some l) ra assign) → (∀ l m, CodeRk P E lo m (some l) rb body) → CodeRk P E lo n none (rg g ps ra rb) (.rangeFunc g ps assign body)

section
variable {E : Env} {P : Program} (hE : E.Ok P) {call : CallX} (hcall : CallOk P E call)

theorem roundsR_ok {lo n : Nat} {r : Option Nat} {c : Code} {k : Fr → St → Out} (hc : CodeRk P E lo n r k c) {e : Ex} {f' : Fr} {s' : St} : ∀ (m : Nat) (f : Fr) (s : St) (a : Act) (w : World) (R : Ren), loopN m k f s = some (e, f', s') → Rel R s w → FrOk R s.nx f a → f.G = E.G → lo ≤ s.nx →
    Code.roundsIn (fen r) n P c (EndsM E lo R s w a.defers e f' s') m a w
  | 0, f, s, a, w, R, h, _, _, _, _ => by
    have h : (none : Out) = some (e, f', s') := h
    simp at h
  | m + 1, f, s, a, w, R, h, hR, hF, hG, hlo => by
    rw [roundsIn_succ]
    have h : seqX (k f s) (loopN m k) = some (e, f', s') := h
    cases hr : k f s with
    | none => rw [hr] at h; simp [seqX] at h
    | some x =>
      obtain ⟨e2, f2, s2⟩ := x
      rw [hr] at h
      refine wpIn_mono (hc f s a w R e2 f2 s2 hr hR hF hG hlo) fun e3 a3 w3 h3 => ?_
      obtain ⟨rfl, R3, g2, g3, g4, g5, g6⟩ := h3
      cases e2 with
      | normal =>
        have h : loopN m k f2 s2 = some (e, f', s') := h
        have := roundsR_ok hc m f2 s2 a3 w3 R3 h g2 g4 g5 (Nat.le_trans hlo g3.nx)
        have gen : ∀ m a4 w4, Code.roundsIn (fen r) n P c (EndsM E lo R3 s2 w3 a3.defers e f' s') m a4 w4 → Code.roundsIn (fen r) n P c (EndsM E lo R s w a.defers e f' s') m a4 w4 := by
          intro m
          induction m with
          | zero => intro a4 w4 h; exact h
          | succ m ih =>
            intro a4 w4 h
            rw [roundsIn_succ] at h ⊢
            refine wpIn_mono h fun e5 a5 w5 h5 => ?_
            cases e5 <;> first
              | exact ih _ _ h5
              | exact EndsM.trans g2 g3 g6 h5
        exact gen m a3 w3 this
      | exit id =>
        obtain ⟨rfl, h2⟩ := Prod.mk.inj (Option.some.inj (show some (Ex.exit id, f2, s2) = some (e, f', s') from h))
        obtain ⟨rfl, rfl⟩ := Prod.mk.inj h2
        exact ⟨rfl, R3, g2, g3, g4, g5, g6⟩
      | goto l =>
        obtain ⟨rfl, h2⟩ := Prod.mk.inj (Option.some.inj (show some (Ex.goto l, f2, s2) = some (e, f', s') from h))
        obtain ⟨rfl, rfl⟩ := Prod.mk.inj h2
        exact ⟨rfl, R3, g2, g3, g4, g5, g6⟩
      | ret =>
        obtain ⟨rfl, h2⟩ := Prod.mk.inj (Option.some.inj (show some (Ex.ret, f2, s2) = some (e, f', s') from h))
        obtain ⟨rfl, rfl⟩ := Prod.mk.inj h2
        exact ⟨rfl, R3, g2, g3, g4, g5, g6⟩

include hE hcall in
theorem codeR_ok {lo : Nat} {rg : RgX} (hrg : RgOk P E lo rg) (lf n : Nat) (r : Option Nat) : ∀ c, CodeRk P E lo n r (codeR c rg E call lo lf r.isSome) c
  | .skip => fun f s a w R e f' s' h hR hF hG hlo => by
    obtain ⟨rfl, h2⟩ := Prod.mk.inj (Option.some.inj (show some (Ex.normal, f, s) = some (e, f', s') from h))
    obtain ⟨rfl, rfl⟩ := Prod.mk.inj h2
    exact wpIn_skip ⟨rfl, R, hR, Mv.refl _ _ _ _, hF, hG, Marks.none_ _ _ _⟩
  | .label l => fun f s a w R e f' s' h hR hF hG hlo => by
    obtain ⟨rfl, h2⟩ := Prod.mk.inj (Option.some.inj (show some (Ex.normal, f, s) = some (e, f', s') from h))
    obtain ⟨rfl, rfl⟩ := Prod.mk.inj h2
    exact wpIn_label ⟨rfl, R, hR, Mv.refl _ _ _ _, hF, hG, Marks.none_ _ _ _⟩
  | .exit id => fun f s a w R e f' s' h hR hF hG hlo => by
    obtain ⟨rfl, h2⟩ := Prod.mk.inj (Option.some.inj (show some (Ex.exit id, f, s) = some (e, f', s') from h))
    obtain ⟨rfl, rfl⟩ := Prod.mk.inj h2
    exact wpIn_exit ⟨rfl, R, hR, Mv.refl _ _ _ _, hF, hG, Marks.none_ _ _ _⟩
  | .ret => fun f s a w R e f' s' h hR hF hG hlo => by
    obtain ⟨rfl, h2⟩ := Prod.mk.inj (Option.some.inj (show some (Ex.ret, f, s) = some (e, f', s') from h))
    obtain ⟨rfl, rfl⟩ := Prod.mk.inj h2
    exact wpIn_ret ⟨rfl, R, hR, Mv.refl _ _ _ _, hF, hG, Marks.none_ _ _ _⟩
  | .rangeFunc g ps x y => fun f s a w R e f' s' h hR hF hG hlo => by
    cases r with
    | some l =>
      have h : (none : Out) = some (e, f', s') := h
      simp at h
    | none =>
      have h : rg g ps (codeR x rg E call lo lf true) (codeR y rg E call lo lf true) f s = some (e, f', s') := h
      exact hrg n g ps _ _ x y (fun l m => codeR_ok hrg lf m (some l) x) (fun l m => codeR_ok hrg lf m (some l) y) f s a w R e f' s' h hR hF hG hlo
  | .goto l => fun f s a w R e f' s' h => by
    have h : (none : Out) = some (e, f', s') := h
    simp at h
  | .refuse _ => fun f s a w R e f' s' h => by
    have h : (none : Out) = some (e, f', s') := h
    simp at h
  | .scope _ => fun f s a w R e f' s' h => by
    have h : (none : Out) = some (e, f', s') := h
    simp at h
  | .region id ops draw => fun f s a w R e f' s' h hR hF hG hlo => by
    have h : (match noDefers ops.toList with | true => regionX (Bool.rec (motive := fun _ => Option (Fr × St)) (opsX ops.toList E call lo ops.toList f s) (drawX ops.toList E call lo f s) draw) | false => none) = some (e, f', s') := h
    split at h
    · rename_i hnd
      cases draw with
      | false =>
        have h : regionX (opsX ops.toList E call lo ops.toList f s) = some (e, f', s') := h
        cases ho : opsX ops.toList E call lo ops.toList f s with
        | none => rw [ho] at h; simp [regionX] at h
        | some x =>
          obtain ⟨f1, s1⟩ := x
          rw [ho] at h
          obtain ⟨rfl, h2⟩ := Prod.mk.inj (Option.some.inj (show some (Ex.normal, f1, s1) = some (e, f', s') from h))
          obtain ⟨rfl, rfl⟩ := Prod.mk.inj h2
          refine wpIn_region (ops_in hnd EndsM.out _ _ _ ?_)
          have := opsX_ok (P := P) hE hcall (ops := ops) (lo := lo) (Q := EndsM E lo R s w a.defers .normal f1 s1) ops.toList 0 f s a w R rfl ho hR hF hG hlo fun R' a' w' g1 g2 g3 g4 g5 => ⟨rfl, R', g1, g2, g3, g4, by rw [g5]; exact Marks.none_ _ _ _⟩
          rw [show List.range ops.size = List.range' 0 ops.toList.length by rw [List.range_eq_range']; simp]
          exact this
      | true =>
        have h : regionX (drawX ops.toList E call lo f s) = some (e, f', s') := h
        cases ho : drawX ops.toList E call lo f s with
        | none => rw [ho] at h; simp [regionX] at h
        | some x =>
          obtain ⟨f1, s1⟩ := x
          rw [ho] at h
          obtain ⟨rfl, h2⟩ := Prod.mk.inj (Option.some.inj (show some (Ex.normal, f1, s1) = some (e, f', s') from h))
          obtain ⟨rfl, rfl⟩ := Prod.mk.inj h2
          refine wpIn_region_any hE.mixed (any_in hnd EndsM.out _ _ _ _ ?_)
          exact drawX_ok (P := P) hE hcall (Q := EndsM E lo R s w a.defers .normal f1 s1) ho (hR.drawn _) hF hG hlo fun R' a' w' g1 g2 g3 g4 g5 => ⟨rfl, R', g1, (Mv.drawn _).trans g2, g3, g4, by rw [g5]; exact Marks.none_ _ _ _⟩
    · simp at h
  | .seq x y => fun f s a w R e f' s' h hR hF hG hlo => by
    have h : seqX (codeR x rg E call lo lf r.isSome f s) (codeR y rg E call lo lf r.isSome) = some (e, f', s') := h
    cases hx : codeR x rg E call lo lf r.isSome f s with
    | none => rw [hx] at h; simp [seqX] at h
    | some z =>
      obtain ⟨e1, f1, s1⟩ := z
      rw [hx] at h
      refine wpIn_seq (wpIn_mono (codeR_ok hrg lf n r x f s a w R e1 f1 s1 hx hR hF hG hlo) fun e3 a3 w3 h3 => ?_)
      obtain ⟨rfl, R3, g2, g3, g4, g5, g6⟩ := h3
      cases e1 with
      | normal =>
        have h : codeR y rg E call lo lf r.isSome f1 s1 = some (e, f', s') := h
        exact wpIn_mono (codeR_ok hrg lf n r y f1 s1 a3 w3 R3 e f' s' h g2 g4 g5 (Nat.le_trans hlo g3.nx)) fun e5 a5 w5 h5 => EndsM.trans g2 g3 g6 h5
      | exit id =>
        obtain ⟨rfl, h2⟩ := Prod.mk.inj (Option.some.inj (show some (Ex.exit id, f1, s1) = some (e, f', s') from h))
        obtain ⟨rfl, rfl⟩ := Prod.mk.inj h2
        exact ⟨rfl, R3, g2, g3, g4, g5, g6⟩
      | goto l =>
        obtain ⟨rfl, h2⟩ := Prod.mk.inj (Option.some.inj (show some (Ex.goto l, f1, s1) = some (e, f', s') from h))
        obtain ⟨rfl, rfl⟩ := Prod.mk.inj h2
        exact ⟨rfl, R3, g2, g3, g4, g5, g6⟩
      | ret =>
        obtain ⟨rfl, h2⟩ := Prod.mk.inj (Option.some.inj (show some (Ex.ret, f1, s1) = some (e, f', s') from h))
        obtain ⟨rfl, rfl⟩ := Prod.mk.inj h2
        exact ⟨rfl, R3, g2, g3, g4, g5, g6⟩
  | .cond c x y => fun f s a w R e f' s' h hR hF hG hlo => by
    have h : condX (evX c f) (codeR x rg E call lo lf r.isSome) (codeR y rg E call lo lf r.isSome) f s = some (e, f', s') := h
    unfold condX at h
    split at h
    · rename_i hc
      exact wpIn_cond_true (hF.ev hc).1 (codeR_ok hrg lf n r x f s a w R e f' s' h hR hF hG hlo)
    · rename_i hc
      exact wpIn_cond_false (hF.ev hc).1 (codeR_ok hrg lf n r y f s a w R e f' s' h hR hF hG hlo)
    · simp at h
  | .block id c => fun f s a w R e f' s' h hR hF hG hlo => by
    have h : blockX id (codeR c rg E call lo lf r.isSome f s) = some (e, f', s') := h
    cases hx : codeR c rg E call lo lf r.isSome f s with
    | none => rw [hx] at h; simp [blockX] at h
    | some z =>
      obtain ⟨e1, f1, s1⟩ := z
      rw [hx] at h
      refine wpIn_block (wpIn_mono (codeR_ok hrg lf n r c f s a w R e1 f1 s1 hx hR hF hG hlo) fun e3 a3 w3 h3 => ?_)
      obtain ⟨rfl, R3, g2, g3, g4, g5, g6⟩ := h3
      cases e1 with
      | normal =>
        obtain ⟨rfl, h2⟩ := Prod.mk.inj (Option.some.inj (show some (Ex.normal, f1, s1) = some (e, f', s') from h))
        obtain ⟨rfl, rfl⟩ := Prod.mk.inj h2
        exact ⟨rfl, R3, g2, g3, g4, g5, g6⟩
      | goto l =>
        obtain ⟨rfl, h2⟩ := Prod.mk.inj (Option.some.inj (show some (Ex.goto l, f1, s1) = some (e, f', s') from h))
        obtain ⟨rfl, rfl⟩ := Prod.mk.inj h2
        exact ⟨rfl, R3, g2, g3, g4, g5, g6⟩
      | exit i =>
        have h : (match Nat.beq i id with | true => some (Ex.normal, f1, s1) | false => some (Ex.exit i, f1, s1)) = some (e, f', s') := h
        show (if i = id then _ else _)
        split at h
        · rename_i hi
          obtain ⟨rfl, h2⟩ := Prod.mk.inj (Option.some.inj h)
          obtain ⟨rfl, rfl⟩ := Prod.mk.inj h2
          rw [if_pos (Nat.eq_of_beq_eq_true hi)]
          exact ⟨rfl, R3, g2, g3, g4, g5, g6⟩
        · rename_i hi
          obtain ⟨rfl, h2⟩ := Prod.mk.inj (Option.some.inj h)
          obtain ⟨rfl, rfl⟩ := Prod.mk.inj h2
          rw [if_neg (fun e => by rw [e] at hi; simp at hi)]
          exact ⟨rfl, R3, g2, g3, g4, g5, g6⟩
      | ret =>
        obtain ⟨rfl, h2⟩ := Prod.mk.inj (Option.some.inj (show some (Ex.ret, f1, s1) = some (e, f', s') from h))
        obtain ⟨rfl, rfl⟩ := Prod.mk.inj h2
        exact ⟨rfl, R3, g2, g3, g4, g5, g6⟩
  | .loop c => fun f s a w R e f' s' h hR hF hG hlo =>
    wpIn_loop_rounds lf (roundsR_ok (codeR_ok hrg lf n r c) lf f s a w R h hR hF hG hlo)

end

end Go.Vx
set_option linter.unusedSectionVars false
set_option linter.unusedSimpArgs false
set_option linter.unusedVariables false
namespace Go.Vx
open Go.RowKit

/-! ### What an iterator over a slice owes -/

def posK (b : Bool) (N k : Nat) : Nat := match b with
  | true => N - 1 - k
  | false => k
def encK (b : Bool) (N : Nat) (vs : Nat → Value) (k : Nat) : Array Value := match b with
  | true => #[.int .i64 ((N - 1 - k : Nat) : Int), vs k]
  | false => #[vs k]

def IterOk (P : Program) (gf : FuncId) (b : Bool) : Prop := (∀ args w, (callFunc gf args).run P w = .ok (.enter gf args) w) ∧
  ∀ (n l : Nat) (A : Addr) (Bs cap N : Nat) (vs : Nat → Value) (J : Nat → World → Prop) (W : World), N ≤ 100000 →
    (∀ k W, J k W → (k < N ∨ k = 0) → W.cell? ⟨Bs, 0, none⟩ = some (.slice (some A) N cap)) →
    (∀ k W, J k W → k < N → W.cell? (A.add (posK b N k)) = some (vs k)) →
    (∀ m k W, J k W → k < N → YieldAt (fen none) m P l (encK b N vs k) W fun e W' => e = .returned (.bool true) ∧ J (k + 1) W') →
    J 0 W → CallsIn (fen none) n P gf #[.func (.yield l) #[] #[], .pointer (some ⟨Bs, 0, none⟩)] W fun e W' => (∃ v, e = .returned v) ∧ J N W'

/-! ### The rounds -/

noncomputable def iterS (step : Nat → St → Option St) (n : Nat) : St → Option St :=
  Nat.rec (motive := fun _ => St → Option St) (fun s => some s) (fun k ih s => match ih s with
    | some s1 => step k s1
    | none => none) n

theorem iterS_succ (step : Nat → St → Option St) (k : Nat) (s : St) : iterS step (k + 1) s = match iterS step k s with
    | some s1 => step k s1
    | none => none := rfl

theorem iterS_le {step : Nat → St → Option St} {s s' : St} : ∀ {n : Nat}, iterS step n s = some s' → ∀ k, k < n → ∃ s1 s2, iterS step k s = some s1 ∧ step k s1 = some s2 ∧ iterS step (k + 1) s = some s2
  | 0, _, k, hk => by omega
  | n + 1, h, k, hk => by
    rw [iterS_succ] at h
    split at h
    · rename_i s1 hs
      rcases Nat.lt_or_ge k n with c | c
      · exact iterS_le hs k c
      · obtain rfl : k = n := by omega
        exact ⟨s1, s', hs, h, by rw [iterS_succ, hs]; exact h⟩
    · cases h

noncomputable def setsX : List Tmp → List AV → Fr → (Fr → Option St) → Option St
  | [], [], f, k => k f
  | t :: ts, v :: vs, f, k => putX (some t) v f fun f => setsX ts vs f k
  | _, _, _, _ => none

def argsK (b : Bool) (N k : Nat) (v : AV) : List AV := match b with
  | true => [.int .i64 (.ofNat (posK true N k)), v]
  | false => [v]

noncomputable def bodyK (r : Out) (rb : Fr → St → Out) : Option St := match r with
  | some (.normal, f, s) => match rb f s with
    | some (.normal, _, s) => some s
    | _ => none
  | _ => none

noncomputable def headOk (bs r o N c : Nat) (s : St) : Bool := match s.get bs with
  | some (.row [.slc r' o' n' c'] _ _) => Nat.beq r' r && Nat.beq o' o && Nat.beq n' N && Nat.beq c' c
  | _ => false
noncomputable def elemAt (b : Bool) (r o N k : Nat) (s : St) : Option AV := match s.get r with
  | some (.row l _ _) => l[o + posK b N k]?
  | _ => none

noncomputable def stepK (b : Bool) (ps : List Tmp) (ra rb : Fr → St → Out) (f : Fr) (bs r o N c k : Nat) (s : St) : Option St := match headOk bs r o N c s with
  | true => match elemAt b r o N k s with
    | some v => match avEq v v with
      | true => setsX ps (argsK b N k v) f fun f => bodyK (ra f s) rb
      | false => none
    | none => none
  | false => none

noncomputable def rangeRg (rng : FuncId → Option Bool) : RgX := fun g ps ra rb f s => match evX g f with
  | some (.fn gf [] [.ptr bs 0]) => match rng gf with
    | some b => match s.get bs with
      | some (.row [.slc r o N c] _ _) => match Nat.ble N 100000 with
        | true => match iterS (stepK b ps.toList ra rb f bs r o N c) N s with
          | some s => some (.normal, f, s)
          | none => none
        | false => none
      | _ => none
    | none => none
  | _ => none

theorem sets_ok {R : Ren} {nx : Nat} : ∀ {ts : List Tmp} {vs : List AV} {f : Fr} {k : Fr → Option St} {r : St} {tm : Array Value} {ds : List Deferred}, setsX ts vs f k = some r → FrOk R nx f { tmps := tm, defers := ds } → BndL nx vs →
    ∃ f1, k f1 = some r ∧ FrOk R nx f1 { tmps := (ts.zip (concL R vs)).foldl (fun t (p : Tmp × Value) => t.setIfInBounds p.1 p.2) tm, defers := ds } ∧ f1.G = f.G ∧ ts.length = vs.length
  | [], [], f, k, r, tm, ds, h, hF, _ => ⟨f, h, hF, rfl, rfl⟩
  | t :: ts, v :: vs, f, k, r, tm, ds, h, hF, hb => by
    simp only [BndL] at hb
    have h : putX (some t) v f (fun f => setsX ts vs f k) = some r := h
    obtain ⟨f', h1, h2, h3, _⟩ := FrOk.put hF h hb.1
    obtain ⟨f1, g1, g2, g3, g4⟩ := sets_ok (tm := tm.setIfInBounds t (conc R v)) (ds := ds) h1 h2 hb.2
    exact ⟨f1, g1, g2, g3.trans h3, by simp [g4]⟩
  | [], _ :: _, f, k, r, tm, ds, h, _, _ => by simp [setsX] at h
  | _ :: _, [], f, k, r, tm, ds, h, _, _ => by simp [setsX] at h

/-! ### The loop's own record is nothing that a name stands for -/

theorem Rel.put {R : Ren} {s : St} {w : World} (h : Rel R s w) {l : Nat} {x y : Obj} (hx : w.heap[l]? = some x) (hn : ∀ o, ¬ ORel R o x) : Rel R s (w.putObj l y) := by
  refine ⟨fun n o hg => ?_, h.inj, h.bnd, h.lim⟩
  obtain ⟨z, hz, hr⟩ := h.live n o hg
  have hne : R.blk n ≠ l := fun e => by
    rw [e, hx] at hz
    obtain rfl := Option.some.inj hz
    exact hn o hr
  exact ⟨z, by rw [World.putObj_heap_other hne]; exact hz, hr⟩

theorem Mv.put {lo : Nat} {R R' : Ren} {s s' : St} {w w' : World} (h : Mv lo R s w R' s' w') {l : Nat} (hl : w.heap.size ≤ l) (y : Obj) : Mv lo R s w R' s' (w'.putObj l y) :=
  ⟨h.blk, h.cap, h.opq, h.nx, h.keep, h.os, h.tape, h.output, by rw [World.putObj_size]; exact h.size, fun b hb hn => by rw [World.putObj_heap_other (by omega)]; exact h.frame b hb hn, h.back⟩

theorem headOk_ok {bs r o N c : Nat} {s : St} (h : headOk bs r o N c s = true) : ∃ e k, s.get bs = some (.row [.slc r o N c] e k) := by
  unfold headOk at h
  split at h
  · rename_i r' o' n' c' e k hg
    simp only [Bool.and_eq_true] at h
    obtain ⟨⟨⟨h1, h2⟩, h3⟩, h4⟩ := h
    rw [Nat.eq_of_beq_eq_true h1, Nat.eq_of_beq_eq_true h2, Nat.eq_of_beq_eq_true h3, Nat.eq_of_beq_eq_true h4] at hg
    exact ⟨e, k, hg⟩
  · cases h

theorem elemAt_ok {b : Bool} {r o N k : Nat} {s : St} {v : AV} (h : elemAt b r o N k s = some v) : ∃ l e q, s.get r = some (.row l e q) ∧ l[o + posK b N k]? = some v := by
  unfold elemAt at h
  split at h
  · rename_i l e q hg
    exact ⟨l, e, q, hg, h⟩
  · cases h

theorem plain_add (b o j : Nat) : (⟨b, o, none⟩ : Addr).add j = ⟨b, o + j, none⟩ := by
  unfold Addr.add
  split
  · rename_i h
    subst h
    rfl
  · rfl

theorem stepK_ok {b : Bool} {ps : List Tmp} {ra rb : Fr → St → Out} {f : Fr} {bs r o N c k : Nat} {s s' : St} (h : stepK b ps ra rb f bs r o N c k s = some s') :
    headOk bs r o N c s = true ∧ ∃ v, elemAt b r o N k s = some v ∧ Bnd 0 v ∧ setsX ps (argsK b N k v) f (fun f => bodyK (ra f s) rb) = some s' := by
  unfold stepK at h
  split at h
  · rename_i hh
    split at h
    · rename_i v hv
      split at h
      · rename_i he
        exact ⟨hh, v, hv, (avEq_ok he).2, h⟩
      · cases h
    · cases h
  · cases h

theorem args_conc {R : Ren} {b : Bool} {N k : Nat} {v : AV} : (⟨concL R (argsK b N k v)⟩ : Array Value) = encK b N (fun _ => conc R v) k := by
  cases b
  · simp [argsK, encK, concL]
  · simp [argsK, encK, concL, conc, posK]

theorem zip_fold (ps : Array Tmp) (vs : List Value) (g : Array Value → Tmp × Value → Array Value) (t : Array Value) : (ps.zip ⟨vs⟩).foldl g t = (ps.toList.zip vs).foldl g t := by
  rw [← Array.foldl_toList, Array.toList_zip]

def recL (fn : FuncId) (a : Act) (ps : Array Tmp) (assign body : Code) (D : Nat) (st : LoopState) (pe : Option Code) : Loop := { state := st, pending := pe, fn := fn, tmps := a.tmps, params := ps, assign := assign, body := body, defers := D }

theorem rg_ok {E : Env} {P : Program} {lo : Nat} {rng : FuncId → Option Bool} (hrng : ∀ gf b, rng gf = some b → IterOk P gf b) : RgOk P E lo (rangeRg rng) := by
  intro n g ps ra rb assign body hA hB f s a w R e f' s' h hR hF hG hlo
  unfold rangeRg at h
  split at h
  · rename_i gf bs hev
    split at h
    · rename_i b hb
      split at h
      · rename_i r o N c e0 k0 hbs
        split at h
        · rename_i hN
          have hN := Nat.le_of_ble_eq_true hN
          split at h
          · rename_i s1 hit
            obtain ⟨rfl, h2⟩ := Prod.mk.inj (Option.some.inj h)
            obtain ⟨rfl, rfl⟩ := Prod.mk.inj h2
            obtain ⟨hent, hiter⟩ := hrng gf b hb
            have heval : a.eval g = .func (.func gf) #[] #[.pointer (some ⟨R.blk bs, 0, none⟩)] := by
              have := (hF.ev hev).1
              simpa [conc, concL] using this
            obtain ⟨step, hstep⟩ : ∃ step, step = stepK b ps.toList ra rb f bs r o N c := ⟨_, rfl⟩
            rw [← hstep] at hit
            refine wpIn_rangeFunc ?_
            intro fn hfn
            rw [fen_round]
            have hB0 : Below w.heap.size w ((w.alloc (.deferred (some []))).alloc (.loop (recL fn a ps assign body w.heap.size .ready none))) := ((Below.refl _ w).alloc (Nat.le_refl _) _).alloc (by simp) _
            have hrec : (.loop { state := .ready, pending := none, fn, tmps := a.tmps, params := ps, assign, body, defers := w.heap.size } : Obj) = .loop (recL fn a ps assign body w.heap.size .ready none) := rfl
            obtain ⟨W1, hW1⟩ : ∃ W1, (w.alloc (.deferred (some []))).alloc (.loop (recL fn a ps assign body w.heap.size .ready none)) = W1 := ⟨_, rfl⟩
            have hL1 : W1.heap[w.heap.size + 1]? = some (.loop (recL fn a ps assign body w.heap.size .ready none)) := by
              rw [← hW1]; have := World.alloc_heap_new (w.alloc (.deferred (some []))) (.loop (recL fn a ps assign body w.heap.size .ready none)); rwa [World.size_alloc] at this
            have hK1 : W1.heap[w.heap.size]? = some (.deferred (some [])) := by
              rw [← hW1]; exact (Below.heap_alloc _ _ _ (by simp)).trans (World.alloc_heap_new w _)
            rw [hW1] at hB0
            have hr1 := hR.below (lo := lo) hB0
            refine ⟨w.heap.size + 1, [markD w.heap.size], W1, { target := .fn (.func gf) #[.pointer (some ⟨R.blk bs, 0, none⟩)], args := #[.func (.yield (w.heap.size + 1)) #[] #[]] }, W1, gf,
              #[.func (.yield (w.heap.size + 1)) #[] #[], .pointer (some ⟨R.blk bs, 0, none⟩)], W1, ?_, ?_, fun g _ => fen_fn none g, ?_, fun hh => by rw [fen_depth] at hh; simp at hh, ?_⟩
            · rw [← hW1]; exact run_enterLoop_outer _ _ _ _ _
            · simp only [resolve, heval]
              simp [go_sem]
            · simp [invoke, go_sem, hent]
            · -- the elements, told
              obtain ⟨vs, hvs⟩ : ∃ vs : Nat → Value, vs = fun k => match iterS step k s with
                | some sk => match elemAt b r o N k sk with
                  | some v => conc R v
                  | none => undef
                | none => undef := ⟨_, rfl⟩
              obtain ⟨J, hJ⟩ : ∃ J : Nat → World → Prop, J = fun k W => (∃ sk R', iterS step k s = some sk ∧ Rel R' sk W ∧ Mv lo R s w R' sk W) ∧ W.heap[w.heap.size + 1]? = some (.loop (recL fn a ps assign body w.heap.size .ready none)) ∧ W.heap[w.heap.size]? = some (.deferred (some [])) := ⟨_, rfl⟩
              have hbn := (hR.bnd bs _ hbs).1
              have hrn : r < s.nx ∧ (c < big ∨ c - big < s.nx) := by
                have h0 := OBnd.row (hR.bnd bs _ hbs).2
                simp only [BndL, Bnd] at h0
                exact h0.1
              have hhead : ∀ k W, J k W → (k < N ∨ k = 0) → W.cell? ⟨R.blk bs, 0, none⟩ = some (.slice (some ⟨R.blk r, o, none⟩) N (R.c c)) := by
                intro k W hj hk
                rw [hJ] at hj
                obtain ⟨⟨sk, R', g1, g2, g3⟩, _⟩ := hj
                have hget : ∃ e k, sk.get bs = some (.row [.slc r o N c] e k) := by
                  rcases hk with hk | rfl
                  · obtain ⟨s1, s2, q1, q2, _⟩ := iterS_le hit k hk
                    rw [g1] at q1
                    obtain rfl := Option.some.inj q1
                    rw [hstep] at q2
                    exact headOk_ok (stepK_ok q2).1
                  · obtain rfl : s = sk := Option.some.inj g1
                    exact ⟨_, _, hbs⟩
                obtain ⟨e1, k1, hget⟩ := hget
                have hc := g2.cell hget (i := 0) rfl
                rw [g3.blk bs (.inl hbn)] at hc
                rw [hc]
                simp only [conc, g3.blk r (.inl hrn.1)]
                congr 2
                unfold Ren.c
                split
                · rfl
                · rename_i hcb
                  exact g3.cap _ (.inl (hrn.2.resolve_left hcb))
              have helem : ∀ k W, J k W → k < N → ∃ sk R' v, iterS step k s = some sk ∧ Rel R' sk W ∧ Mv lo R s w R' sk W ∧ elemAt b r o N k sk = some v ∧ Bnd 0 v ∧ conc R' v = vs k ∧ ∃ sk1, iterS step (k + 1) s = some sk1 ∧ setsX ps.toList (argsK b N k v) f (fun f => bodyK (ra f sk) rb) = some sk1 := by
                intro k W hj hk
                rw [hJ] at hj
                obtain ⟨⟨sk, R', g1, g2, g3⟩, _⟩ := hj
                obtain ⟨s1, s2, q1, q2, q3⟩ := iterS_le hit k hk
                rw [g1] at q1
                obtain rfl := Option.some.inj q1
                rw [hstep] at q2
                obtain ⟨_, v, p1, p2, p3⟩ := stepK_ok q2
                refine ⟨sk, R', v, g1, g2, g3, p1, p2, ?_, s2, q3, p3⟩
                rw [hvs]
                simp only [g1, p1]
                exact conc_agree ⟨fun i hi => by omega, fun i hi => by omega, g3.opq⟩ p2
              have hround : ∀ m k W, J k W → k < N → YieldAt (fen none) m P (w.heap.size + 1) (encK b N vs k) W fun e W' => e = .returned (.bool true) ∧ J (k + 1) W' := by
                intro m k W hj hk
                obtain ⟨sk, R', v, g1, g2, g3, p1, p2, p3, sk1, q1, q2⟩ := helem k W hj hk
                rw [hJ] at hj
                obtain ⟨_, hl, hd⟩ := hj
                have hFk : FrOk R' sk.nx f { tmps := a.tmps, defers := [] } := by
                  have := hF.mono g3.agree g3.nx
                  exact ⟨this.size, this.tmp, this.out, this.bnd, this.glob, this.le⟩
                obtain ⟨f1, t1, t2, t3, t4⟩ := sets_ok q2 hFk (by
                  cases b
                  · simp only [argsK, BndL, and_true]; exact p2.mono (Nat.zero_le _)
                  · simp only [argsK, BndL, Bnd, and_true, true_and]; exact p2.mono (Nat.zero_le _))
                have henc : encK b N vs k = ⟨concL R' (argsK b N k v)⟩ := by
                  rw [args_conc]
                  cases b <;> simp [encK, p3]
                have hsz : (encK b N vs k).size = ps.size := by
                  rw [henc]
                  simp only [List.size_toArray, concL_length]
                  rw [← t4, Array.length_toList]
                have hy := run_yield (P := P) (args := encK b N vs k) hl hsz
                refine ⟨_, _, _, _, hy, roundIn_of_wpIn hfn ?_⟩
                have htm : (ps.zip (encK b N vs k)).foldl (fun (t : Array Value) (p : Tmp × Value) => t.setIfInBounds p.1 p.2) a.tmps = (ps.toList.zip (concL R' (argsK b N k v))).foldl (fun (t : Array Value) (p : Tmp × Value) => t.setIfInBounds p.1 p.2) a.tmps := by
                  rw [henc, zip_fold]
                show assign.wpIn (fen (some (w.heap.size + 1))) m P _ { tmps := (ps.zip (encK b N vs k)).foldl (fun (t : Array Value) (p : Tmp × Value) => t.setIfInBounds p.1 p.2) a.tmps, defers := [] } W
                rw [htm]
                -- the assignment
                unfold bodyK at t1
                split at t1
                · rename_i f2 s2 hra
                  split at t1
                  · rename_i f3 s3 hrb
                    obtain rfl := Option.some.inj t1
                    refine wpIn_mono (hA _ _ f1 sk _ W R' .normal f2 s2 hra g2 t2 (t3.trans hG) (Nat.le_trans hlo g3.nx)) fun e3 a3 w3 h3 => ?_
                    obtain ⟨rfl, R3, m1, m2, m3, m4, _⟩ := h3
                    have hl3 := m2.strange g2 hl (loop_strange _ _)
                    have hd3 := m2.strange g2 hd (deferred_strange _ _)
                    refine ⟨_, run_beginRound hl3 rfl, ?_⟩
                    have mm := (g3.trans m2).put (l := w.heap.size + 1) (Nat.le_succ _) (.loop { recL fn a ps assign body w.heap.size .ready none with state := .busy })
                    have m1' := m1.put (y := .loop { recL fn a ps assign body w.heap.size .ready none with state := .busy }) hl3 (loop_strange _ _)
                    have hlt : w.heap.size + 1 < w3.heap.size := (Array.getElem?_eq_some_iff.1 hl3).1
                    have hl4 : (w3.putObj (w.heap.size + 1) (.loop { recL fn a ps assign body w.heap.size .ready none with state := .busy })).heap[w.heap.size + 1]? = some (.loop { recL fn a ps assign body w.heap.size .ready none with state := .busy }) := World.putObj_heap_same hlt
                    have hd4 : (w3.putObj (w.heap.size + 1) (.loop { recL fn a ps assign body w.heap.size .ready none with state := .busy })).heap[w.heap.size]? = some (.deferred (some [])) := (World.putObj_heap_other (by omega)).trans hd3
                    refine wpIn_mono (hB _ _ f2 s2 a3 _ R3 .normal f3 s3 hrb m1' m3 m4 (Nat.le_trans hlo (Nat.le_trans g3.nx m2.nx))) fun e5 a5 w5 h5 => ?_
                    obtain ⟨rfl, R5, u1, u2, u3, u4, _⟩ := h5
                    have hl5 := u2.strange m1' hl4 (loop_strange _ _)
                    have hd5 := u2.strange m1' hd4 (deferred_strange _ _)
                    refine ⟨_, _, run_endRound none hl5, rfl, ?_⟩
                    rw [hJ]
                    refine ⟨⟨s3, R5, q1, u1.put hl5 (loop_strange _ _), (mm.trans u2).put (Nat.le_succ _) _⟩, World.putObj_heap_same (Array.getElem?_eq_some_iff.1 hl5).1, (World.putObj_heap_other (by omega)).trans hd5⟩
                  · cases t1
                · cases t1
              refine (hiter (n - 1) (w.heap.size + 1) ⟨R.blk r, o, none⟩ (R.blk bs) (R.c c) N vs J W1 hN hhead (fun k W hj hk => ?_) hround ?_).mono ?_
              · obtain ⟨sk, R', v, g1, g2, g3, p1, p2, p3, _⟩ := helem k W hj hk
                obtain ⟨l, e1, q1, hg, hv⟩ := elemAt_ok p1
                have hc := g2.cell hg hv
                rw [g3.blk r (.inl hrn.1)] at hc
                rw [plain_add, hc, p3]
              · rw [hJ]
                exact ⟨⟨s, R, rfl, hr1.1, hr1.2⟩, hL1, hK1⟩
              · rintro e2 W2 ⟨⟨v, rfl⟩, hj⟩
                rw [hJ] at hj
                obtain ⟨⟨sk, R', g1, g2, g3⟩, hl, hd⟩ := hj
                rw [hit] at g1
                obtain rfl := Option.some.inj g1
                refine ⟨none, _, run_endLoop hl (by simp [recL]), ?_⟩
                refine ⟨rfl, R', g2.put hl (loop_strange _ _), g3.put (Nat.le_succ _) _, ?_, hG, ?_⟩
                · have := hF.mono g3.agree g3.nx
                  exact ⟨this.size, this.tmp, this.out, this.bnd, this.glob, this.le⟩
                · refine ⟨[w.heap.size], rfl, (by simp), fun D hD => ?_⟩
                  obtain rfl : D = w.heap.size := by simpa using hD
                  exact ⟨Nat.le_refl _, (World.putObj_heap_other (by omega)).trans hd⟩
          · cases h
        · cases h
      · cases h
    · cases h
  · cases h

end Go.Vx
set_option linter.unusedSectionVars false
set_option linter.unusedSimpArgs false
set_option linter.unusedVariables false
namespace Go.Vx
open Go.RowKit

noncomputable def bodyR (rng : FuncId → Option Bool) (fn : Func) (c : Code) (E : Env) (call : CallX) (lo lf : Nat) (args : List AV) (s : St) : Option (AV × St) :=
  match Nat.ble args.length fn.ntmps && Nat.ble fn.ntmps 1024 with
  | true => argsX args 0 .e fun T => endX fn.results.toList E (codeR c (rangeRg rng) E call lo lf false ⟨T, fn.ntmps, E.G⟩ s)
  | false => none

theorem Mv.wider {lo lo' : Nat} {R R' : Ren} {s s' : St} {w w' : World} (h : Mv lo' R s w R' s' w') (hl : lo ≤ lo') (hn : lo' ≤ s.nx) : Mv lo R s w R' s' w' :=
  ⟨h.blk, h.cap, h.opq, h.nx, fun n hlt => h.keep n (by omega), h.os, h.tape, h.output, h.size, fun b hb hh => h.frame b hb fun n o g1 g2 => hh n o (by omega) g2, fun n o g1 g2 g3 => by
    rcases Nat.lt_or_ge n lo' with c | c
    · rw [h.keep n c] at g2
      exact ⟨n, o, g1, g2, (h.blk n (.inl (by omega))).symm⟩
    · obtain ⟨m, o', q1, q2, q3⟩ := h.back n o c g2 g3
      exact ⟨m, o', by omega, q2, q3⟩⟩

theorem leaves_ok {P : Program} {fn : Func} {tmps : Array Value} {n lo : Nat} {R R3 : Ren} {s s1 : St} {w : World} {Post : Ending → World → Prop} (hend : ∀ w4, Rel R3 s1 w4 → Mv lo R s w R3 s1 w4 → ∃ v, (results fn tmps).run P w4 = .ok v w4 ∧ Post (.returned v) w4) :
    ∀ (ms : List Nat) (w3 : World), ms.Nodup → Rel R3 s1 w3 → Mv lo R s w R3 s1 w3 → (∀ D ∈ ms, w.heap.size ≤ D ∧ w3.heap[D]? = some (.deferred (some []))) → LeavesInM Fence.wide n P fn tmps Post (ms.map markD) .returning w3
  | [], w3, _, hR, hm, _ => hend w3 hR hm
  | D :: ms, w3, hnd, hR, hm, hD => by
    obtain ⟨h1, h2⟩ := hD D (by simp)
    have hn := List.nodup_cons.1 hnd
    refine ⟨by simp, .inl ⟨D, _, rfl, run_takeDeferred h2, ?_⟩⟩
    refine leaves_ok hend ms _ hn.2 (hR.put h2 (deferred_strange _ _)) (hm.put h1 _) fun D' hD' => ?_
    obtain ⟨g1, g2⟩ := hD D' (by simp [hD'])
    have hne : D' ≠ D := fun e => hn.1 (e ▸ hD')
    exact ⟨g1, (World.putObj_heap_other hne).trans g2⟩

section
variable {E : Env} {P : Program} (hE : E.Ok P) {call : CallX} (hcall : CallOk P E call)
include hE hcall
theorem bodyR_ok {rng : FuncId → Option Bool} (hrng : ∀ gf b, rng gf = some b → IterOk P gf b) {lo lf : Nat} {fi : FuncId} {fn : Func} {c : Code} {args : List AV} {v : AV} {s s' : St} {w : World} {R : Ren} (hf : P.funcs[fi]? = some fn) (hb : fn.body = some c) (h : bodyR rng fn c E call lo lf args s = some (v, s')) (hR : Rel R s w) (hargs : BndL s.nx args) (hlo : lo ≤ s.nx)
    (hglob : ∀ g, g < E.G → R.blk g = g ∧ g < s.nx) : Calls P fi ⟨concL R args⟩ w fun e w' => ∃ R', e = .returned (conc R' v) ∧ Rel R' s' w' ∧ Mv lo R s w R' s' w' ∧ Bnd s'.nx v := by
  unfold bodyR at h
  split at h
  · rename_i hc
    simp only [Bool.and_eq_true] at hc
    have c1 := Nat.le_of_ble_eq_true hc.1
    have c2 := Nat.le_of_ble_eq_true hc.2
    obtain ⟨T, h1, h2⟩ := argsX_get args 0 .e (fun T => endX fn.results.toList E (codeR c (rangeRg rng) E call lo lf false ⟨T, fn.ntmps, E.G⟩ s)) (by omega)
    rw [h1] at h
    have hF : FrOk R s.nx ⟨T, fn.ntmps, E.G⟩ { tmps := (⟨concL R args⟩ : Array Value) ++ Array.replicate (fn.ntmps - (⟨concL R args⟩ : Array Value).size) undef, defers := [] } := by
      refine ⟨by simp; omega, fun t ht => ?_, fun t ht => ?_, fun t u hu => ?_, hglob, c2⟩
      · show _ = some (conc R ((Tr.get T t).getD (.tup [])))
        rw [h2 t]
        have ht : t < fn.ntmps := ht
        by_cases ha : t < args.length
        · rw [if_pos (by omega), Nat.sub_zero, Array.getElem?_append_left (by simpa using ha)]
          simp [List.getElem?_eq_getElem ha]
        · rw [if_neg (by omega), Tr.get_e, Array.getElem?_append_right (by simp; omega)]
          simp only [List.size_toArray, concL_length, Option.getD_none]
          rw [Array.getElem?_replicate, if_pos (by omega)]
          simp [conc, concL, undef]
      · show Tr.get T t = none
        rw [h2 t]
        have ht : fn.ntmps ≤ t := ht
        rw [if_neg (by omega), Tr.get_e]
      · have hu : Tr.get T t = some u := hu
        rw [h2 t] at hu
        split at hu
        · exact BndL_get hargs hu
        · rw [Tr.get_e] at hu; simp at hu
    cases hx : codeR c (rangeRg rng) E call lo lf false ⟨T, fn.ntmps, E.G⟩ s with
    | none => rw [hx] at h; simp [endX] at h
    | some r =>
      obtain ⟨e1, f1, s1⟩ := r
      rw [hx] at h
      refine callsIn_wide.1 (callsIn_of_wp_marks (F := Fence.wide) (n := 0) hf hb trivial (wpIn_mono (codeR_ok hE hcall (rg_ok hrng) lf 0 none c ⟨T, fn.ntmps, E.G⟩ s _ w R e1 f1 s1 hx hR hF rfl hlo) fun e3 a3 w3 h3 => ?_))
      obtain ⟨rfl, R3, g2, g3, g4, g5, ms, g6, g7, g8⟩ := h3
      have hfin : oneOf (resX fn.results.toList E f1 s1) s1 = some (v, s') → LeavesInM Fence.wide 0 P fn a3.tmps (fun e w' => ∃ R', e = .returned (conc R' v) ∧ Rel R' s' w' ∧ Mv lo R s w R' s' w' ∧ Bnd s'.nx v) a3.defers .returning w3 := by
        intro h
        rw [g6, List.append_nil]
        refine leaves_ok (R := R) (s := s) (w := w) (lo := lo) (R3 := R3) (s1 := s1) (fun w4 hR4 hm4 => ?_) ms w3 g7 g2 g3 g8
        have hF4 : FrOk R3 s1.nx f1 a3 := g4
        obtain ⟨r1, r2, rfl⟩ := results_ok (P := P) hE hR4 hF4 h
        exact ⟨_, r1, R3, rfl, hR4, hm4, r2⟩
      cases e1 with
      | normal => exact hfin h
      | ret => exact hfin h
      | exit id =>
        have h : (none : Option (AV × St)) = some (v, s') := h
        simp at h
      | goto l =>
        have h : (none : Option (AV × St)) = some (v, s') := h
        simp at h
  · simp at h
end

noncomputable def sumR (rng : FuncId → Option Bool) (fn : Func) (c : Code) (E : Env) (d lf : Nat) (args : List AV) (s : St) : Option (AV × St) := bodyR rng fn c E (callX d E lf) s.nx lf args s

theorem sumR_ok {E : Env} {P : Program} (hE : E.Ok P) {rng : FuncId → Option Bool} (hrng : ∀ gf b, rng gf = some b → IterOk P gf b) {fi : FuncId} {fn : Func} {c : Code} (hf : P.funcs[fi]? = some fn) (hb : fn.body = some c) (hc : ∀ args w, (callFunc fi args).run P w = .ok (.enter fi args) w) (d lf : Nat) : SumOk P E.G fi (sumR rng fn c E d lf) := by
  refine ⟨hc, fun lo args s v s' R w h hR hargs hlo hglob => ?_⟩
  refine (bodyR_ok hE (callX_ok hE lf d) hrng hf hb h hR hargs (Nat.le_refl _) hglob).mono fun e w' hh => ?_
  obtain ⟨R', h1, h2, h3, h4⟩ := hh
  exact ⟨R', h1, h2, h3.wider hlo (Nat.le_refl _), h4⟩

end Go.Vx
