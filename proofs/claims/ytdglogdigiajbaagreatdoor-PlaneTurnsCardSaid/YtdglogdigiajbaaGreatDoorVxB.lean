/-
  A run told in advance, part two: a heap of named blocks and the worlds that fit it; what a step may turn. No condition.
-/
import Derived.Test.YtdglogdigiajbaaGreatDoorVxA
import Derived.Laws.Sem
import Derived.Laws.Strings
set_option linter.unusedSectionVars false
set_option linter.unusedSimpArgs false
set_option linter.unusedVariables false
namespace Go.Vx
open Go.RowKit

inductive RK where
  | ro
  | ex
  | gr (cc esz : Nat)

inductive AO where
  | row (l : List AV) (e : TypeId) (k : RK)
  | mp (es : List (AV × AV × Nat)) (clk : Nat)
  | sit (s : List UInt8) (p : Nat)
  | mit (m : Option Nat) (since : Nat) (seen : List Nat) (last : Nat)

def Free (n : Nat) (fz : Nat × Nat) : Prop := ∀ i, i < n → ¬ (fz.1 ≤ i ∧ i < fz.2)

theorem free_zero (n : Nat) : Free n (0, 0) := by intro i _; simp

def entryC (R : Ren) (x : AV × AV × Nat) : MapEntry := { key := conc R x.1, val := conc R x.2.1, born := x.2.2 }

def ORel (R : Ren) : AO → Obj → Prop
  | .row l _ .ro, .cells c _ _ => True ∧ (∀ (i : Nat) (v : AV), l[i]? = some v → c[i]? = some (conc R v))
  | .row l e .ex, .cells c e' fz => e = e' ∧ c = ⟨concL R l⟩ ∧ Free c.size fz
  | .row l e (.gr cc esz), .cells c e' fz => e = e' ∧ (∀ (i : Nat) (v : AV), l[i]? = some v → c[i]? = some (conc R v)) ∧ c.size = R.cap cc * esz ∧ l.length ≤ c.size ∧ Free c.size fz
  | .mp es clk, .map es' clk' => es' = ⟨es.map (entryC R)⟩ ∧ clk' = clk
  | .sit s p, .stringIter s' p' => s' = ⟨⟨s⟩⟩ ∧ p' = p
  | .mit m since seen last, .mapIter m' since' seen' last' => m' = m.map R.blk ∧ since' = since ∧ seen' = ⟨seen⟩ ∧ last' = last
  | _, _ => False

def OBnd (n : Nat) : AO → Prop
  | .row l _ (.gr cc _) => BndL n l ∧ cc < n
  | .row l _ _ => BndL n l
  | .mp es _ => ∀ x ∈ es, Bnd n x.1 ∧ Bnd n x.2.1
  | .sit _ _ => True
  | .mit m _ _ _ => ∀ r, m = some r → r < n

theorem OBnd.row {n : Nat} {l : List AV} {e : TypeId} {k : RK} (h : OBnd n (.row l e k)) : BndL n l := by
  cases k <;> simp only [OBnd] at h <;> first | exact h | exact h.1

theorem OBnd.mono {n m : Nat} (h : n ≤ m) {o : AO} (hb : OBnd n o) : OBnd m o := by
  cases o with
  | row l e k => cases k <;> simp only [OBnd] at * <;> first | exact BndL.mono h hb | exact ⟨BndL.mono h hb.1, by omega⟩
  | mp es c => exact fun x hx => ⟨Bnd.mono h (hb x hx).1, Bnd.mono h (hb x hx).2⟩
  | sit s p => trivial
  | mit m s t u => exact fun r hr => by have := hb r hr; omega

theorem ORel.agree {n : Nat} {R R' : Ren} (h : Agree n R R') {o : AO} (hb : OBnd n o) {x : Obj} (hr : ORel R o x) : ORel R' o x := by
  cases o with
  | row l e k =>
    have hl : ∀ i v, l[i]? = some v → conc R' v = conc R v := fun i v hv => conc_agree h (BndL_get hb.row hv)
    cases k with
    | ro =>
      cases x <;> simp only [ORel] at hr ⊢
      exact ⟨hr.1, fun i v hv => by rw [hl i v hv]; exact hr.2 i v hv⟩
    | ex =>
      cases x <;> simp only [ORel] at hr ⊢
      exact ⟨hr.1, by rw [concL_agree h hb.row]; exact hr.2.1, hr.2.2⟩
    | gr cc esz =>
      cases x <;> simp only [ORel] at hr ⊢
      exact ⟨hr.1, fun i v hv => by rw [hl i v hv]; exact hr.2.1 i v hv, by rw [h.cap cc hb.2]; exact hr.2.2.1, hr.2.2.2⟩
  | mp es c =>
    cases x <;> simp only [ORel] at hr ⊢
    refine ⟨?_, hr.2⟩
    rw [hr.1]
    congr 1
    refine List.map_congr_left fun y hy => ?_
    have := hb y hy
    simp [entryC, conc_agree h this.1, conc_agree h this.2]
  | sit s p => cases x <;> simp only [ORel] at hr ⊢; exact hr
  | mit m s t u =>
    cases x <;> simp only [ORel] at hr ⊢
    refine ⟨?_, hr.2⟩
    rw [hr.1]
    cases m with
    | none => rfl
    | some r => simp [h.blk r (hb r rfl)]

structure St where
  H : Tr AO
  nx : Nat

def lim : Nat := 1048576

noncomputable def St.get (s : St) (n : Nat) : Option AO := Tr.get s.H n

noncomputable def St.put (s : St) (n : Nat) (o : Option AO) : St := { s with H := Tr.set 21 s.H n o }

theorem St.get_put (s : St) (n m : Nat) (o : Option AO) (hn : n < lim) : (s.put n o).get m = if m = n then o else s.get m :=
  Tr.get_set 21 s.H n m o (by unfold lim at hn; omega)

/-- The world fits the named heap. -/
structure Rel (R : Ren) (s : St) (w : World) : Prop where
  live : ∀ n o, s.get n = some o → ∃ x, w.heap[R.blk n]? = some x ∧ ORel R o x
  inj : ∀ n m o o', s.get n = some o → s.get m = some o' → R.blk n = R.blk m → n = m
  bnd : ∀ n o, s.get n = some o → n < s.nx ∧ OBnd s.nx o
  lim : s.nx ≤ lim

theorem Rel.lt {R : Ren} {s : St} {w : World} (h : Rel R s w) {n : Nat} {o : AO} (hn : s.get n = some o) : R.blk n < w.heap.size := by
  obtain ⟨x, hx, _⟩ := h.live n o hn
  exact (Array.getElem?_eq_some_iff.1 hx).1

/-- What a step from (R, s, w) to (R', s', w') has turned: names from lo on, new names, new blocks. -/
structure Mv (lo : Nat) (R : Ren) (s : St) (w : World) (R' : Ren) (s' : St) (w' : World) : Prop where
  blk : ∀ n, n < s.nx ∨ s'.nx ≤ n → R'.blk n = R.blk n
  cap : ∀ n, n < s.nx ∨ s'.nx ≤ n → R'.cap n = R.cap n
  opq : R'.opq = R.opq
  nx : s.nx ≤ s'.nx
  keep : ∀ n, n < lo → s'.get n = s.get n
  os : w'.os = w.os
  tape : w'.tape = w.tape
  output : w'.output = w.output
  size : w.heap.size ≤ w'.heap.size
  frame : ∀ b, b < w.heap.size → (∀ n o, lo ≤ n → s.get n = some o → R.blk n ≠ b) → w'.heap[b]? = w.heap[b]?
  back : ∀ n o, lo ≤ n → s'.get n = some o → R'.blk n < w.heap.size → ∃ m o', lo ≤ m ∧ s.get m = some o' ∧ R.blk m = R'.blk n

theorem Mv.agree {lo : Nat} {R R' : Ren} {s s' : St} {w w' : World} (h : Mv lo R s w R' s' w') : Agree s.nx R R' :=
  ⟨fun i hi => h.blk i (.inl hi), fun i hi => h.cap i (.inl hi), h.opq⟩

theorem Mv.refl (lo : Nat) (R : Ren) (s : St) (w : World) : Mv lo R s w R s w :=
  ⟨fun _ _ => rfl, fun _ _ => rfl, rfl, Nat.le_refl _, fun _ _ => rfl, rfl, rfl, rfl, Nat.le_refl _, fun _ _ _ => rfl, fun n o h1 h2 _ => ⟨n, o, h1, h2, rfl⟩⟩

theorem Mv.trans {lo : Nat} {R R1 R2 : Ren} {s s1 s2 : St} {w w1 w2 : World} (h : Mv lo R s w R1 s1 w1) (k : Mv lo R1 s1 w1 R2 s2 w2) : Mv lo R s w R2 s2 w2 where
  blk n hn := by
    have a := h.nx; have b := k.nx
    rw [k.blk n (by omega), h.blk n (by omega)]
  cap n hn := by
    have a := h.nx; have b := k.nx
    rw [k.cap n (by omega), h.cap n (by omega)]
  opq := k.opq.trans h.opq
  nx := Nat.le_trans h.nx k.nx
  keep n hn := (k.keep n hn).trans (h.keep n hn)
  os := k.os.trans h.os
  tape := k.tape.trans h.tape
  output := k.output.trans h.output
  size := Nat.le_trans h.size k.size
  frame b hb hn := by
    rw [← h.frame b hb hn]
    refine k.frame b (Nat.lt_of_lt_of_le hb h.size) fun n o hlo hg e => ?_
    obtain ⟨m, o', h1, h2, h3⟩ := h.back n o hlo hg (by omega)
    exact hn m o' h1 h2 (by omega)
  back n o hlo hg hlt := by
    obtain ⟨m, o', h1, h2, h3⟩ := k.back n o hlo hg (Nat.lt_of_lt_of_le hlt h.size)
    obtain ⟨m', o'', h4, h5, h6⟩ := h.back m o' h1 h2 (by omega)
    exact ⟨m', o'', h4, h5, by omega⟩

/-- A draw. -/
theorem Mv.drawn {lo : Nat} {R : Ren} {s : St} {w : World} (n : Nat) : Mv lo R s w R s { w with drawn := n } :=
  ⟨fun _ _ => rfl, fun _ _ => rfl, rfl, Nat.le_refl _, fun _ _ => rfl, rfl, rfl, rfl, Nat.le_refl _, fun _ _ _ => rfl, fun n o h1 h2 _ => ⟨n, o, h1, h2, rfl⟩⟩

theorem Rel.drawn {R : Ren} {s : St} {w : World} (h : Rel R s w) (n : Nat) : Rel R s { w with drawn := n } := ⟨h.live, h.inj, h.bnd, h.lim⟩

/-- The meaning with one more name. -/
def Ren.name (R : Ren) (n b c : Nat) : Ren :=
  { R with blk := fun i => if i = n then b else R.blk i, cap := fun i => if i = n then c else R.cap i }

theorem Ren.name_agree (R : Ren) (n b c : Nat) : Agree n R (R.name n b c) :=
  ⟨fun i hi => by simp only [Ren.name]; rw [if_neg (by omega)], fun i hi => by simp only [Ren.name]; rw [if_neg (by omega)], rfl⟩

@[simp] theorem Ren.name_blk (R : Ren) (n b c : Nat) : (R.name n b c).blk n = b := by simp [Ren.name]
@[simp] theorem Ren.name_cap (R : Ren) (n b c : Nat) : (R.name n b c).cap n = c := by simp [Ren.name]

noncomputable def St.add (s : St) (o : AO) : St := { H := Tr.set 21 s.H s.nx (some o), nx := s.nx + 1 }

theorem St.get_add (s : St) (o : AO) (m : Nat) (hn : s.nx < lim) : (s.add o).get m = if m = s.nx then some o else s.get m :=
  St.get_put s s.nx m (some o) hn

/-- A new block. -/
theorem rel_new {lo : Nat} {R : Ren} {s : St} {w : World} (h : Rel R s w) (hlo : lo ≤ s.nx) (hn : s.nx < lim) (o : AO) (x : Obj) (c : Nat)
    (hb : OBnd (s.nx + 1) o) (hr : ORel (R.name s.nx w.heap.size c) o x) :
    Rel (R.name s.nx w.heap.size c) (s.add o) { w with heap := w.heap.push x } ∧
    Mv lo R s w (R.name s.nx w.heap.size c) (s.add o) { w with heap := w.heap.push x } := by
  have hag := R.name_agree s.nx w.heap.size c
  have hold : ∀ m o', s.get m = some o' → (R.name s.nx w.heap.size c).blk m = R.blk m := fun m o' hm => hag.blk m (h.bnd m o' hm).1
  constructor
  · refine ⟨fun m o' hm => ?_, fun m k o1 o2 h1 h2 he => ?_, fun m o' hm => ?_, hn⟩
    · rw [St.get_add s o m hn] at hm
      by_cases e : m = s.nx
      · rw [if_pos e] at hm
        obtain rfl := Option.some.inj hm
        subst e
        exact ⟨x, by simp, hr⟩
      · rw [if_neg e] at hm
        obtain ⟨y, hy, hry⟩ := h.live m o' hm
        have hlt := h.lt hm
        refine ⟨y, ?_, ORel.agree hag (h.bnd m o' hm).2 hry⟩
        rw [hold m o' hm]
        show (w.heap.push x)[R.blk m]? = _
        rw [Array.getElem?_push, if_neg (by omega)]
        exact hy
    · rw [St.get_add s o m hn] at h1
      rw [St.get_add s o k hn] at h2
      by_cases e1 : m = s.nx <;> by_cases e2 : k = s.nx
      · omega
      · rw [if_neg e2] at h2
        have := h.lt h2
        rw [e1, hold k o2 h2] at he
        simp at he
        omega
      · rw [if_neg e1] at h1
        have := h.lt h1
        rw [e2, hold m o1 h1] at he
        simp at he
        omega
      · rw [if_neg e1] at h1
        rw [if_neg e2] at h2
        rw [hold m o1 h1, hold k o2 h2] at he
        exact h.inj m k o1 o2 h1 h2 he
    · rw [St.get_add s o m hn] at hm
      show m < s.nx + 1 ∧ _
      by_cases e : m = s.nx
      · rw [if_pos e] at hm
        obtain rfl := Option.some.inj hm
        exact ⟨by omega, hb⟩
      · rw [if_neg e] at hm
        have := h.bnd m o' hm
        exact ⟨by omega, this.2.mono (Nat.le_succ _)⟩
  · refine ⟨fun m hm => ?_, fun m hm => ?_, rfl, Nat.le_succ _, fun m hm => ?_, rfl, rfl, rfl, by simp, fun b hb' _ => ?_, fun m o' hlo' hm hlt => ?_⟩
    · have : m ≠ s.nx := by
        have e : (s.add o).nx = s.nx + 1 := rfl
        rw [e] at hm
        omega
      simp [Ren.name, this]
    · have : m ≠ s.nx := by
        have e : (s.add o).nx = s.nx + 1 := rfl
        rw [e] at hm
        omega
      simp [Ren.name, this]
    · rw [St.get_add s o m hn, if_neg (by omega)]
    · show (w.heap.push x)[b]? = _
      rw [Array.getElem?_push, if_neg (by omega)]
    · rw [St.get_add s o m hn] at hm
      by_cases e : m = s.nx
      · subst e
        simp at hlt
      · rw [if_neg e] at hm
        exact ⟨m, o', hlo', hm, (hold m o' hm).symm⟩

/-- A block of a name from lo on is written. -/
theorem rel_upd {lo : Nat} {R : Ren} {s : St} {w w' : World} (h : Rel R s w) {n : Nat} {o o' : AO} {x : Obj} (hg : s.get n = some o) (hlo : lo ≤ n)
    (hw : w' = { w with heap := w.heap.set (R.blk n) x (h.lt hg) }) (hb : OBnd s.nx o') (hr : ORel R o' x) :
    Rel R (s.put n (some o')) w' ∧ Mv lo R s w R (s.put n (some o')) w' := by
  have hlt := h.lt hg
  have hl : n < lim := Nat.lt_of_lt_of_le (h.bnd n o hg).1 h.lim
  have hp : ∀ m, (s.put n (some o')).get m = if m = n then some o' else s.get m := fun m => St.get_put s n m _ hl
  have hdom : ∀ m p, (s.put n (some o')).get m = some p → ∃ q, s.get m = some q := by
    intro m p hm
    rw [hp] at hm
    by_cases e : m = n
    · exact ⟨o, e ▸ hg⟩
    · rw [if_neg e] at hm
      exact ⟨p, hm⟩
  subst hw
  constructor
  · refine ⟨fun m p hm => ?_, fun m k o1 o2 h1 h2 he => ?_, fun m p hm => ?_, h.lim⟩
    · have hm' := hm
      rw [hp] at hm
      by_cases e : m = n
      · rw [if_pos e] at hm
        obtain rfl := Option.some.inj hm
        subst e
        exact ⟨x, by simp, hr⟩
      · rw [if_neg e] at hm
        obtain ⟨y, hy, hry⟩ := h.live m p hm
        refine ⟨y, ?_, hry⟩
        have : R.blk n ≠ R.blk m := fun e' => e (h.inj m n p o hm hg e'.symm)
        show (w.heap.set (R.blk n) x hlt)[R.blk m]? = _
        rw [Array.getElem?_set_ne hlt this]
        exact hy
    · obtain ⟨q1, g1⟩ := hdom m o1 h1
      obtain ⟨q2, g2⟩ := hdom k o2 h2
      exact h.inj m k q1 q2 g1 g2 he
    · rw [hp] at hm
      show m < s.nx ∧ OBnd s.nx p
      by_cases e : m = n
      · rw [if_pos e] at hm
        obtain rfl := Option.some.inj hm
        exact ⟨e ▸ (h.bnd n o hg).1, hb⟩
      · rw [if_neg e] at hm
        exact h.bnd m p hm
  · refine ⟨fun _ _ => rfl, fun _ _ => rfl, rfl, Nat.le_refl _, fun m hm => ?_, rfl, rfl, rfl, by simp, fun b hb' hn => ?_, fun m p hlo' hm _ => ?_⟩
    · rw [hp, if_neg (by omega)]
    · have := hn n o hlo hg
      show (w.heap.set (R.blk n) x hlt)[b]? = _
      rw [Array.getElem?_set_ne hlt this]
    · obtain ⟨q, g⟩ := hdom m p hm
      exact ⟨m, q, hlo', g, rfl⟩

/-- A row that was appended to where it lay: its old name is given up. -/
theorem rel_rename {lo : Nat} {R : Ren} {s : St} {w w' : World} (h : Rel R s w) (hlo' : lo ≤ s.nx) (hn : s.nx < lim) {n : Nat} {o o' : AO} {x : Obj} (hg : s.get n = some o) (hlo : lo ≤ n)
    (c : Nat) (hw : w' = { w with heap := w.heap.set (R.blk n) x (h.lt hg) }) (hb : OBnd (s.nx + 1) o') (hr : ORel (R.name s.nx (R.blk n) c) o' x) :
    Rel (R.name s.nx (R.blk n) c) ((s.put n none).add o') w' ∧ Mv lo R s w (R.name s.nx (R.blk n) c) ((s.put n none).add o') w' := by
  have hlt := h.lt hg
  have hl : n < lim := Nat.lt_of_lt_of_le (h.bnd n o hg).1 h.lim
  have hnn := (h.bnd n o hg).1
  have hp : ∀ m, ((s.put n none).add o').get m = if m = s.nx then some o' else if m = n then none else s.get m := fun m => by
    have := St.get_add (s.put n none) o' m hn
    rw [this, St.get_put s n m none hl]
    rfl
  have hag := R.name_agree s.nx (R.blk n) c
  have hold : ∀ m q, s.get m = some q → (R.name s.nx (R.blk n) c).blk m = R.blk m := fun m q hm => hag.blk m (h.bnd m q hm).1
  have hcase : ∀ m p, ((s.put n none).add o').get m = some p → (m = s.nx ∧ p = o') ∨ (m ≠ s.nx ∧ m ≠ n ∧ s.get m = some p) := by
    intro m p hm
    rw [hp] at hm
    by_cases e : m = s.nx
    · rw [if_pos e] at hm
      exact .inl ⟨e, (Option.some.inj hm).symm⟩
    · rw [if_neg e] at hm
      by_cases e' : m = n
      · rw [if_pos e'] at hm; simp at hm
      · rw [if_neg e'] at hm
        exact .inr ⟨e, e', hm⟩
  subst hw
  constructor
  · refine ⟨fun m p hm => ?_, fun m k o1 o2 h1 h2 he => ?_, fun m p hm => ?_, hn⟩
    · rcases hcase m p hm with ⟨rfl, rfl⟩ | ⟨e, e', hm⟩
      · exact ⟨x, by simp, hr⟩
      · obtain ⟨y, hy, hry⟩ := h.live m p hm
        refine ⟨y, ?_, ORel.agree hag (h.bnd m p hm).2 hry⟩
        rw [hold m p hm]
        have : R.blk n ≠ R.blk m := fun e'' => e' (h.inj m n p o hm hg e''.symm)
        show (w.heap.set (R.blk n) x hlt)[R.blk m]? = _
        rw [Array.getElem?_set_ne hlt this]
        exact hy
    · rcases hcase m o1 h1 with ⟨rfl, rfl⟩ | ⟨e1, e1', g1⟩ <;> rcases hcase k o2 h2 with ⟨rfl, rfl⟩ | ⟨e2, e2', g2⟩
      · rfl
      · rw [hold k _ g2] at he
        simp at he
        exact absurd (h.inj k n _ o g2 hg he.symm) e2'
      · rw [hold m _ g1] at he
        simp at he
        exact absurd (h.inj m n _ o g1 hg he) e1'
      · rw [hold m o1 g1, hold k o2 g2] at he
        exact h.inj m k o1 o2 g1 g2 he
    · show m < s.nx + 1 ∧ OBnd (s.nx + 1) p
      rcases hcase m p hm with ⟨rfl, rfl⟩ | ⟨e, e', hm⟩
      · exact ⟨by omega, hb⟩
      · have := h.bnd m p hm
        exact ⟨by omega, this.2.mono (Nat.le_succ _)⟩
  · have enx : ((s.put n none).add o').nx = s.nx + 1 := rfl
    refine ⟨fun m hm => ?_, fun m hm => ?_, rfl, by rw [enx]; omega, fun m hm => ?_, rfl, rfl, rfl, by simp, fun b hb' hnb => ?_, fun m p hlo'' hm hlt' => ?_⟩
    · rw [enx] at hm
      have : m ≠ s.nx := by omega
      simp [Ren.name, this]
    · rw [enx] at hm
      have : m ≠ s.nx := by omega
      simp [Ren.name, this]
    · rw [hp, if_neg (by omega), if_neg (by omega)]
    · have := hnb n o hlo hg
      show (w.heap.set (R.blk n) x hlt)[b]? = _
      rw [Array.getElem?_set_ne hlt this]
    · rcases hcase m p hm with ⟨rfl, rfl⟩ | ⟨e, e', hm⟩
      · exact ⟨n, o, hlo, hg, by simp⟩
      · exact ⟨m, p, hlo'', hm, (hold m p hm).symm⟩

end Go.Vx
