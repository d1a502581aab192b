/-
  A run told in advance, part twenty-two: the theorem on drawn regions; the code; calls. No condition.
-/
import Derived.Test.YtdglogdigiajbaaGreatDoorVxU
set_option linter.unusedSectionVars false
set_option linter.unusedSimpArgs false
set_option linter.unusedVariables false
namespace Go.Vx
open Go.RowKit

section
variable {E : Env} {P : Program} (hE : E.Ok P) {call : CallX} (hcall : CallOk P E call)

theorem ready_iff {ops : Array Oper} {listed : Array Bool} (hsz : listed.size = ops.size) (i : Nat) :
    i ∈ Region.ready .any ops listed ↔ i < ops.size ∧ listed.getD i false = false ∧ ∀ o, ops[i]? = some o → ∀ e ∈ o.after.toList, Region.binds .any e = true → listed.getD e.on false = true := by
  unfold Region.ready
  rw [List.mem_filter, List.mem_range]
  have hT : ∀ j, j < ops.size → listed.getD j true = listed.getD j false := by
    intro j hj
    have : j < listed.size := by omega
    simp [Array.getD_eq_getD_getElem?, Array.getElem?_eq_getElem this]
  have hout : ∀ j, ops.size ≤ j → listed.getD j false = false := by
    intro j hj
    have : listed[j]? = none := Array.getElem?_eq_none_iff.2 (by omega)
    simp [Array.getD_eq_getD_getElem?, this]
  refine and_congr_right fun hi => ?_
  rw [Array.getElem?_eq_getElem hi, hT i hi]
  simp only [Bool.and_eq_true, Bool.not_eq_true', Option.map_some, Option.getD_some]
  rw [← Array.all_toList]
  refine and_congr_right fun _ => ?_
  constructor
  · intro c2 o ho e he hb
    obtain rfl := Option.some.inj ho
    have := List.all_eq_true.1 c2 e he
    rw [hb] at this
    simpa using this
  · intro hc
    refine List.all_eq_true.2 fun e he => ?_
    cases hb : Region.binds .any e with
    | false => rfl
    | true => simpa using hc _ rfl e he hb

/-- An operation whose edges and guard are told by new places. -/
def mapO (pos : Nat → Nat) (o : Oper) : Oper := { o with after := ⟨o.after.toList.map fun e => ⟨pos e.on, e.ground⟩⟩, guard := o.guard.map fun p => (pos p.1, p.2) }

theorem wpAny_perm {ops ops' : Array Oper} {Q : Exit → Act → World → Prop} {n : Nat} {π pos : Nat → Nat} (hn : ops.size = n) (hn' : ops'.size = n) (h1 : ∀ p, p < n → π p < n ∧ pos (π p) = p) (h2 : ∀ i, i < n → pos i < n ∧ π (pos i) = i) (h3 : ∀ i, n ≤ i → n ≤ pos i)
    (hops : ∀ p, p < n → ∃ o, ops[π p]? = some o ∧ ops'[p]? = some (mapO pos o)) :
    ∀ (fuel : Nat) (listed listed' : Array Bool) (a : Act) (w : World), listed.size = n → listed'.size = n → (∀ p, p < n → listed'.getD p false = listed.getD (π p) false) → wpAny P .any ops' Q fuel listed' a w → wpAny P .any ops Q fuel listed a w := by
  have on : ∀ (listed listed' : Array Bool), listed.size = n → listed'.size = n → (∀ p, p < n → listed'.getD p false = listed.getD (π p) false) → ∀ j, listed'.getD (pos j) false = listed.getD j false := by
    intro listed listed' s1 s2 hl j
    by_cases hj : j < n
    · rw [hl _ (h2 j hj).1, (h2 j hj).2]
    · have e1 : listed[j]? = none := Array.getElem?_eq_none_iff.2 (by omega)
      have e2 : listed'[pos j]? = none := Array.getElem?_eq_none_iff.2 (by have := h3 j (by omega); omega)
      simp [Array.getD_eq_getD_getElem?, e1, e2]
  have rdy : ∀ (listed listed' : Array Bool), listed.size = n → listed'.size = n → (∀ p, p < n → listed'.getD p false = listed.getD (π p) false) → ∀ p, p < n → (p ∈ Region.ready .any ops' listed' ↔ π p ∈ Region.ready .any ops listed) := by
    intro listed listed' s1 s2 hl p hp
    rw [ready_iff (by omega), ready_iff (by omega), hn, hn', hl p hp]
    obtain ⟨o, g1, g2⟩ := hops p hp
    rw [g1, g2]
    have e := on listed listed' s1 s2 hl
    constructor
    · rintro ⟨_, q2, q3⟩
      refine ⟨(h1 p hp).1, q2, fun o' ho' x hx hb => ?_⟩
      obtain rfl := Option.some.inj ho'
      rw [← e]
      exact q3 _ rfl ⟨pos x.on, x.ground⟩ (List.mem_map.2 ⟨x, hx, rfl⟩) hb
    · rintro ⟨_, q2, q3⟩
      refine ⟨hp, q2, fun o' ho' x hx hb => ?_⟩
      obtain rfl := Option.some.inj ho'
      obtain ⟨y, hy, rfl⟩ := List.mem_map.1 hx
      rw [e]
      exact q3 _ rfl y hy hb
  have yld : ∀ (t : Array Value) (j : Nat), yielded ops' t (pos j) = yielded ops t j := by
    intro t j
    unfold yielded
    by_cases hj : j < n
    · obtain ⟨o, g1, g2⟩ := hops (pos j) (h2 j hj).1
      rw [(h2 j hj).2] at g1
      rw [g1, g2]
      rfl
    · rw [Array.getElem?_eq_none_iff.2 (by omega : ops.size ≤ j), Array.getElem?_eq_none_iff.2 (by have := h3 j (by omega); omega : ops'.size ≤ pos j)]
  have opw : ∀ (p : Nat) (K K' : Act → World → Prop) (a : Act) (w : World), p < n → (∀ a w, K' a w → K a w) → wpOp P ops' Q p K' a w → wpOp P ops Q (π p) K a w := by
    intro p K K' a w hp hK h
    obtain ⟨o, g1, g2⟩ := hops p hp
    unfold wpOp at h ⊢
    rw [g2] at h
    rw [g1]
    simp only at h ⊢
    have hw : Region.wanted (mapO pos o) (yielded ops' a.tmps) = Region.wanted o (yielded ops a.tmps) := by
      unfold Region.wanted mapO
      cases hg : o.guard with
      | none => rfl
      | some q => simp only [Option.map_some, yld]
    rw [hw] at h
    by_cases c : Region.wanted o (yielded ops a.tmps) = true
    · rw [if_pos c] at h ⊢
      rcases h with h | h
      · exact .inl (Oper.wp_mono (o := o) hK h)
      · exact .inr h
    · rw [if_neg c] at h ⊢
      exact hK _ _ h
  intro fuel
  induction fuel with
  | zero =>
    intro listed listed' a w s1 s2 hl h
    refine ⟨?_, h.2⟩
    rw [List.eq_nil_iff_forall_not_mem]
    intro i hi
    have hin : i < n := by have := ((ready_iff (by omega) i).1 hi).1; omega
    have := (rdy listed listed' s1 s2 hl (pos i) (h2 i hin).1).2 (by rw [(h2 i hin).2]; exact hi)
    rw [h.1] at this
    simp at this
  | succ fuel ih =>
    intro listed listed' a w s1 s2 hl h
    refine ⟨fun hnil => h.1 ?_, fun i hi => ?_⟩
    · rw [List.eq_nil_iff_forall_not_mem]
      intro p hp
      have hpn : p < n := by have := ((ready_iff (by omega) p).1 hp).1; omega
      have := (rdy listed listed' s1 s2 hl p hpn).1 hp
      rw [hnil] at this
      simp at this
    · have hin : i < n := by have := ((ready_iff (by omega) i).1 hi).1; omega
      have hp := h2 i hin
      have hr := (rdy listed listed' s1 s2 hl (pos i) hp.1).2 (by rw [hp.2]; exact hi)
      have hop := h.2 (pos i) hr
      have := opw (pos i) (wpAny P .any ops Q fuel (listed.setIfInBounds i true)) _ a w hp.1 (fun a w hh => ih (listed.setIfInBounds i true) (listed'.setIfInBounds (pos i) true) a w (by simpa using s1) (by simpa using s2) (fun q hq => ?_) hh) hop
      · rw [hp.2] at this
        exact this
      · have hq1 := h1 q hq
        by_cases e : q = pos i
        · subst e
          rw [hp.2]
          simp [Array.getD_eq_getD_getElem?, s1, s2, hin, hp.1]
        · have e' : π q ≠ i := fun h => e (by rw [← h]; exact hq1.2.symm)
          have := hl q hq
          simp only [Array.getD_eq_getD_getElem?] at this ⊢
          rw [Array.getElem?_setIfInBounds_ne (Ne.symm e), Array.getElem?_setIfInBounds_ne (Ne.symm e')]
          exact this

theorem natsK_eq {β : Type} (l : List Nat) (f : List Nat → β) : natsK l f = f l := by
  induction l generalizing f with
  | nil => rfl
  | cons n l ih =>
    have e : natsK (n :: l) f = natK n fun n => natsK l fun m => f (n :: m) := rfl
    rw [e, natK_eq, ih]

theorem edgesK_eq {β : Type} (q : List Nat) (l : List Edge) (f : List Edge → β) : edgesK q l f = f (l.map fun e => ⟨posOf e.on q 0, e.ground⟩) := by
  induction l generalizing f with
  | nil => rfl
  | cons n l ih =>
    have e : edgesK q (n :: l) f = natK (posOf n.on q 0) fun k => edgesK q l fun m => f (⟨k, n.ground⟩ :: m) := rfl
    rw [e, natK_eq, ih]; rfl

theorem guardK_eq {β : Type} (q : List Nat) (g : Option (Nat × Bool)) (f : Option (Nat × Bool) → β) : guardK q g f = f (g.map fun p => (posOf p.1 q 0, p.2)) := by
  cases g with
  | none => rfl
  | some p =>
    obtain ⟨j, w⟩ := p
    show natK (posOf j q 0) (fun n => f (some (n, w))) = _
    rw [natK_eq]; rfl

theorem operK_eq {β : Type} (q : List Nat) (o : Oper) (f : Oper → β) : operK q o f = f (mapO (fun i => posOf i q 0) o) := by
  unfold operK
  rw [edgesK_eq, guardK_eq]
  rfl

theorem opersK_eq {β : Type} (all : List Oper) (q : List Nat) (l : List Nat) (f : List Oper → β) : opersK all q l f = f (l.filterMap fun n => (all[n]?).map (mapO fun i => posOf i q 0)) := by
  induction l generalizing f with
  | nil => rfl
  | cons n l ih =>
    have e : opersK all q (n :: l) f = match all[n]? with
      | some o => operK q o fun o => opersK all q l fun m => f (o :: m)
      | none => opersK all q l f := rfl
    rw [e]
    cases h : all[n]? with
    | none => simp only [h, List.filterMap_cons, Option.map_none]; exact ih f
    | some o => simp only [h, List.filterMap_cons, Option.map_some, operK_eq]; exact ih _

theorem posOf_spec (i : Nat) : ∀ (l : List Nat) (p : Nat), p ≤ posOf i l p ∧ posOf i l p ≤ p + l.length ∧ (posOf i l p < p + l.length → l[posOf i l p - p]? = some i) ∧ (posOf i l p = p + l.length → i ∉ l)
  | [], p => by simp [posOf]
  | j :: l, p => by
    obtain ⟨a, b, c, d⟩ := posOf_spec i l (Nat.succ p)
    unfold posOf
    split
    · rename_i h
      have := Nat.eq_of_beq_eq_true h
      subst this
      simp
    · rename_i h
      have hne : i ≠ j := fun e => by subst e; simp at h
      simp only [List.length_cons]
      refine ⟨by omega, by omega, fun h => ?_, fun h => ?_⟩
      · have h1 := c (by omega)
        have e : posOf i l (Nat.succ p) - p = (posOf i l (Nat.succ p) - Nat.succ p) + 1 := by omega
        rw [e]; simpa using h1
      · simp only [List.mem_cons, not_or]
        exact ⟨hne, d (by omega)⟩

include hE hcall in
theorem drawY_ok {ops : Array Oper} {lo : Nat} {Q : Exit → Act → World → Prop} {f f' : Fr} {s s' : St} {a : Act} {w : World} {R : Ren} (h : drawY ops.toList E call lo f s = some (f', s')) (hR : Rel R s w) (hF : FrOk R s.nx f a) (hG : f.G = E.G) (hlo : lo ≤ s.nx)
    (hQ : ∀ R' a' w', Rel R' s' w' → Mv lo R s w R' s' w' → FrOk R' s'.nx f' a' → f'.G = E.G → a'.defers = a.defers → Q .normal a' w') :
    wpAny P .any ops Q ops.size (Array.replicate ops.size false) a w := by
  unfold drawY at h
  split at h
  · rename_i bs hbs
    obtain ⟨hbef, hlen, hslots⟩ := plan_ok hbs
    obtain ⟨F, S, M, V, h1, h2, h3, h4, h5, h6⟩ := drawN_trace _ 0 _ f s h hF.out hF.le
    have hzl : (ops.toList.zip bs).length = ops.toList.length := by simp [hlen]
    rw [hzl] at h4 h5
    simp only at h4 h5
    have C : Cn E call lo s.nx ops.toList bs F S M V := {
      step := fun i o b ho hb => by
        have := h6 i o b (by rw [List.getElem?_zip_eq_some]; exact ⟨ho, hb⟩)
        rwa [Nat.zero_add] at this
      s0 := by rw [h2]
      m0 := h3
      f0 := by rw [h1]; exact hF.le
      out := by rw [h1]; exact hF.out
      bef := hbef
      len := hlen
      slots := hslots
      lo_le := hlo
      limit := hR.lim }
    have hf0 : ∀ t v, (F 0).T.get t = some v → Bnd s.nx v := by rw [h1]; exact hF.bnd
    have hglob : ∀ x, x < (F 0).G → R.blk x = x ∧ x < s.nx := by rw [h1]; exact hF.glob
    have hG0 : (F 0).G = E.G := by rw [h1]; exact hG
    have hLD0 : ∀ n o, LD ops.toList.length S (fun _ => false) 0 n o ↔ s.get n = some o := by
      intro n o
      constructor
      · intro h
        rcases h with ⟨_, h⟩ | ⟨_, j, _, h, _⟩
        · rw [h2] at h; exact h
        · simp at h
      · intro h
        exact .inl ⟨by rw [h2]; exact (hR.bnd n o h).1, by rw [h2]; exact h⟩
    have I0 : InvR E call lo s.nx ops.toList bs F S M V R w a (fun _ => false) R 0 a w := {
      down := fun j hj => by simp at hj
      kap1 := .inl rfl
      kap2 := fun u _ hu => by simp at hu
      bd := fun t ht n o h => by
        rcases ht with rfl | ⟨u, _, _, hu⟩
        · rw [h2] at h ⊢; exact hR.bnd n o h
        · simp at hu
      xb := fun j hj => by simp at hj
      vb := fun j hj => by simp at hj
      live := fun n o h => hR.live n o ((hLD0 n o).1 h)
      inj := fun n m o o' h1 h2 he => hR.inj n m o o' ((hLD0 n o).1 h1) ((hLD0 m o').1 h2) he
      blk := fun _ _ => rfl
      cap := fun _ _ => rfl
      opq := rfl
      keep := fun n o _ => by rw [hLD0, h2]
      os := rfl
      tape := rfl
      output := rfl
      size := Nat.le_refl _
      frame := fun _ _ _ => rfl
      back := fun n o hl h _ => ⟨n, o, hl, by rw [h2]; exact (hLD0 n o).1 h, rfl⟩
      tsz := by rw [h1]; exact hF.size
      tmp := fun t ht => by
        rw [h1] at ht ⊢
        rw [hF.tmp t ht]
        congr 2
        have : ∀ n, slotD ops.toList (fun _ => false) V f t n = (f.T.get t).getD (.tup []) := by
          intro n
          induction n with
          | zero => rfl
          | succ n ih => unfold slotD; simp [ih]
        exact (this _).symm
      defers := rfl }
    have main : ∀ (fuel : Nat) (listed : Array Bool) (D : Nat → Bool) (R' : Ren) (κ : Nat) (a' : Act) (w' : World), listed.size = ops.size → (∀ i, i < ops.size → listed.getD i false = D i) → (∀ i, ops.size ≤ i → D i = false) → todoN D ops.size = fuel →
        InvR E call lo s.nx ops.toList bs F S M V R w a D R' κ a' w' → wpAny P .any ops Q fuel listed a' w' := by
      intro fuel
      induction fuel with
      | zero =>
        intro listed D R' κ a' w' hsz hD hDout htodo I
        have hall := todoN_zero htodo
        have hnl : ops.toList.length = ops.size := by simp
        refine ⟨?_, ?_⟩
        · unfold Region.ready
          rw [List.filter_eq_nil_iff]
          intro i hi
          have hi := List.mem_range.1 hi
          have := hD i hi
          rw [hall i hi] at this
          have hg : listed.getD i true = true := by
            simp only [Array.getD_eq_getD_getElem?] at this ⊢
            cases hl : listed[i]? with
            | none => rw [hl] at this; simp at this
            | some b => rw [hl] at this; simpa using this
          simp [hg]
        · have hκl := I.good C I.kap1
          have hnw : ∀ t, κ ≤ t → t < ops.toList.length → ¬ Wild E call lo ops.toList bs F S M V t := by
            intro t t1 t2 hW
            have := I.kap2 t hW (hall t (by omega))
            omega
          have hbd := I.bd κ I.kap1
          obtain ⟨c1, c2, c3⟩ := C.chain (fun n o h => (hbd n o h).1) hκl (Nat.le_refl _) hnw
          have hmono := (C.mono (i := κ) (j := ops.toList.length) hκl (Nat.le_refl _)).1
          rw [← h5] at hQ
          have hLD : ∀ n o, (S ops.toList.length).get n = some o → LD ops.toList.length S D κ n o ∧ n < (S ops.toList.length).nx ∧ OBnd (S ops.toList.length).nx o := by
            intro n o h
            by_cases hn : n < (S κ).nx
            · have h' := h
              rw [c1 n hn] at h
              exact ⟨.inl ⟨hn, h⟩, c2 n o h', (hbd n o h).2.mono hmono⟩
            · obtain ⟨j, j1, j2, j3, j4, j5, j6⟩ := c3 n o h (by omega)
              have hDj := hall j (by omega)
              have hm2 := (C.mono (i := j + 1) (j := ops.toList.length) (by omega) (Nat.le_refl _)).1
              exact ⟨.inr ⟨by omega, j, j2, hDj, j1, j3, j4, j5, j6⟩, c2 n o h, (I.xb j hDj (hnw j j1 j2) j6 n o j3 j4 j5).1.mono hm2⟩
          have hslot : ∀ t, slotD ops.toList D V (F 0) t ops.toList.length = ((F ops.toList.length).T.get t).getD (.tup []) := by
            intro t
            rw [(C.frames (Nat.le_refl _)).2.2.2 t]
            exact slotD_congr fun j hj _ => hall j (by omega)
          obtain ⟨f1, f2, f3, f4⟩ := C.frames (i := ops.toList.length) (Nat.le_refl _)
          have hloκ : lo ≤ (S κ).nx := Nat.le_trans hlo (C.nx_n0 hκl)
          refine hQ R' a' w' ⟨fun n o h => I.live n o (hLD n o h).1, fun n m o o' h1 h2 he => I.inj n m o o' (hLD n o h1).1 (hLD m o' h2).1 he, fun n o h => (hLD n o h).2, C.nx_lim (Nat.le_refl _)⟩ ?_ ?_ ?_ I.defers
          · refine ⟨fun n hn => I.blk n hn, fun n hn => I.cap n hn, I.opq, C.nx_n0 (Nat.le_refl _), fun n hn => ?_, I.os, I.tape, I.output, I.size, fun b hb hnb => I.frame b hb fun n o g1 g2 => hnb n o g1 (by rw [h2] at g2; exact g2), fun n o g1 g2 g3 => ?_⟩
            · have hkeep := fun o => I.keep n o hn
              rw [h2] at hkeep
              have hgl : (S ops.toList.length).get n = (S κ).get n := c1 n (by omega)
              cases hg : (S ops.toList.length).get n with
              | some o =>
                exact ((hkeep o).1 (hLD n o hg).1).symm
              | none =>
                cases hg2 : s.get n with
                | none => rfl
                | some o =>
                  exfalso
                  rcases (hkeep o).2 hg2 with ⟨_, h⟩ | ⟨h, _⟩
                  · rw [← hgl, hg] at h; simp at h
                  · omega
            · obtain ⟨m, o', k1, k2, k3⟩ := I.back n o g1 (hLD n o g2).1 g3
              rw [h2] at k2
              exact ⟨m, o', k1, k2, k3⟩
          · rw [← h4]
            refine ⟨by rw [I.tsz, f1], fun t ht => ?_, fun t ht => f3 t (by rw [← f1]; exact ht), fun t v hv => ?_, fun x hx => ?_, by rw [f1]; exact C.f0⟩
            · rw [f1] at ht
              rw [I.tmp t ht, hslot t]
            · have e := hslot t
              rw [hv] at e
              have e : slotD ops.toList D V (F 0) t ops.toList.length = v := e
              rcases slot_from (all := ops.toList) (D := D) (V := V) (f := F 0) (t := t) ops.toList.length with h | ⟨j, g1, g2, g3, g4⟩
              · rw [h] at e
                cases hg0 : (F 0).T.get t with
                | none => rw [hg0] at e; subst e; simp [Bnd, BndL]
                | some u => rw [hg0] at e; subst e; exact (hf0 t _ hg0).mono (C.nx_n0 (Nat.le_refl _))
              · rw [g4] at e
                subst e
                exact (I.vb j g2).1.mono (C.mono (i := j + 1) (j := ops.toList.length) g1 (Nat.le_refl _)).1
            · rw [f2] at hx
              have := hglob x hx
              have hn := C.nx_n0 (j := ops.toList.length) (Nat.le_refl _)
              exact ⟨by rw [I.blk x (.inl this.2)]; exact this.1, by omega⟩
          · rw [← h4, f2]; exact hG0
      | succ fuel ih =>
        intro listed D R' κ a' w' hsz hD hDout htodo I
        have hready : ∀ i, i ∈ Region.ready .any ops listed ↔ i < ops.size ∧ D i = false ∧ ∀ o, ops[i]? = some o → ∀ e ∈ o.after.toList, Region.binds .any e = true → D e.on = true := by
          intro i
          unfold Region.ready
          rw [List.mem_filter, List.mem_range]
          constructor
          · rintro ⟨hi, hc⟩
            simp only [Bool.and_eq_true, Bool.not_eq_true'] at hc
            obtain ⟨c1, c2⟩ := hc
            have hDi : D i = false := by
              rw [← hD i hi]
              simp only [Array.getD_eq_getD_getElem?] at c1 ⊢
              cases hl : listed[i]? with
              | none => rfl
              | some b => rw [hl] at c1; simpa using c1
            refine ⟨hi, hDi, fun o ho e he hb => ?_⟩
            rw [ho] at c2
            simp only [Option.map_some, Option.getD_some] at c2
            rw [← Array.all_toList] at c2
            have := List.all_eq_true.1 c2 e he
            rw [hb] at this
            simp only [Bool.not_true, Bool.false_or] at this
            by_cases hlt : e.on < ops.size
            · rw [← hD e.on hlt]; exact this
            · have hnone : listed[e.on]? = none := Array.getElem?_eq_none_iff.2 (by omega)
              simp only [Array.getD_eq_getD_getElem?, hnone] at this
              simp at this
          · rintro ⟨hi, hDi, hc⟩
            refine ⟨hi, ?_⟩
            have hl := hD i hi
            rw [hDi] at hl
            have hs : i < listed.size := by omega
            have hg : listed.getD i true = false := by
              simp only [Array.getD_eq_getD_getElem?, Array.getElem?_eq_getElem hs] at hl ⊢
              simpa using hl
            rw [hg, Array.getElem?_eq_getElem hi]
            simp only [Bool.not_false, Option.map_some, Option.getD_some, Bool.true_and]
            rw [← Array.all_toList]
            refine List.all_eq_true.2 fun e he => ?_
            cases hb : Region.binds .any e with
            | false => rfl
            | true =>
              have hDe := hc ops[i] (Array.getElem?_eq_getElem hi) e he hb
              have hlt : e.on < ops.size := by
                rcases Nat.lt_or_ge e.on ops.size with h | h
                · exact h
                · rw [hDout e.on h] at hDe; simp at hDe
              rw [hD e.on hlt, hDe]; rfl
        refine ⟨fun hnil => ?_, fun i hi => ?_⟩
        · exfalso
          obtain ⟨i, i1, i2, i3⟩ := todoN_pos (D := D) (n := ops.size) (by omega)
          have : i ∈ Region.ready .any ops listed := (hready i).2 ⟨i1, i2, fun o ho e he hb => by
            have hl : i < ops.toList.length := by simpa using i1
            obtain ⟨o', b', ho', hb'⟩ := C.at hl
            have : o' = o := by
              have : ops[i]? = some o' := by simpa using ho'
              rw [ho] at this; exact (Option.some.inj this).symm
            subst this
            exact i3 e.on ((hbef.mask i o' b' ho' hb').2 e he hb)⟩
          rw [hnil] at this
          simp at this
        · obtain ⟨i1, i2, i3⟩ := (hready i).1 hi
          have hl : i < ops.toList.length := by simpa using i1
          obtain ⟨o, b, ho, hb⟩ := C.at hl
          have hopo : ops[i]? = some o := by simpa using ho
          have hpre : ∀ k, Nat.testBit b k = true → D k = true := by
            intro k hk
            obtain ⟨e, e1, e2, e3, e4⟩ := (hbef.mask i o b ho hb).1 k hk
            have hDe := i3 o hopo e e1 e2
            rcases e4 with rfl | ⟨b', q1, q2⟩
            · exact hDe
            · exact (I.down e.on hDe).2 b' k q1 q2
          refine I.doIt (i := i) C hE hcall rfl ho hb i2 hpre hf0 hglob hG0 _ fun R2 κ2 a2 w2 I2 => ?_
          refine ih (listed.setIfInBounds i true) (also i D) R2 κ2 a2 w2 (by simpa using hsz) (fun j hj => ?_) (fun j hj => ?_) ?_ I2
          · by_cases e : j = i
            · subst e
              rw [also_self]
              simp [Array.getD_eq_getD_getElem?, hsz, i1]
            · rw [also_ne e, ← hD j hj]
              simp [Array.getD_eq_getD_getElem?, Array.getElem?_setIfInBounds_ne (Ne.symm e)]
          · have e : j ≠ i := by omega
            rw [also_ne e]; exact hDout j hj
          · have := todoN_also (D := D) (i := i) (n := ops.size) i1 i2
            omega
    refine main ops.size _ (fun _ => false) R 0 a w (by simp) (fun i hi => ?_) (fun _ _ => rfl) ?_ I0
    · simp [Array.getD_eq_getD_getElem?, hi]
    · have : ∀ n, todoN (fun _ => false) n = n := by
        intro n
        induction n with
        | zero => rfl
        | succ n ih => unfold todoN; rw [ih]; rfl
      exact this _
  · simp at h

include hE hcall in
theorem drawX_ok {ops : Array Oper} {lo : Nat} {Q : Exit → Act → World → Prop} {f f' : Fr} {s s' : St} {a : Act} {w : World} {R : Ren} (h : drawX ops.toList E call lo f s = some (f', s')) (hR : Rel R s w) (hF : FrOk R s.nx f a) (hG : f.G = E.G) (hlo : lo ≤ s.nx)
    (hQ : ∀ R' a' w', Rel R' s' w' → Mv lo R s w R' s' w' → FrOk R' s'.nx f' a' → f'.G = E.G → a'.defers = a.defers → Q .normal a' w') :
    wpAny P .any ops Q ops.size (Array.replicate ops.size false) a w := by
  unfold drawX sinkK at h
  split at h
  · exact drawY_ok hE hcall h hR hF hG hlo hQ
  · split at h
    · simp at h
    · rename_i bs _
      rw [natsK_eq] at h
      generalize sinkN ops.toList bs 0 [] = q at h
      split at h
      · rename_i hq
        rw [opersK_eq] at h
        unfold orderOk at hq
        simp only [Bool.and_eq_true] at hq
        obtain ⟨hlen, hall⟩ := hq
        have hlen : q.length = ops.size := by simpa using Nat.eq_of_beq_eq_true hlen
        have hsz : ops.toList.length = ops.size := by simp
        have hc : ∀ i, i < ops.size → posOf i q 0 < ops.size ∧ ∃ j, q[i]? = some j ∧ j < ops.size ∧ posOf j q 0 = i := by
          intro i hi
          have := List.all_eq_true.1 hall i (List.mem_range.2 (by omega))
          simp only [Bool.and_eq_true] at this
          refine ⟨by have := Nat.le_of_ble_eq_true this.1; omega, ?_⟩
          have h2 := this.2
          split at h2
          · rename_i j hj
            simp only [Bool.and_eq_true] at h2
            exact ⟨j, hj, by have := Nat.le_of_ble_eq_true h2.1; omega, Nat.eq_of_beq_eq_true h2.2⟩
          · simp at h2
        let L : List Oper := q.filterMap fun n => (ops.toList[n]?).map (mapO fun i => posOf i q 0)
        have hL : ∀ (l : List Nat), (∀ j ∈ l, j < ops.size) → (l.filterMap fun n => (ops.toList[n]?).map (mapO fun i => posOf i q 0)) = l.map fun n => mapO (fun i => posOf i q 0) (ops.getD n default) := by
          intro l hl
          induction l with
          | nil => rfl
          | cons j l ih =>
            have hj := hl j (by simp)
            rw [List.filterMap_cons, List.map_cons, ih fun k hk => hl k (List.mem_cons_of_mem _ hk)]
            simp [Array.getElem?_eq_getElem hj, Array.getD_eq_getD_getElem?]
        have hmem : ∀ j ∈ q, j < ops.size := by
          intro j hj
          obtain ⟨i, hi, he⟩ := List.getElem_of_mem hj
          obtain ⟨_, j', h1, h2, _⟩ := hc i (by omega)
          rw [List.getElem?_eq_getElem hi, he] at h1
          obtain rfl := Option.some.inj h1
          exact h2
        have hLq := hL q hmem
        rw [hLq] at h
        let ops' : Array Oper := ⟨q.map fun n => mapO (fun i => posOf i q 0) (ops.getD n default)⟩
        have hs' : ops'.size = ops.size := by simp [ops', hlen]
        have main := drawY_ok (ops := ops') hE hcall h hR hF hG hlo hQ
        rw [hs'] at main
        refine wpAny_perm (π := fun p => q.getD p 0) (pos := fun i => posOf i q 0) (n := ops.size) rfl hs' (fun p hp => ?_) (fun i hi => ?_) (fun i hi => ?_) (fun p hp => ?_) ops.size _ _ a w (by simp) (by simp) (fun p hp => ?_) main
        · obtain ⟨_, j, h1, h2, h3⟩ := hc p hp
          have e : q.getD p 0 = j := by simp [List.getD, h1]
          rw [e]
          exact ⟨h2, h3⟩
        · have h1 := (hc i hi).1
          have h2 := (posOf_spec i q 0).2.2.1 (by omega)
          refine ⟨h1, ?_⟩
          simp only [Nat.sub_zero] at h2
          simp [List.getD, h2]
        · have h1 := posOf_spec i q 0
          rcases Nat.lt_or_ge (posOf i q 0) ops.size with h | h
          · have h2 := h1.2.2.1 (by omega)
            have := hmem i (List.mem_of_getElem? h2)
            omega
          · exact h
        · obtain ⟨_, j, h1, h2, h3⟩ := hc p hp
          have e : q.getD p 0 = j := by simp [List.getD, h1]
          refine ⟨ops.getD j default, ?_, ?_⟩
          · rw [e]; simp [Array.getD_eq_getD_getElem?, Array.getElem?_eq_getElem h2]
          · simp [ops', h1]
        · have h1 : q.getD p 0 < ops.size := by
            obtain ⟨_, j, h1, h2, h3⟩ := hc p hp
            have e : q.getD p 0 = j := by simp [List.getD, h1]
            omega
          have hrep : ∀ j, j < ops.size → (Array.replicate ops.size false).getD j false = false := fun j hj => by simp [Array.getD_eq_getD_getElem?, hj]
          rw [hrep p hp]
          exact (hrep _ h1).symm
      · simp at h

end
end Go.Vx
