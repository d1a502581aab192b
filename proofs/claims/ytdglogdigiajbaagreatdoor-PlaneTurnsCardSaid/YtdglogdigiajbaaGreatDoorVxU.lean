/-
  A run told in advance, part twenty-one: drawn regions, to the end. No condition.
-/
import Derived.Test.YtdglogdigiajbaaGreatDoorVxT
set_option linter.unusedSectionVars false
set_option linter.unusedSimpArgs false
set_option linter.unusedVariables false
namespace Go.Vx
open Go.RowKit

section
variable {E : Env} {call : CallX} {lo n0 : Nat} {all : List Oper} {bs : List Nat} {F : Nat → Fr} {S : Nat → St} {M : Nat → Met} {V : Nat → AV} {R0 : Ren} {w0 : World} {a0 : Act}
variable {D : Nat → Bool} {R : Ren} {κ : Nat} {a : Act} {w : World}
variable (C : Cn E call lo n0 all bs F S M V) (I : InvR E call lo n0 all bs F S M V R0 w0 a0 D R κ a w)
variable {i : Nat} {o : Oper} {b : Nat} (ho : all[i]? = some o) (hb : bs[i]? = some b) (hDi : D i = false) (hpre : ∀ k, Nat.testBit b k = true → D k = true)

include C I ho hb hDi hpre in
/-- Behind an operation that has written what was there. -/
theorem InvR.next_wild (hf0 : ∀ t v, (F 0).T.get t = some v → Bnd n0 v) (hW : Wild E call lo all bs F S M V i) {R' : Ren} {w' : World} (hrel : Rel R' (S (i + 1)) w') (hmv : Mv lo R (S i) w R' (S (i + 1)) w')
    (hv : Bnd (S (i + 1)).nx (V i)) (v' : Value) (hv' : v' = conc R' (V i)) :
    InvR E call lo n0 all bs F S M V R0 w0 a0 (also i D) R' (i + 1) (a.put o.dst v') w' := by
  have hi := lt_of_get ho
  obtain ⟨o', b', g, wr, ho', hb', hg, hwant, hrm, hwm, htm, hwo, hst, hk, hn, hl, hm⟩ := id hW
  rw [hb] at hb'
  obtain rfl := Option.some.inj hb'
  have hsee := I.sees C hi hDi hb hpre hrm hwm (C.wildM hW).2.2.2.2.2.2.2.2.1
  obtain ⟨hκ, hsame, hsees⟩ := hsee
  have hoff : Off (S i).nx (S (i + 1)).nx R R' := ⟨fun k hk => hmv.blk k hk, fun k hk => hmv.cap k hk, hmv.opq⟩
  have hag : ∀ n, n ≤ (S i).nx ∨ (S (i + 1)).nx ≤ (S i).nx → Agree n R R' := fun n hn => hoff.agree hn
  have hsl := I.slots_next C ho hb hDi hf0 hoff v' hv'
  have hn0 := C.nx_n0 (j := i) (by omega)
  have hloi : lo ≤ (S i).nx := Nat.le_trans C.lo_le hn0
  have hκi := (C.mono (i := κ) (j := i) hκ (by omega)).1
  have hloκ : lo ≤ (S κ).nx := Nat.le_trans C.lo_le (C.nx_n0 (I.good C I.kap1))
  have split : ∀ n ob, LD all.length S (also i D) (i + 1) n ob → (n < (S (i + 1)).nx ∧ (S (i + 1)).get n = some ob) ∨ ((S (i + 1)).nx ≤ n ∧ LD all.length S D κ n ob ∧ R'.blk n = R.blk n ∧ ORel R' ob = ORel R ob ∧ w'.heap[R.blk n]? = w.heap[R.blk n]?) := by
    intro n ob h
    rcases h with h | ⟨h1, j, h2, h3, h4, h5, h6, h7, h8⟩
    · exact .inl h
    · right
      have hDj : D j = true := by
        rcases also_cases h3 with e | e
        · omega
        · exact e
      have hLD : LD all.length S D κ n ob := .inr ⟨by omega, j, h2, hDj, by omega, h5, h6, h7, h8⟩
      have hnw : ¬ Wild E call lo all bs F S M V j := fun hWj => by have := I.kap2 j hWj hDj; omega
      obtain ⟨x, hx, hr⟩ := I.live n ob hLD
      have hlt := (Array.getElem?_eq_some_iff.1 hx).1
      refine ⟨h1, hLD, hmv.blk n (.inr h1), ?_, ?_⟩
      · have hob := I.xb j hDj hnw h8 n ob h5 h6 h7
        funext y
        rcases Nat.lt_or_ge (S i).nx (S (i + 1)).nx with hr2 | hr2
        · obtain ⟨_, b', _, hb'⟩ := C.at (i := j) h2
          rcases hob.2 i b' (by omega) hr2 hb' with h9 | h9
          · rw [I.undone C hDi hDj hb'] at h9
            simp at h9
          · have hm := (C.mono (i := i + 1) (j := j) (by omega) (by omega)).1
            have hA := hoff.agreeP (p := Own n0 (S j).nx) fun k hk => by unfold Own at hk; omega
            exact propext ⟨fun hh => hh.agreeP hA.symm h9, fun hh => hh.agreeP hA h9⟩
        · have hA := hag (S (j + 1)).nx (.inr hr2)
          refine propext ⟨fun hh => ?_, fun hh => hh.agree hA hob.1⟩
          have hA' : Agree (S (j + 1)).nx R' R := ⟨fun k hk => (hA.blk k hk).symm, fun k hk => (hA.cap k hk).symm, hA.opq.symm⟩
          exact hh.agree hA' hob.1
      · refine hmv.frame _ hlt fun n' ob' g1 g2 g3 => ?_
        obtain ⟨q1, q2, q3⟩ := hsees n' ob' g2
        have := I.inj n' n ob' ob q2 hLD g3
        omega
  refine {
    down := fun j hj => ?_
    kap1 := .inr ⟨i, rfl, hW, also_self i D⟩
    kap2 := fun u hu hD => ?_
    bd := fun t ht n ob h => ?_
    xb := fun j hD hnW hdiff n ob h1 h2 h3 => ?_
    vb := fun j hD => ?_
    live := fun n ob h => ?_
    inj := fun n m ob ob' h1 h2 he => ?_
    blk := fun n hn => ?_
    cap := fun n hn => ?_
    opq := hmv.opq.trans I.opq
    keep := fun n ob hn => ?_
    os := hmv.os.trans I.os
    tape := hmv.tape.trans I.tape
    output := hmv.output.trans I.output
    size := Nat.le_trans I.size hmv.size
    frame := fun bb h1 h2 => ?_
    back := fun n ob h1 h2 h3 => ?_
    tsz := hsl.1
    tmp := hsl.2
    defers := ?_ }
  · rcases also_cases hj with e | e
    · subst e
      refine ⟨hi, fun b' k hb' hk => ?_⟩
      rw [hb] at hb'
      obtain rfl := Option.some.inj hb'
      exact also_old (hpre k hk)
    · exact ⟨(I.down j e).1, fun b' k hb' hk => also_old ((I.down j e).2 b' k hb' hk)⟩
  · rcases also_cases hD with e | e
    · omega
    · have := I.kap2 u hu e; omega
  · rcases ht with e | ⟨u, h1, h2, h3⟩
    · exact I.bd t (.inl e) n ob h
    · rcases also_cases h3 with e | e
      · subst e; subst h1
        exact hrel.bnd n ob h
      · exact I.bd t (.inr ⟨u, h1, h2, e⟩) n ob h
  · rcases also_cases hD with e | e
    · subst e; exact absurd hW hnW
    · exact I.xb j e hnW hdiff n ob h1 h2 h3
  · rcases also_cases hD with e | e
    · subst e
      refine ⟨hv, fun t b' h1 h2 hb' => .inl ?_⟩
      rw [hb] at hb'
      obtain rfl := Option.some.inj hb'
      exact land_sub hrm (C.marked h1 (by omega) h2)
    · exact I.vb j e
  · rcases split n ob h with ⟨h1, h2⟩ | ⟨h1, h2, h3, h4, h5⟩
    · exact hrel.live n ob h2
    · obtain ⟨x, hx, hr⟩ := I.live n ob h2
      exact ⟨x, by rw [h3, h5]; exact hx, by rw [h4]; exact hr⟩
  · have cross : ∀ n m ob ob', n < (S (i + 1)).nx → (S (i + 1)).get n = some ob → (S (i + 1)).nx ≤ m → LD all.length S D κ m ob' → R'.blk m = R.blk m → R'.blk n = R'.blk m → False := by
      intro n m ob ob' p1 p2 q1 q2 q3 he
      obtain ⟨x, hx, _⟩ := I.live m ob' q2
      have hlt := (Array.getElem?_eq_some_iff.1 hx).1
      by_cases hln : lo ≤ n
      · obtain ⟨m', ob2, g1, g2, g3⟩ := hmv.back n ob hln p2 (by omega)
        obtain ⟨z1, z2, z3⟩ := hsees m' ob2 g2
        have := I.inj m' m ob2 ob' z2 q2 (by omega)
        omega
      · have hk := hmv.keep n (by omega)
        rw [hk] at p2
        obtain ⟨z1, z2, z3⟩ := hsees n ob p2
        have hbn := hmv.blk n (.inl z1)
        have := I.inj n m ob ob' z2 q2 (by omega)
        omega
    rcases split n ob h1 with ⟨p1, p2⟩ | ⟨p1, p2, p3, _⟩ <;> rcases split m ob' h2 with ⟨q1, q2⟩ | ⟨q1, q2, q3, _⟩
    · exact hrel.inj n m ob ob' p2 q2 he
    · exact absurd (cross n m ob ob' p1 p2 q1 q2 q3 he) id
    · exact absurd (cross m n ob' ob q1 q2 p1 p2 p3 he.symm) id
    · rw [p3, q3] at he
      exact I.inj n m ob ob' p2 q2 he
  · have hm := (C.mono (i := i + 1) (j := all.length) (by omega) (Nat.le_refl _)).1
    rw [hmv.blk n (by omega)]
    exact I.blk n hn
  · have hm := (C.mono (i := i + 1) (j := all.length) (by omega) (Nat.le_refl _)).1
    rw [hmv.cap n (by omega)]
    exact I.cap n hn
  · rw [← I.keep n ob hn]
    have e1 : (S (i + 1)).get n = (S κ).get n := (hmv.keep n hn).trans (hsame n (by omega))
    constructor
    · intro h
      rcases h with ⟨_, h2⟩ | ⟨h1, _⟩
      · exact .inl ⟨by omega, by rw [← e1]; exact h2⟩
      · omega
    · intro h
      rcases h with ⟨_, h2⟩ | ⟨h1, _⟩
      · exact .inl ⟨by omega, by rw [e1]; exact h2⟩
      · omega
  · rw [hmv.frame bb (Nat.lt_of_lt_of_le h1 I.size) fun n ob g1 g2 g3 => ?_]
    · exact I.frame bb h1 h2
    · obtain ⟨z1, z2, z3⟩ := hsees n ob g2
      obtain ⟨m, ob', k1, k2, k3⟩ := I.back n ob g1 z2 (by omega)
      exact h2 m ob' k1 k2 (by omega)
  · rcases split n ob h2 with ⟨p1, p2⟩ | ⟨p1, p2, p3, _⟩
    · obtain ⟨m, ob', g1, g2, g3⟩ := hmv.back n ob h1 p2 (Nat.lt_of_lt_of_le h3 I.size)
      obtain ⟨z1, z2, z3⟩ := hsees m ob' g2
      obtain ⟨m', ob2, k1, k2, k3⟩ := I.back m ob' g1 z2 (by omega)
      exact ⟨m', ob2, k1, k2, by omega⟩
    · rw [p3] at h3 ⊢
      exact I.back n ob h1 p2 h3
  · rw [← I.defers]
    cases o.dst <;> rfl

/-- The frame that an operation reads fits. -/
theorem frame_read {P : Program} {ops : Array Oper} (hall : all = ops.toList) {g : Fr} (C : Cn E call lo n0 all bs F S M V) (I : InvR E call lo n0 all bs F S M V R0 w0 a0 D R κ a w) (ho : all[i]? = some o) (hb : bs[i]? = some b) (hDi : D i = false)
    (hpre : ∀ k, Nat.testBit b k = true → D k = true) (hf0 : ∀ t v, (F 0).T.get t = some v → Bnd n0 v) (hglob : ∀ x, x < (F 0).G → R0.blk x = x ∧ x < n0) (hg : Restr all o (F i) g) :
    ∃ a2 : Act, FrOk R (S i).nx g a2 ∧ (∀ x ∈ o.op.operands, a.eval x = a2.eval x) ∧ Region.wanted o (yielded ops a.tmps) = wantX g all o := by
  have hi := lt_of_get ho
  obtain ⟨f1, f2, f3, f4⟩ := C.frames (i := i) (by omega)
  have hn0 := C.nx_n0 (j := i) (by omega)
  have hval : ∀ t, t ∈ readsOf all o → a.tmps[t]? = if t < (F 0).n then some (conc R (((F i).T.get t).getD (.tup []))) else none := by
    intro t ht
    by_cases h : t < (F 0).n
    · rw [if_pos h, I.tmp t h, (I.slot_read C ho hb hDi hpre ht).1, ← f4 t]
    · rw [if_neg h]
      exact Array.getElem?_eq_none_iff.2 (by rw [I.tsz]; omega)
  let a2 : Act := { a with tmps := a.tmps.mapIdx fun t v => if t ∈ readsOf all o then v else undef }
  have ha2 : ∀ t, t ∈ readsOf all o → a2.tmps[t]? = a.tmps[t]? := by
    intro t ht
    simp only [a2, Array.getElem?_mapIdx, if_pos ht]
    cases a.tmps[t]? <;> rfl
  have hF : FrOk R (S i).nx g a2 := by
    refine ⟨by simp only [a2, Array.size_mapIdx]; rw [I.tsz, hg.n, f1], fun t ht => ?_, fun t ht => ?_, fun t v hv => ?_, fun x hx => ?_, by rw [hg.n, f1]; exact C.f0⟩
    · rw [hg.n, f1] at ht
      rw [hg.get t]
      by_cases hr : t ∈ readsOf all o
      · rw [ha2 t hr, hval t hr, if_pos ht, if_pos hr]
      · rw [if_neg hr]
        simp only [a2, Array.getElem?_mapIdx, if_neg hr]
        have : t < a.tmps.size := by rw [I.tsz]; exact ht
        rw [Array.getElem?_eq_getElem this]
        simp [conc, concL, undef]
    · rw [hg.n, f1] at ht
      rw [hg.get t]
      split
      · exact f3 t ht
      · rfl
    · rw [hg.get t] at hv
      split at hv
      · rename_i hr
        have hsl := I.slot_read C ho hb hDi hpre hr
        have e : v = slotD all (fun _ => true) V (F 0) t i := by rw [← f4 t, hv]; rfl
        rcases slot_from (all := all) (D := fun _ => true) (V := V) (f := F 0) (t := t) i with h | ⟨j, h1, _, h3, h4⟩
        · rw [h] at e
          cases hg0 : (F 0).T.get t with
          | none => rw [hg0] at e; subst e; simp [Bnd, BndL]
          | some u => rw [hg0] at e; subst e; exact (hf0 t _ hg0).mono hn0
        · rw [h4] at e
          subst e
          exact (I.vb j (hsl.2 j h1 h3)).1.mono (C.mono (i := j + 1) (j := i) h1 (by omega)).1
      · simp at hv
    · rw [hg.G, f2] at hx
      have := hglob x hx
      exact ⟨by rw [I.blk x (.inl this.2)]; exact this.1, by omega⟩
  refine ⟨a2, hF, fun x hx => ?_, ?_⟩
  · cases x with
    | tmp t =>
      have ht : t ∈ readsOf all o := by
        unfold readsOf
        refine List.mem_append.2 (.inl (List.mem_filterMap.2 ⟨.tmp t, by simpa using hx, rfl⟩))
      have := ha2 t ht
      simp only [Act.eval, Array.getD_eq_getD_getElem?]
      rw [this]
    | const v => rfl
    | global g => rfl
    | func g => rfl
  · subst hall
    rw [want_ok hF]
    unfold Region.wanted
    cases hgd : o.guard with
    | none => rfl
    | some p =>
      obtain ⟨j, want⟩ := p
      have : yielded ops a.tmps j = yielded ops a2.tmps j := by
        unfold yielded
        cases hj : ops[j]? with
        | none => rfl
        | some q =>
          simp only [Option.bind_some]
          cases hd : q.dst with
          | none => rfl
          | some d =>
            simp only [Option.bind_some]
            have hr : (d : Nat) ∈ readsOf ops.toList o := by
              unfold readsOf
              refine List.mem_append.2 (.inr ?_)
              rw [hgd]
              simp [hj, hd]
            have := ha2 d hr
            rw [this]
      simp only [this]


/-- How many operations are not done yet. -/
def todoN (D : Nat → Bool) : Nat → Nat
  | 0 => 0
  | n + 1 => todoN D n + (if D n then 0 else 1)

theorem todoN_also {D : Nat → Bool} {i : Nat} : ∀ {n : Nat}, i < n → D i = false → todoN (also i D) n + 1 = todoN D n
  | 0, h, _ => by omega
  | n + 1, h, hD => by
    unfold todoN
    by_cases e : i = n
    · subst e
      have : todoN (also i D) i = todoN D i := by
        have gen : ∀ m, m ≤ i → todoN (also i D) m = todoN D m := by
          intro m
          induction m with
          | zero => intro _; rfl
          | succ m ih => intro hm; unfold todoN; rw [ih (by omega), also_ne (by omega)]
        exact gen i (Nat.le_refl _)
      rw [this, also_self, hD]
      simp
    · have ih := todoN_also (D := D) (i := i) (n := n) (by omega) hD
      rw [also_ne (Ne.symm e), ← ih]
      omega

theorem todoN_zero {D : Nat → Bool} : ∀ {n : Nat}, todoN D n = 0 → ∀ i, i < n → D i = true
  | 0, _, i, h => by omega
  | n + 1, h, i, hi => by
    unfold todoN at h
    cases hD : D n with
    | false => rw [hD] at h; simp at h
    | true =>
      by_cases e : i = n
      · subst e; exact hD
      · exact todoN_zero (n := n) (by omega) i (by omega)

theorem todoN_pos {D : Nat → Bool} : ∀ {n : Nat}, todoN D n ≠ 0 → ∃ i, i < n ∧ D i = false ∧ ∀ j, j < i → D j = true
  | 0, h => absurd rfl h
  | n + 1, h => by
    by_cases h0 : todoN D n = 0
    · have hall := todoN_zero h0
      unfold todoN at h
      rw [h0] at h
      cases hD : D n with
      | true => rw [hD] at h; simp at h
      | false => exact ⟨n, by omega, hD, hall⟩
    · obtain ⟨i, h1, h2, h3⟩ := todoN_pos h0
      exact ⟨i, by omega, h2, h3⟩

theorem execOp_read {P : Program} {a a2 : Act} {o : Oper} {lo : Nat} {g : Fr} {s : St} {r : AV × St} (hs : stepX o.op E call lo g s = some r) (h : ∀ x ∈ o.op.operands, a.eval x = a2.eval x) : execOp a.eval o = execOp a2.eval o := by
  refine execOp_congr o (fun cs b e => ?_) h
  rw [e] at hs
  have hs : opX (.select cs b) E lo g s = some r := hs
  simp [opX, noneX] at hs

include C in
/-- One operation of a drawn region, whatever has been done before it. -/
theorem InvR.doIt {P : Program} (hE : E.Ok P) (hcall : CallOk P E call) {ops : Array Oper} (hall : all = ops.toList) {Q : Exit → Act → World → Prop} (I : InvR E call lo n0 all bs F S M V R0 w0 a0 D R κ a w) (ho : all[i]? = some o) (hb : bs[i]? = some b) (hDi : D i = false)
    (hpre : ∀ k, Nat.testBit b k = true → D k = true) (hf0 : ∀ t v, (F 0).T.get t = some v → Bnd n0 v) (hglob : ∀ x, x < (F 0).G → R0.blk x = x ∧ x < n0) (hG : (F 0).G = E.G) (K : Act → World → Prop)
    (hK : ∀ R' κ' a' w', InvR E call lo n0 all bs F S M V R0 w0 a0 (also i D) R' κ' a' w' → K a' w') : wpOp P ops Q i K a w := by
  have hi := lt_of_get ho
  have hn0 := C.nx_n0 (j := i) (by omega)
  have hopo : ops[i]? = some o := by rw [hall] at ho; simpa using ho
  have hlim := C.nx_lim (j := i) (by omega)
  obtain ⟨hp, g, hg, halt⟩ := C.step i o b ho hb
  have hGg : g.G = E.G := hg.G.trans ((C.frames (i := i) (by omega)).2.1.trans hG)
  obtain ⟨a2, hF, hev, hwant⟩ := frame_read (P := P) hall C I ho hb hDi hpre hf0 hglob hg
  have hoplt : ∀ n ob, LD all.length S D κ n ob → True := fun _ _ _ => trivial
  unfold wpOp
  rw [hopo]
  simp only
  rw [hwant]
  have hloi : lo ≤ (S i).nx := Nat.le_trans C.lo_le hn0
  by_cases hW : Wild E call lo all bs F S M V i
  · obtain ⟨o', b', g', wr, ho', hb', hg', hwant', hrm, hwm, htm, hwo, hst, hk, hn, hl, hm⟩ := id hW
    rw [ho] at ho'; obtain rfl := Option.some.inj ho'
    rw [hb] at hb'; obtain rfl := Option.some.inj hb'
    have hGg' : g'.G = E.G := hg'.G.trans ((C.frames (i := i) (by omega)).2.1.trans hG)
    obtain ⟨a3, hF3, hev3, hwant3⟩ := frame_read (P := P) hall C I ho hb hDi hpre hf0 hglob hg'
    rw [← hwant, hwant3, hwant', if_pos rfl]
    left
    obtain ⟨hκ, hsame, hsees⟩ := I.sees C hi hDi hb hpre hrm hwm (C.wildM hW).2.2.2.2.2.2.2.2.1
    have hrel : Rel R (S i) w := ⟨fun n ob h => I.live n ob (hsees n ob h).2.1, fun n m ob ob' h1 h2 he => I.inj n m ob ob' (hsees n ob h1).2.1 (hsees m ob' h2).2.1 he, fun n ob h => ⟨(hsees n ob h).1, (hsees n ob h).2.2⟩, hlim⟩
    unfold Oper.wp
    rw [execOp_read (P := P) hst hev3]
    exact stepX_up hE hrel hF3 hloi hcall hGg' hst a K Q fun R' w' h1 h2 h3 => hK R' (i + 1) _ w' (I.next_wild C ho hb hDi hpre hf0 hW h1 h2 h3 _ rfl)
  · rcases halt with ⟨hw0, hV, hS, hM⟩ | ⟨hw1, hT⟩
    · rw [hw0, if_neg (by simp)]
      have hu : undef = conc R (V i) := by rw [hV]; simp [conc, concL, undef]
      refine hK R κ _ w (I.next_tame C ho hb hDi hpre hf0 hW (p := ⟨.e, (S i).nx⟩) (r := ⟨.e, (S i).nx⟩) ⟨fun n ob h => ?_, fun n m ob ob' h => ?_, fun n ob h => ?_, hlim⟩ (Mv.refl _ _ _ _) rfl (fun n ob h => ?_) (by rw [hS]) (.inr fun k => by rw [hS]) (by rw [hV]; simp [Bnd, BndL]) (fun t _ _ => .inr ⟨by rw [hV]; simp [BndP, BndPL], fun n ob _ _ h => absurd h (by simp [St.get, Tr.get_e])⟩) _ hu)
      all_goals (exact absurd h (by simp [St.get, Tr.get_e]))
    · rw [hw1, if_pos rfl]
      left
      unfold Oper.wp
      have emptyRel : Rel R ⟨.e, (S i).nx⟩ w := ⟨fun n ob h => absurd h (by simp [St.get, Tr.get_e]), fun n m ob ob' h => absurd h (by simp [St.get, Tr.get_e]), fun n ob h => absurd h (by simp [St.get, Tr.get_e]), hlim⟩
      have fl : ∀ {r : St}, floatOk n0 b (M i).rm (V i) (S i) r = true → ∀ t, t < i → (S t).nx < (S (t + 1)).nx → Nat.testBit b t = true ∨ (BndP (Own n0 (S i).nx) (V i) ∧ ∀ n ob, (S i).nx ≤ n → n < r.nx → r.get n = some ob → OBndP (Own n0 (S i).nx) ob) := by
        intro r hf t h1 h2
        unfold floatOk at hf
        simp only [Bool.or_eq_true, Bool.and_eq_true] at hf
        rcases hf with (hf | hf) | hf
        · exact .inl (land_sub (Nat.eq_of_beq_eq_true hf) (C.marked h1 (by omega) h2))
        · have := Nat.le_of_ble_eq_true hf.2
          exact .inr ⟨(belowX_bnd hf.1).toP fun k hk => .inl hk, fun n ob g1 g2 _ => by omega⟩
        · unfold ownNew at hf
          simp only [Bool.and_eq_true] at hf
          have hnx : r.nx = (S i).nx + 1 := Nat.eq_of_beq_eq_true hf.1.1
          refine .inr ⟨ownX_ok hf.1.2, fun n ob g1 g2 g3 => ?_⟩
          have : n = (S i).nx := by omega
          subst this
          have := hf.2
          rw [g3] at this
          exact ownO_ok this
      cases hT with
      | free r hst hn hl hf hs hgk hm =>
        rw [execOp_read (P := P) hst hev]
        refine stepX_up hE emptyRel hF (Nat.le_refl _) hcall hGg hst a K Q fun R' w' h1 h2 h3 => hK R' κ _ w' (I.next_tame C ho hb hDi hpre hf0 hW h1 h2 rfl (fun n ob h => absurd h (by simp [St.get, Tr.get_e])) hs (.inl hgk) h3 (fl hf) _ rfl)
      | read0 r hst hn hf hs hm =>
        rw [execOp_read (P := P) hst hev]
        refine stepX_up hE emptyRel hF (Nat.le_refl _) hcall hGg hst a K Q fun R' w' h1 h2 h3 => hK R' κ _ w' (I.next_tame C ho hb hDi hpre hf0 hW h1 h2 rfl (fun n ob h => absurd h (by simp [St.get, Tr.get_e])) (by rw [hs, hn]) (.inr fun k => by rw [hs]) h3 (fl hf) _ rfl)
      | read c ob r hc hst hn hf hr hcl hc0 hs hm =>
        have hrd := I.reads C hi hDi hb hpre hr hc0 (by rw [hm]; exact List.mem_cons_self) hW hc
        have hone : ∀ n ob', (⟨Tr.set 21 .e c (some ob), (S i).nx⟩ : St).get n = some ob' → n = c ∧ ob' = ob := by
          intro n ob' h
          have h : Tr.get (Tr.set 21 .e c (some ob)) n = some ob' := h
          rw [Tr.get_set 21 .e c n (some ob) (by unfold lim at hcl; omega)] at h
          split at h
          · rename_i e; exact ⟨e, (Option.some.inj h).symm⟩
          · simp [Tr.get_e] at h
        have hrel : Rel R ⟨Tr.set 21 .e c (some ob), (S i).nx⟩ w := by
          refine ⟨fun n ob' h => ?_, fun n m ob1 ob2 h1 h2 _ => ?_, fun n ob' h => ?_, hlim⟩
          · obtain ⟨rfl, rfl⟩ := hone n ob' h
            exact I.live _ _ hrd.1
          · rw [(hone n ob1 h1).1, (hone m ob2 h2).1]
          · obtain ⟨rfl, rfl⟩ := hone n ob' h
            exact ⟨hrd.2.2, hrd.2.1⟩
        rw [execOp_read (P := P) hst hev]
        refine stepX_up hE hrel hF (Nat.le_refl _) hcall hGg hst a K Q fun R' w' h1 h2 h3 => hK R' κ _ w' (I.next_tame C ho hb hDi hpre hf0 hW h1 h2 rfl (fun n ob' h => by rw [(hone n ob' h).1]; exact hrd.2.2) (by rw [hs, hn]) (.inr fun k => by rw [hs]) h3 (fl hf) _ rfl)
      | tame r hrm hwm hst hn hl hs hgk hm =>
        obtain ⟨hκ, hsame, hsees⟩ := I.sees C hi hDi hb hpre hrm hwm (by rw [hm]; exact lor_bit _ _)
        have hrel : Rel R (S i) w := ⟨fun n ob h => I.live n ob (hsees n ob h).2.1, fun n m ob ob' h1 h2 he => I.inj n m ob ob' (hsees n ob h1).2.1 (hsees m ob' h2).2.1 he, fun n ob h => ⟨(hsees n ob h).1, (hsees n ob h).2.2⟩, hlim⟩
        rw [execOp_read (P := P) hst hev]
        refine stepX_up hE hrel hF (Nat.le_refl _) hcall hGg hst a K Q fun R' w' h1 h2 h3 => hK R' κ _ w' (I.next_tame C ho hb hDi hpre hf0 hW h1 h2 rfl (fun n ob h => (hsees n ob h).1) hs hgk h3 (fun t h1 h2 => .inl (land_sub hrm (C.marked h1 (by omega) h2))) _ rfl)
      | wild wr hrm hwm htm hwo hst hk hn hl hm => exact absurd ⟨o, b, g, wr, ho, hb, hg, hw1, hrm, hwm, htm, hwo, hst, hk, hn, hl, hm⟩ hW

end
end Go.Vx
