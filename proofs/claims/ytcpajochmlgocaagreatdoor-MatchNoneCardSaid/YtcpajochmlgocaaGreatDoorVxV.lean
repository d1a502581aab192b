/-
  A run told in advance, part twenty-two: the theorem on drawn regions; the code; calls. No condition.
-/
import Derived.Test.YtcpajochmlgocaaGreatDoorVxU
set_option linter.unusedSectionVars false
set_option linter.unusedSimpArgs false
set_option linter.unusedVariables false
namespace Go.Vx
open Go.RowKit

section
variable {E : Env} {P : Program} (hE : E.Ok P) {call : CallX} (hcall : CallOk P E call)

include hE hcall in
theorem drawX_ok {ops : Array Oper} {lo : Nat} {Q : Exit → Act → World → Prop} {f f' : Fr} {s s' : St} {a : Act} {w : World} {R : Ren} (h : drawX ops.toList E call lo f s = some (f', s')) (hR : Rel R s w) (hF : FrOk R s.nx f a) (hG : f.G = E.G) (hlo : lo ≤ s.nx)
    (hQ : ∀ R' a' w', Rel R' s' w' → Mv lo R s w R' s' w' → FrOk R' s'.nx f' a' → f'.G = E.G → a'.defers = a.defers → Q .normal a' w') :
    wpAny P .any ops Q ops.size (Array.replicate ops.size false) a w := by
  unfold drawX at h
  split at h
  · rename_i bs hbs
    obtain ⟨hbef, hlen, hslots⟩ := plan_ok hbs
    obtain ⟨F, S, M, V, h1, h2, h3, h4, h5, h6⟩ := drawN_trace _ 0 _ f s h hF.out hF.le
    have hzl : (ops.toList.zip bs).length = ops.toList.length := by simp [hlen]
    rw [hzl] at h4 h5
    simp only at h4 h5
    have C : Cn E call lo s.nx ops.toList bs F S M V := {
      step := fun i o b ho hb => by
        have := h6 i o b (by rw [List.getElem?_zip_eq_some]; exact ⟨ho, hb⟩)
        rwa [Nat.zero_add] at this
      s0 := by rw [h2]
      m0 := h3
      f0 := by rw [h1]; exact hF.le
      out := by rw [h1]; exact hF.out
      bef := hbef
      len := hlen
      slots := hslots
      lo_le := hlo
      limit := hR.lim }
    have hf0 : ∀ t v, (F 0).T.get t = some v → Bnd s.nx v := by rw [h1]; exact hF.bnd
    have hglob : ∀ x, x < (F 0).G → R.blk x = x ∧ x < s.nx := by rw [h1]; exact hF.glob
    have hG0 : (F 0).G = E.G := by rw [h1]; exact hG
    have hLD0 : ∀ n o, LD ops.toList.length S (fun _ => false) 0 n o ↔ s.get n = some o := by
      intro n o
      constructor
      · intro h
        rcases h with ⟨_, h⟩ | ⟨_, j, _, h, _⟩
        · rw [h2] at h; exact h
        · simp at h
      · intro h
        exact .inl ⟨by rw [h2]; exact (hR.bnd n o h).1, by rw [h2]; exact h⟩
    have I0 : InvR E call lo s.nx ops.toList bs F S M V R w a (fun _ => false) R 0 a w := {
      down := fun j hj => by simp at hj
      kap1 := .inl rfl
      kap2 := fun u _ hu => by simp at hu
      bd := fun t ht n o h => by
        rcases ht with rfl | ⟨u, _, _, hu⟩
        · rw [h2] at h ⊢; exact hR.bnd n o h
        · simp at hu
      xb := fun j hj => by simp at hj
      vb := fun j hj => by simp at hj
      live := fun n o h => hR.live n o ((hLD0 n o).1 h)
      inj := fun n m o o' h1 h2 he => hR.inj n m o o' ((hLD0 n o).1 h1) ((hLD0 m o').1 h2) he
      blk := fun _ _ => rfl
      cap := fun _ _ => rfl
      opq := rfl
      keep := fun n o _ => by rw [hLD0, h2]
      os := rfl
      tape := rfl
      output := rfl
      size := Nat.le_refl _
      frame := fun _ _ _ => rfl
      back := fun n o hl h _ => ⟨n, o, hl, by rw [h2]; exact (hLD0 n o).1 h, rfl⟩
      tsz := by rw [h1]; exact hF.size
      tmp := fun t ht => by
        rw [h1] at ht ⊢
        rw [hF.tmp t ht]
        congr 2
        have : ∀ n, slotD ops.toList (fun _ => false) V f t n = (f.T.get t).getD (.tup []) := by
          intro n
          induction n with
          | zero => rfl
          | succ n ih => unfold slotD; simp [ih]
        exact (this _).symm
      defers := rfl }
    have main : ∀ (fuel : Nat) (listed : Array Bool) (D : Nat → Bool) (R' : Ren) (κ : Nat) (a' : Act) (w' : World), listed.size = ops.size → (∀ i, i < ops.size → listed.getD i false = D i) → (∀ i, ops.size ≤ i → D i = false) → todoN D ops.size = fuel →
        InvR E call lo s.nx ops.toList bs F S M V R w a D R' κ a' w' → wpAny P .any ops Q fuel listed a' w' := by
      intro fuel
      induction fuel with
      | zero =>
        intro listed D R' κ a' w' hsz hD hDout htodo I
        have hall := todoN_zero htodo
        have hnl : ops.toList.length = ops.size := by simp
        refine ⟨?_, ?_⟩
        · unfold Region.ready
          rw [List.filter_eq_nil_iff]
          intro i hi
          have hi := List.mem_range.1 hi
          have := hD i hi
          rw [hall i hi] at this
          have hg : listed.getD i true = true := by
            simp only [Array.getD_eq_getD_getElem?] at this ⊢
            cases hl : listed[i]? with
            | none => rw [hl] at this; simp at this
            | some b => rw [hl] at this; simpa using this
          simp [hg]
        · have hκl := I.good C I.kap1
          have hnw : ∀ t, κ ≤ t → t < ops.toList.length → ¬ Wild E call lo ops.toList bs F S M V t := by
            intro t t1 t2 hW
            have := I.kap2 t hW (hall t (by omega))
            omega
          have hbd := I.bd κ I.kap1
          obtain ⟨c1, c2, c3⟩ := C.chain (fun n o h => (hbd n o h).1) hκl (Nat.le_refl _) hnw
          have hmono := (C.mono (i := κ) (j := ops.toList.length) hκl (Nat.le_refl _)).1
          rw [← h5] at hQ
          have hLD : ∀ n o, (S ops.toList.length).get n = some o → LD ops.toList.length S D κ n o ∧ n < (S ops.toList.length).nx ∧ OBnd (S ops.toList.length).nx o := by
            intro n o h
            by_cases hn : n < (S κ).nx
            · have h' := h
              rw [c1 n hn] at h
              exact ⟨.inl ⟨hn, h⟩, c2 n o h', (hbd n o h).2.mono hmono⟩
            · obtain ⟨j, j1, j2, j3, j4, j5, j6⟩ := c3 n o h (by omega)
              have hDj := hall j (by omega)
              have hm2 := (C.mono (i := j + 1) (j := ops.toList.length) (by omega) (Nat.le_refl _)).1
              exact ⟨.inr ⟨by omega, j, j2, hDj, j1, j3, j4, j5, j6⟩, c2 n o h, (I.xb j hDj (hnw j j1 j2) j6 n o j3 j4 j5).mono hm2⟩
          have hslot : ∀ t, slotD ops.toList D V (F 0) t ops.toList.length = ((F ops.toList.length).T.get t).getD (.tup []) := by
            intro t
            rw [(C.frames (Nat.le_refl _)).2.2.2 t]
            exact slotD_congr fun j hj _ => hall j (by omega)
          obtain ⟨f1, f2, f3, f4⟩ := C.frames (i := ops.toList.length) (Nat.le_refl _)
          have hloκ : lo ≤ (S κ).nx := Nat.le_trans hlo (C.nx_n0 hκl)
          refine hQ R' a' w' ⟨fun n o h => I.live n o (hLD n o h).1, fun n m o o' h1 h2 he => I.inj n m o o' (hLD n o h1).1 (hLD m o' h2).1 he, fun n o h => (hLD n o h).2, C.nx_lim (Nat.le_refl _)⟩ ?_ ?_ ?_ I.defers
          · refine ⟨fun n hn => I.blk n hn, fun n hn => I.cap n hn, I.opq, C.nx_n0 (Nat.le_refl _), fun n hn => ?_, I.os, I.tape, I.output, I.size, fun b hb hnb => I.frame b hb fun n o g1 g2 => hnb n o g1 (by rw [h2] at g2; exact g2), fun n o g1 g2 g3 => ?_⟩
            · have hkeep := fun o => I.keep n o hn
              rw [h2] at hkeep
              have hgl : (S ops.toList.length).get n = (S κ).get n := c1 n (by omega)
              cases hg : (S ops.toList.length).get n with
              | some o =>
                exact ((hkeep o).1 (hLD n o hg).1).symm
              | none =>
                cases hg2 : s.get n with
                | none => rfl
                | some o =>
                  exfalso
                  rcases (hkeep o).2 hg2 with ⟨_, h⟩ | ⟨h, _⟩
                  · rw [← hgl, hg] at h; simp at h
                  · omega
            · obtain ⟨m, o', k1, k2, k3⟩ := I.back n o g1 (hLD n o g2).1 g3
              rw [h2] at k2
              exact ⟨m, o', k1, k2, k3⟩
          · rw [← h4]
            refine ⟨by rw [I.tsz, f1], fun t ht => ?_, fun t ht => f3 t (by rw [← f1]; exact ht), fun t v hv => ?_, fun x hx => ?_, by rw [f1]; exact C.f0⟩
            · rw [f1] at ht
              rw [I.tmp t ht, hslot t]
            · have e := hslot t
              rw [hv] at e
              have e : slotD ops.toList D V (F 0) t ops.toList.length = v := e
              rcases slot_from (all := ops.toList) (D := D) (V := V) (f := F 0) (t := t) ops.toList.length with h | ⟨j, g1, g2, g3, g4⟩
              · rw [h] at e
                cases hg0 : (F 0).T.get t with
                | none => rw [hg0] at e; subst e; simp [Bnd, BndL]
                | some u => rw [hg0] at e; subst e; exact (hf0 t _ hg0).mono (C.nx_n0 (Nat.le_refl _))
              · rw [g4] at e
                subst e
                exact (I.vb j g2).1.mono (C.mono (i := j + 1) (j := ops.toList.length) g1 (Nat.le_refl _)).1
            · rw [f2] at hx
              have := hglob x hx
              have hn := C.nx_n0 (j := ops.toList.length) (Nat.le_refl _)
              exact ⟨by rw [I.blk x (.inl this.2)]; exact this.1, by omega⟩
          · rw [← h4, f2]; exact hG0
      | succ fuel ih =>
        intro listed D R' κ a' w' hsz hD hDout htodo I
        have hready : ∀ i, i ∈ Region.ready .any ops listed ↔ i < ops.size ∧ D i = false ∧ ∀ o, ops[i]? = some o → ∀ e ∈ o.after.toList, Region.binds .any e = true → D e.on = true := by
          intro i
          unfold Region.ready
          rw [List.mem_filter, List.mem_range]
          constructor
          · rintro ⟨hi, hc⟩
            simp only [Bool.and_eq_true, Bool.not_eq_true'] at hc
            obtain ⟨c1, c2⟩ := hc
            have hDi : D i = false := by
              rw [← hD i hi]
              simp only [Array.getD_eq_getD_getElem?] at c1 ⊢
              cases hl : listed[i]? with
              | none => rfl
              | some b => rw [hl] at c1; simpa using c1
            refine ⟨hi, hDi, fun o ho e he hb => ?_⟩
            rw [ho] at c2
            simp only [Option.map_some, Option.getD_some] at c2
            rw [← Array.all_toList] at c2
            have := List.all_eq_true.1 c2 e he
            rw [hb] at this
            simp only [Bool.not_true, Bool.false_or] at this
            by_cases hlt : e.on < ops.size
            · rw [← hD e.on hlt]; exact this
            · have hnone : listed[e.on]? = none := Array.getElem?_eq_none_iff.2 (by omega)
              simp only [Array.getD_eq_getD_getElem?, hnone] at this
              simp at this
          · rintro ⟨hi, hDi, hc⟩
            refine ⟨hi, ?_⟩
            have hl := hD i hi
            rw [hDi] at hl
            have hs : i < listed.size := by omega
            have hg : listed.getD i true = false := by
              simp only [Array.getD_eq_getD_getElem?, Array.getElem?_eq_getElem hs] at hl ⊢
              simpa using hl
            rw [hg, Array.getElem?_eq_getElem hi]
            simp only [Bool.not_false, Option.map_some, Option.getD_some, Bool.true_and]
            rw [← Array.all_toList]
            refine List.all_eq_true.2 fun e he => ?_
            cases hb : Region.binds .any e with
            | false => rfl
            | true =>
              have hDe := hc ops[i] (Array.getElem?_eq_getElem hi) e he hb
              have hlt : e.on < ops.size := by
                rcases Nat.lt_or_ge e.on ops.size with h | h
                · exact h
                · rw [hDout e.on h] at hDe; simp at hDe
              rw [hD e.on hlt, hDe]; rfl
        refine ⟨fun hnil => ?_, fun i hi => ?_⟩
        · exfalso
          obtain ⟨i, i1, i2, i3⟩ := todoN_pos (D := D) (n := ops.size) (by omega)
          have : i ∈ Region.ready .any ops listed := (hready i).2 ⟨i1, i2, fun o ho e he hb => by
            have hl : i < ops.toList.length := by simpa using i1
            obtain ⟨o', b', ho', hb'⟩ := C.at hl
            have : o' = o := by
              have : ops[i]? = some o' := by simpa using ho'
              rw [ho] at this; exact (Option.some.inj this).symm
            subst this
            exact i3 e.on ((hbef.mask i o' b' ho' hb').2 e he hb)⟩
          rw [hnil] at this
          simp at this
        · obtain ⟨i1, i2, i3⟩ := (hready i).1 hi
          have hl : i < ops.toList.length := by simpa using i1
          obtain ⟨o, b, ho, hb⟩ := C.at hl
          have hopo : ops[i]? = some o := by simpa using ho
          have hpre : ∀ k, Nat.testBit b k = true → D k = true := by
            intro k hk
            obtain ⟨e, e1, e2, e3, e4⟩ := (hbef.mask i o b ho hb).1 k hk
            have hDe := i3 o hopo e e1 e2
            rcases e4 with rfl | ⟨b', q1, q2⟩
            · exact hDe
            · exact (I.down e.on hDe).2 b' k q1 q2
          refine I.doIt (i := i) C hE hcall rfl ho hb i2 hpre hf0 hglob hG0 _ fun R2 κ2 a2 w2 I2 => ?_
          refine ih (listed.setIfInBounds i true) (also i D) R2 κ2 a2 w2 (by simpa using hsz) (fun j hj => ?_) (fun j hj => ?_) ?_ I2
          · by_cases e : j = i
            · subst e
              rw [also_self]
              simp [Array.getD_eq_getD_getElem?, hsz, i1]
            · rw [also_ne e, ← hD j hj]
              simp [Array.getD_eq_getD_getElem?, Array.getElem?_setIfInBounds_ne (Ne.symm e)]
          · have e : j ≠ i := by omega
            rw [also_ne e]; exact hDout j hj
          · have := todoN_also (D := D) (i := i) (n := ops.size) i1 i2
            omega
    refine main ops.size _ (fun _ => false) R 0 a w (by simp) (fun i hi => ?_) (fun _ _ => rfl) ?_ I0
    · simp [Array.getD_eq_getD_getElem?, hi]
    · have : ∀ n, todoN (fun _ => false) n = n := by
        intro n
        induction n with
        | zero => rfl
        | succ n ih => unfold todoN; rw [ih]; rfl
      exact this _
  · simp at h

end
end Go.Vx
