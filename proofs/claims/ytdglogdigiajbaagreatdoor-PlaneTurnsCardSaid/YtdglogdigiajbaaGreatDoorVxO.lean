/-
  A run told in advance, part fifteen: an operation in a region; regions that keep the order of the text; the code. No condition.
-/
import Derived.Test.YtdglogdigiajbaaGreatDoorVxN
set_option linter.unusedSectionVars false
set_option linter.unusedSimpArgs false
set_option linter.unusedVariables false
namespace Go.Vx
open Go.RowKit

section
variable {E : Env} {P : Program} (hE : E.Ok P) {lo : Nat} {R : Ren} {s s' : St} {w : World} {f : Fr} {a : Act} {v : AV} (hR : Rel R s w) (hF : FrOk R s.nx f a) (hlo : lo ≤ s.nx)

include hE hR hF hlo in
theorem opX_ok {o : Oper} (h : opX o.op E lo f s = some (v, s')) : Res P (execOp a.eval o) lo R s w v s' := by
  obtain ⟨dst, op, ty, pos, after, guard⟩ := o
  cases op
  case move x => exact move_ok (E := E) hR hF h
  case assign x => exact move_ok (E := E) hR hF h
  case pick c x y => exact pick_ok (E := E) hR hF h
  case alloc t => exact alloc_ok (f := f) hE hR hlo h
  case box t x => exact box_ok (E := E) hR hF hlo h
  case build t ps => exact build_ok hE hR hF h
  case buildSlice t n ps => exact buildSlice_ok hE hR hF hlo h
  case load t x => exact load_ok hE hR hF h
  case store t x y => exact store_ok hE hR hF h
  case nilCheck x =>
    refine nilCheck_ok (E := E) hR hF h _ fun u hu => ⟨fun b e => ?_, fun t y e => ?_, fun n fi ca e => ?_⟩ <;> (subst e; simp only [execOp, hu])
  case binOp op t x y u => exact bin_ok hE hR hF h
  case unOp op t x => exact un_ok (E := E) hR hF h
  case convert t u x => exact conv_ok hE hR hF hlo h
  case makeInterface t x => exact iface_ok hE hR hF h
  case makeFunc g x c => exact makeFunc_ok (E := E) hR hF h
  case makeMap t r => exact makeMap_ok hE hR hF hlo h
  case makeSlice t l c => exact makeSlice_ok hE hR hF hlo h
  case slice t x l hh m => exact slice_ok hE hR hF h
  case fieldAddr t x i => exact fieldAddr_ok hE hR hF h
  case field t x i => exact field_ok hE hR hF h
  case indexAddr t x i => exact indexAddr_ok hE hR hF h
  case index t x i => exact index_ok hE hR hF h
  case lookup t x k ok => exact lookup_ok hE hR hF h
  case mapUpdate t x k y => exact mapUpdate_ok hE hR hF h
  case insert t x k y => exact mapUpdate_ok hE hR hF h
  case range t x => exact range_ok hE hR hF hlo h
  case next x isS => exact next_ok (E := E) hR hF h
  case typeAssert x u t ok => exact assert_ok hE hR hF h
  case extract x i => exact extract_ok (E := E) hR hF h
  case call c =>
    have h : callO c E lo f s = some (v, s') := h
    cases hc : c.callee with
    | builtin b =>
      unfold callO at h
      rw [hc] at h
      have := builtin_ok hE hR hF hlo (ty := ty) (cs := c.args.map fun | .const _ => true | _ => false) h
      obtain ⟨R', n, w', h1, h2⟩ := this
      refine ⟨R', n, w', ?_, h2⟩
      simp only [execOp, resolve, hc, Sem.run_bind, Sem.run_pure, Result.andThen_ok, invoke]
      exact h1
    | value y => unfold callO at h; rw [hc] at h; simp [noneX] at h
    | invoke y m => unfold callO at h; rw [hc] at h; simp [noneX] at h
  all_goals (simp [opX, noneX] at h)

/-- What a call must do in a fitting world. -/
def CallOk (P : Program) (E : Env) (call : CallX) : Prop :=
  ∀ lo f args s v s' R w, call lo f args s = some (v, s') → Rel R s w → BndL s.nx args → lo ≤ s.nx → (∀ g, g < E.G → R.blk g = g ∧ g < s.nx) →
    ∀ (o : Oper) (a : Act) (K : Act → World → Prop) (Q : Exit → Act → World → Prop), (∀ R' w', Rel R' s' w' → Mv lo R s w R' s' w' → Bnd s'.nx v → K (a.put o.dst (conc R' v)) w') →
      o.upon P a K Q ((callFunc f ⟨concL R args⟩).run P w)

theorem Res.upon {o : Oper} {sem : Sem Next} (h : Res P sem lo R s w v s') (K : Act → World → Prop) (Q : Exit → Act → World → Prop)
    (hK : ∀ R' w', Rel R' s' w' → Mv lo R s w R' s' w' → Bnd s'.nx v → K (a.put o.dst (conc R' v)) w') : o.upon P a K Q (sem.run P w) := by
  obtain ⟨R', n, w', h1, h2, h3, h4, h5⟩ := h
  rw [h1]
  rcases h2 with rfl | ⟨rfl, h2⟩
  · exact hK R' w' h3 h4 h5
  · have := hK R' w' h3 h4 h5
    rw [h2] at this
    exact this

include hE hR hF hlo in
theorem stepX_up {call : CallX} (hcall : CallOk P E call) (hG : f.G = E.G) {o : Oper} (h : stepX o.op E call lo f s = some (v, s')) (a1 : Act) (K : Act → World → Prop) (Q : Exit → Act → World → Prop)
    (hK : ∀ R' w', Rel R' s' w' → Mv lo R s w R' s' w' → Bnd s'.nx v → K (a1.put o.dst (conc R' v)) w') : o.upon P a1 K Q ((execOp a.eval o).run P w) := by
  unfold stepX at h
  split at h
  · rename_i op c hop
    unfold stepC at h
    split at h
    · rename_i b hc
      have h' : opX o.op E lo f s = some (v, s') := by
        rw [hop]
        show callO c E lo f s = _
        unfold callO
        rw [hc]; exact h
      exact (opX_ok hE hR hF hlo h').upon K Q hK
    · rename_i hc
      unfold callT at h
      split at h
      · rename_i g xs ht
        rw [avL_eq] at h
        unfold targetX at ht
        split at ht
        · rename_i y hy
          cases hev : evX y f with
          | none => simp [hev, targetV] at ht
          | some u =>
            cases hops : operandsX c.args.toList f with
            | none => cases u <;> simp [hev, hops, targetV] at ht
            | some l =>
              cases u <;> simp only [hev, hops, targetV] at ht <;> try (simp at ht; done)
              rename_i g' x k
              obtain ⟨rfl, rfl⟩ := Prod.mk.inj (Option.some.inj ht)
              have h1 := hF.ev hev
              have h2 := hF.operandsA hops
              have hb : BndL s.nx (x ++ l ++ k) := BndL_iff.2 fun q hq => by
                have hx := h1.2
                simp only [Bnd] at hx
                rcases List.mem_append.1 hq with hq | hq
                · rcases List.mem_append.1 hq with hq | hq
                  · exact BndL_iff.1 hx.1 q hq
                  · exact BndL_iff.1 h2.2 q hq
                · exact BndL_iff.1 hx.2 q hq
              have := hcall lo g' _ s v s' R w h hR hb hlo (fun g hg => hF.glob g (by rw [hG]; exact hg)) o a1 K Q hK
              have hexec : (execOp a.eval o).run P w = (callFunc g' ⟨concL R (x ++ l ++ k)⟩).run P w := by
                obtain ⟨dst, op', ty, pos, after, guard⟩ := o
                simp only at hop
                subst hop
                simp only [execOp, resolve, hy, h1.1, conc, Deferred.ofValue, h2.1, Sem.run_bind, Sem.run_pure, Result.andThen_ok, invoke]
                congr 2
                apply Array.ext'
                simp [concL_append]
              rw [hexec]
              exact this
        · rename_i y m hy
          unfold targetM at ht
          split at ht
          · rename_i t u hev
            unfold targetN at ht
            split at ht
            · rename_i g2 hm
              split at ht
              · rename_i l hops
                obtain ⟨rfl, rfl⟩ := Prod.mk.inj (Option.some.inj ht)
                have h1 := hF.ev hev
                have h2 := hF.operandsA hops
                have hbu : Bnd s.nx u := by have hx := h1.2; simpa only [Bnd] using hx
                have hb : BndL s.nx (u :: l) := ⟨hbu, h2.2⟩
                have := hcall lo g2 _ s v s' R w h hR hb hlo (fun g hg => hF.glob g (by rw [hG]; exact hg)) o a1 K Q hK
                have hexec : (execOp a.eval o).run P w = (callFunc g2 ⟨concL R (u :: l)⟩).run P w := by
                  obtain ⟨dst, op', ty, pos, after, guard⟩ := o
                  simp only at hop
                  subst hop
                  have e1 : a.eval y = .iface t (conc R u) := h1.1
                  have e2 : (#[Value.iface t (conc R u)] ++ (⟨concL R l⟩ : Array Value))[0]? = some (Value.iface t (conc R u)) := by
                    rw [Array.getElem?_append_left (by simp)]; rfl
                  have e3 : (#[Value.iface t (conc R u)] ++ (⟨concL R l⟩ : Array Value)).extract 1 (#[Value.iface t (conc R u)] ++ (⟨concL R l⟩ : Array Value)).size = (⟨concL R l⟩ : Array Value) := by
                    apply Array.ext'
                    simp only [Array.toList_extract, Array.toList_append]
                    simp
                    rw [← concL_length R l, List.take_length]
                  simp only [execOp, resolve, hy, e1, h2.1, Sem.run_bind, Sem.run_pure, Result.andThen_ok, invoke, e2, e3, callMethod, run_program, hE.mth t m g2 hm]
                  congr 2
                  apply Array.ext'
                  simp [concL]
                rw [hexec]
                exact this
              · simp at ht
            · simp at ht
          · simp at ht
        · simp at ht
      · simp at h
  · exact (opX_ok hE hR hF hlo h).upon K Q hK

include hE hR hF hlo in
theorem stepX_ok {call : CallX} (hcall : CallOk P E call) (hG : f.G = E.G) {o : Oper} (h : stepX o.op E call lo f s = some (v, s')) (K : Act → World → Prop) (Q : Exit → Act → World → Prop)
    (hK : ∀ R' w', Rel R' s' w' → Mv lo R s w R' s' w' → Bnd s'.nx v → K (a.put o.dst (conc R' v)) w') : o.wp P a w K Q :=
  stepX_up hE hR hF hlo hcall hG h a K Q hK

theorem FrOk.mono {R R' : Ren} {nx nx' : Nat} {f : Fr} {a : Act} (h : FrOk R nx f a) (hag : Agree nx R R') (hn : nx ≤ nx') : FrOk R' nx' f a := by
  refine ⟨h.size, fun t ht => ?_, h.out, fun t v hv => (h.bnd t v hv).mono hn, fun g hg => ?_, h.le⟩
  · rw [h.tmp t ht]
    congr 1
    have hb : Bnd nx ((f.T.get t).getD (.tup [])) := by
      cases hg : f.T.get t with
      | none => simp [Bnd, BndL]
      | some v => exact h.bnd t v hg
    exact (conc_agree hag hb).symm
  · have := h.glob g hg
    exact ⟨by rw [hag.blk g this.2]; exact this.1, by omega⟩

/-- A slot is written. -/
theorem FrOk.put {β : Type} {R : Ren} {nx : Nat} {f : Fr} {a : Act} {d : Option Tmp} {v : AV} {k : Fr → Option β} {r : β} (h : FrOk R nx f a) (hp : putX d v f k = some r) (hb : Bnd nx v) :
    ∃ f', k f' = some r ∧ FrOk R nx f' (a.put d (conc R v)) ∧ f'.G = f.G ∧ f'.n = f.n := by
  unfold putX at hp
  split at hp
  · exact ⟨f, hp, h, rfl, rfl⟩
  · rename_i d
    split at hp
    · rename_i hd
      have hd : d < f.n := Nat.le_of_ble_eq_true hd
      obtain ⟨T, n, G⟩ := f
      simp only [Tr.setK_eq] at hp
      have hle := h.le
      have hset : ∀ m, (Tr.set 11 T d (some v)).get m = if m = d then some v else T.get m := fun m => Tr.get_set 11 T d m (some v) (by
        have h1 : (d : Nat) < n := hd
        have h2 : n ≤ 1024 := hle
        exact Nat.lt_of_le_of_lt (show (d : Nat) + 1 ≤ 1024 from Nat.succ_le_of_lt (Nat.lt_of_lt_of_le h1 h2)) (by decide))
      refine ⟨_, hp, ⟨?_, fun t ht => ?_, fun t ht => ?_, fun t u hu => ?_, h.glob, h.le⟩, rfl, rfl⟩
      · simp [Act.put, h.size]
      · simp only [Act.put, hset]
        by_cases e : t = d
        · subst e
          have := h.size
          simp only at this hd
          rw [Array.getElem?_setIfInBounds_self_of_lt (by rw [this]; exact hd)]
          simp
        · rw [Array.getElem?_setIfInBounds_ne (fun e' => e e'.symm), if_neg e]
          exact h.tmp t ht
      · simp only [hset]
        have : t ≠ d := fun e => by subst e; exact Nat.lt_irrefl _ (Nat.lt_of_lt_of_le hd ht)
        rw [if_neg this]
        exact h.out t ht
      · simp only [hset] at hu
        split at hu
        · obtain rfl := Option.some.inj hu; exact hb
        · exact h.bnd t u hu
    · simp at hp

theorem eqB_eq (a b : Bool) : eqB a b = (a == b) := by cases a <;> cases b <;> rfl

theorem want_ok {R : Ren} {nx : Nat} {f : Fr} {a : Act} (h : FrOk R nx f a) (ops : Array Oper) (o : Oper) : wantX f ops.toList o = Region.wanted o (yielded ops a.tmps) := by
  unfold wantX Region.wanted
  cases o.guard with
  | none => rfl
  | some g =>
    obtain ⟨j, want⟩ := g
    have hy : yieldO f ops.toList[j]? = yielded ops a.tmps j := by
      unfold yieldO yielded
      have e : ops.toList[j]? = ops[j]? := by simp
      rw [e]
      cases ops[j]? with
      | none => rfl
      | some q =>
        simp only [Option.bind_some]
        cases q.dst with
        | none => rfl
        | some d =>
          simp only [Option.bind_some]
          by_cases hd : d < f.n
          · rw [h.tmp d hd]
            cases hg : f.T.get d with
            | none => simp [conc]
            | some u =>
              cases u <;> simp [conc]
              rename_i i
              have := R.cell i
              cases hc : R.opq i <;> simp [hc, isCell] at this ⊢
          · rw [h.out d (Nat.le_of_not_lt hd)]
            have : a.tmps[d]? = none := by rw [Array.getElem?_eq_none_iff, h.size]; exact Nat.le_of_not_lt hd
            rw [this]
    show wantJ f ops.toList j want = (yielded ops a.tmps j == some want)
    unfold wantJ
    rw [hy]
    generalize yielded ops a.tmps j = q
    cases q <;> simp [eqB_eq]

include hE in
theorem opsX_ok {call : CallX} (hcall : CallOk P E call) {ops : Array Oper} {lo : Nat} {Q : Exit → Act → World → Prop} {f' : Fr} {s' : St} : ∀ (l : List Oper) (i : Nat) (f : Fr) (s : St) (a : Act) (w : World) (R : Ren),
    ops.toList.drop i = l → opsX l E call lo ops.toList f s = some (f', s') → Rel R s w → FrOk R s.nx f a → f.G = E.G → lo ≤ s.nx →
    (∀ R' a' w', Rel R' s' w' → Mv lo R s w R' s' w' → FrOk R' s'.nx f' a' → f'.G = E.G → a'.defers = a.defers → Q .normal a' w') →
    wpOps P ops Q (List.range' i l.length) a w
  | [], i, f, s, a, w, R, hl, h, hR, hF, hG, hlo, hQ => by
    obtain ⟨rfl, rfl⟩ := Prod.mk.inj (Option.some.inj (show some (f, s) = some (f', s') from h))
    simp only [List.length_nil, List.range'_zero, wpOps]
    exact hQ R a w hR (Mv.refl _ _ _ _) hF hG rfl
  | o :: l, i, f, s, a, w, R, hl, h, hR, hF, hG, hlo, hQ => by
    have ho : ops[i]? = some o := by
      have : ops.toList[i]? = some o := by rw [← List.head?_drop, hl]; rfl
      simpa using this
    have hl' : ops.toList.drop (i + 1) = l := by
      have := congrArg (List.drop 1) hl
      rw [List.drop_drop] at this; simpa using this
    have h : (Bool.rec (motive := fun _ => Option (Fr × St)) (putX o.dst (.tup []) f fun f => opsX l E call lo ops.toList f s)
      (forced (stepX o.op E call lo f s) fun v s => putX o.dst v f fun f => opsX l E call lo ops.toList f s) (wantX f ops.toList o)) = some (f', s') := h
    rw [want_ok hF] at h
    simp only [List.length_cons, List.range'_succ, wpOps, ho]
    cases hw : Region.wanted o (yielded ops a.tmps) with
    | false =>
      rw [hw] at h
      have h : putX o.dst (.tup []) f (fun f => opsX l E call lo ops.toList f s) = some (f', s') := h
      simp only [Bool.false_eq_true, if_false]
      obtain ⟨f1, h1, h2, h3, _⟩ := hF.put h (by simp [Bnd, BndL])
      have hu : conc R (.tup []) = undef := by simp [conc, concL, undef]
      rw [hu] at h2
      refine opsX_ok hcall l (i + 1) f1 s _ w R hl' h1 hR h2 (h3.trans hG) hlo fun R' a' w' g1 g2 g3 g4 g5 => hQ R' a' w' g1 g2 g3 g4 (g5.trans ?_)
      cases o.dst <;> rfl
    | true =>
      rw [hw] at h
      have h : forced (stepX o.op E call lo f s) (fun v s => putX o.dst v f fun f => opsX l E call lo ops.toList f s) = some (f', s') := h
      simp only [if_true]
      left
      cases hs : stepX o.op E call lo f s with
      | none => simp [hs, forced] at h
      | some r =>
        obtain ⟨v, s1⟩ := r
        simp only [hs, forced, avK_eq] at h
        refine stepX_ok hE hR hF hlo hcall hG hs _ _ fun R' w' g1 g2 g3 => ?_
        have hF' := hF.mono g2.agree g2.nx
        obtain ⟨f1, h1, h2, h3, _⟩ := hF'.put h g3
        refine opsX_ok hcall l (i + 1) f1 s1 _ w' R' hl' h1 g1 h2 (h3.trans hG) (Nat.le_trans hlo g2.nx) fun R2 a2 w2 k1 k2 k3 k4 k5 => hQ R2 a2 w2 k1 (g2.trans k2) k3 k4 (k5.trans ?_)
        cases o.dst <;> rfl

end
end Go.Vx
