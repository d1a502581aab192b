/-
  A run told in advance, part six: each operation does in every fitting world what is told of it. No condition.
-/
import Derived.Test.YtdglogdigiajbaaGreatDoorVxE
set_option linter.unusedSectionVars false
set_option linter.unusedSimpArgs false
set_option linter.unusedVariables false
namespace Go.Vx
open Go.RowKit

/-- The frame fits the slots. -/
structure FrOk (R : Ren) (nx : Nat) (f : Fr) (a : Act) : Prop where
  size : a.tmps.size = f.n
  tmp : ∀ t, t < f.n → a.tmps[t]? = some (conc R ((f.T.get t).getD (.tup [])))
  out : ∀ t, f.n ≤ t → f.T.get t = none
  bnd : ∀ t v, f.T.get t = some v → Bnd nx v
  glob : ∀ g, g < f.G → R.blk g = g ∧ g < nx
  le : f.n ≤ 1024

def Gives (n : Next) (v : Value) : Prop := n = .value v ∨ (n = .skip ∧ v = undef)

/-- What a step comes to. -/
def Res (P : Program) (sem : Sem Next) (lo : Nat) (R : Ren) (s : St) (w : World) (v : AV) (s' : St) : Prop :=
  ∃ R' n w', sem.run P w = .ok n w' ∧ Gives n (conc R' v) ∧ Rel R' s' w' ∧ Mv lo R s w R' s' w' ∧ Bnd s'.nx v

theorem FrOk.ev {R : Ren} {nx : Nat} {f : Fr} {a : Act} (h : FrOk R nx f a) {o : Operand} {v : AV} (hv : evX o f = some v) : a.eval o = conc R v ∧ Bnd nx v := by
  cases o with
  | tmp t =>
    have he : evT t f = some ((f.T.get t).getD (.tup [])) := by
      unfold evT; cases f.T.get t <;> rfl
    rw [show evX (.tmp t) f = evT t f from rfl, he] at hv
    obtain rfl := Option.some.inj hv
    have hb : Bnd nx ((f.T.get t).getD (.tup [])) := by
      cases hg : f.T.get t with
      | none => simp [Bnd, BndL]
      | some v => exact h.bnd t v hg
    refine ⟨?_, hb⟩
    by_cases ht : t < f.n
    · simp [Act.eval, h.tmp t ht]
    · rw [h.out t (Nat.le_of_not_lt ht)]
      have : a.tmps[t]? = none := by rw [Array.getElem?_eq_none_iff, h.size]; exact Nat.le_of_not_lt ht
      simp [Act.eval, this, conc, concL, undef]
  | const c =>
    have hq : quote c = some v := hv
    have := quote_ok R hq
    exact ⟨this.1.symm, this.2.mono (Nat.zero_le _)⟩
  | global g =>
    have hg : (match Nat.ble (Nat.succ g) f.G with | true => some (AV.ptr g 0) | false => none) = some v := hv
    split at hg
    · rename_i hl
      have hl := Nat.le_of_ble_eq_true hl
      obtain rfl := Option.some.inj hg
      have := h.glob g hl
      exact ⟨by simp [Act.eval, conc, this.1], by simpa [Bnd] using this.2⟩
    · simp at hg
  | func g =>
    obtain rfl := Option.some.inj (show some (AV.fn g [] []) = some v from hv)
    exact ⟨by simp [Act.eval, conc, concL], by simp [Bnd, BndL]⟩

theorem FrOk.operands {R : Ren} {nx : Nat} {f : Fr} {a : Act} (h : FrOk R nx f a) : ∀ {l : List Operand} {m : List AV}, operandsX l f = some m → l.map a.eval = concL R m ∧ BndL nx m
  | [], m, hm => by simp [operandsX] at hm; subst hm; simp [concL, BndL]
  | x :: l, m, hm => by
    unfold operandsX at hm
    split at hm
    · simp at hm
    · rename_i v hv
      split at hm
      · simp at hm
      · rename_i m' hm'
        obtain rfl := Option.some.inj hm
        have h1 := h.ev hv
        have h2 := h.operands hm'
        exact ⟨by simp [concL, h1.1, h2.1], h1.2, h2.2⟩

theorem FrOk.operandsA {R : Ren} {nx : Nat} {f : Fr} {a : Act} (h : FrOk R nx f a) {l : Array Operand} {m : List AV} (hm : operandsX l.toList f = some m) : l.map a.eval = ⟨concL R m⟩ ∧ BndL nx m := by
  have := h.operands hm
  refine ⟨?_, this.2⟩
  apply Array.ext'
  simp [this.1]

theorem FrOk.parts {R : Ren} {nx : Nat} {f : Fr} {a : Act} (h : FrOk R nx f a) : ∀ {l : List (Nat × Operand)} {m : List (Nat × AV)}, partsX l f = some m →
    (l.map fun (i, x) => (i, a.eval x)) = m.map (fun p => (p.1, conc R p.2)) ∧ ∀ p ∈ m, Bnd nx p.2
  | [], m, hm => by simp [partsX] at hm; subst hm; simp
  | (i, x) :: l, m, hm => by
    unfold partsX at hm
    split at hm
    · simp at hm
    · rename_i v hv
      split at hm
      · simp at hm
      · rename_i m' hm'
        obtain rfl := Option.some.inj hm
        have h1 := h.ev hv
        have h2 := h.parts hm'
        refine ⟨by simp [h1.1]; simpa using h2.1, fun p hp => ?_⟩
        rcases List.mem_cons.1 hp with rfl | hp
        · exact h1.2
        · exact h2.2 p hp

theorem ret1_some {o : Option AV} {s s' : St} {v : AV} (h : ret1 o s = some (v, s')) : o = some v ∧ s' = s := by
  cases o <;> simp [ret1] at h
  exact ⟨by rw [h.1], h.2.symm⟩

section
variable {P : Program} {lo : Nat} {R : Ren} {s : St} {w : World}

theorem res_pure (hR : Rel R s w) {sem : Sem Next} {v : AV} (h : sem.run P w = .ok (.value (conc R v)) w) (hb : Bnd s.nx v) : Res P sem lo R s w v s :=
  ⟨R, _, w, h, .inl rfl, hR, Mv.refl lo R s w, hb⟩

/-- A step that gives the value of a piece. -/
theorem res_val (hR : Rel R s w) {sem : Sem Value} {v : AV} (h : sem.run P w = .ok (conc R v) w) (hb : Bnd s.nx v) : Res P (do pure (.value (← sem))) lo R s w v s :=
  res_pure hR (by simp [h]) hb

/-- A new row of cells. -/
theorem new_row (hR : Rel R s w) (hlo : lo ≤ s.nx) {l : List AV} {e : TypeId} {r : AV × St} (h : newX s l e = some r) (hb : BndL s.nx l) :
    r.1 = .ptr s.nx 0 ∧ ∃ R', R'.blk s.nx = w.heap.size ∧ Rel R' r.2 { w with heap := w.heap.push (.cells ⟨concL R l⟩ e) } ∧ Mv lo R s w R' r.2 { w with heap := w.heap.push (.cells ⟨concL R l⟩ e) } ∧ r.2.nx = s.nx + 1 := by
  unfold newX at h
  split at h
  · rename_i hr
    have hr : s.nx < lim := Nat.le_of_ble_eq_true hr
    rw [listK_eq, addK_eq] at h
    obtain rfl := Option.some.inj h
    have hag := R.name_agree s.nx w.heap.size 0
    have := rel_new (lo := lo) hR hlo hr (.row l e .ex) (.cells ⟨concL R l⟩ e) 0 (hb.mono (Nat.le_succ _)) (by
      simp only [ORel]
      exact ⟨trivial, by rw [concL_agree hag hb], free_zero _⟩)
    exact ⟨rfl, R.name s.nx w.heap.size 0, by simp, this.1, this.2, rfl⟩
  · simp at h

theorem res_new (hR : Rel R s w) (hlo : lo ≤ s.nx) {l : List AV} {e : TypeId} {v : AV} {s' : St} (h : newX s l e = some (v, s')) (hb : BndL s.nx l) {sem : Sem Value}
    (hs : sem.run P w = .ok (.pointer (some ⟨w.heap.size, 0, none⟩)) { w with heap := w.heap.push (.cells ⟨concL R l⟩ e) }) : Res P (do pure (.value (← sem))) lo R s w v s' := by
  obtain ⟨h1, R', h2, h3, h4, h5⟩ := new_row hR hlo h hb
  simp only at h1 h3 h4 h5
  refine ⟨R', _, _, by simp [hs]; rfl, .inl ?_, h3, h4, ?_⟩
  · rw [h1]; simp [conc, h2]
  · rw [h1]; simp [Bnd, h5]

end

section
variable {E : Env} {P : Program} (hE : E.Ok P) {lo : Nat} {R : Ren} {s s' : St} {w : World} {f : Fr} {a : Act} {v : AV} (hR : Rel R s w) (hF : FrOk R s.nx f a) (hlo : lo ≤ s.nx)

include hR hF in
theorem move_ok {x : Operand} (h : moveX x E lo f s = some (v, s')) : Res P (pure (.value (a.eval x))) lo R s w v s' := by
  obtain ⟨h1, rfl⟩ := ret1_some h
  have := hF.ev h1
  exact res_pure hR (by simp [this.1]) this.2

include hR hF in
theorem pick_ok {c x y : Operand} (h : pickX c x y E lo f s = some (v, s')) : Res P (do pure (.value (if ← asBool (a.eval c) then a.eval x else a.eval y))) lo R s w v s' := by
  unfold pickX pickV at h
  split at h
  · rename_i hc
    obtain ⟨h1, rfl⟩ := ret1_some h
    have := hF.ev h1
    exact res_pure hR (by simp [(hF.ev hc).1, conc, asBool, this.1]) this.2
  · rename_i hc
    obtain ⟨h1, rfl⟩ := ret1_some h
    have := hF.ev h1
    exact res_pure hR (by simp [(hF.ev hc).1, conc, asBool, this.1]) this.2
  · simp at h

include hE hR hlo in
theorem alloc_ok {t : TypeId} (h : allocX t E lo f s = some (v, s')) : Res P (do pure (.value (← Instr.alloc t true (.tuple #[])))) lo R s w v s' := by
  unfold allocX at h
  split at h
  · rename_i z hz
    have := run_zero hE R hz
    refine res_new hR hlo h ((cellsA_bnd this.2).mono (Nat.zero_le _)) ?_
    simp [Instr.alloc, newVar, newRow, this.1 w, cells_conc]
  · simp at h

include hR hF hlo in
theorem box_ok {t : TypeId} {x : Operand} (h : boxX t x E lo f s = some (v, s')) : Res P (do pure (.value (← Instr.box t (a.eval x)))) lo R s w v s' := by
  unfold boxX at h
  split at h
  · rename_i z hz
    have := hF.ev hz
    refine res_new hR hlo h (cellsA_bnd this.2) ?_
    simp [Instr.box, newVar, newRow, this.1, cells_conc]
  · simp at h

include hE hR hF in
theorem load_ok {t : TypeId} {x : Operand} (h : loadO t x E lo f s = some (v, s')) : Res P (do pure (.value (← Instr.loadAt t (a.eval x)))) lo R s w v s' := by
  unfold loadO loadV at h
  split at h
  · rename_i b o hp
    obtain ⟨h1, rfl⟩ := ret1_some h
    have h2 := run_loadVar hE hR h1
    refine res_val hR ?_ h2.2
    simp [Instr.loadAt, Instr.sureAddr, (hF.ev hp).1, conc, h2.1]
  · simp at h

include hE hR hF in
theorem store_ok {t : TypeId} {x y : Operand} (h : storeO t x y E lo f s = some (v, s')) : Res P (do Instr.storeAt t (a.eval x) (a.eval y); pure .skip) lo R s w v s' := by
  unfold storeO storeV at h
  split at h
  · rename_i b o hp
    split at h
    · rename_i u hu
      cases hs : storeX E lo s t b o u with
      | none => simp [hs, skipSt] at h
      | some s1 =>
        simp only [hs, skipSt, Option.some.injEq, Prod.mk.injEq] at h
        obtain ⟨rfl, rfl⟩ := h
        have hu := hF.ev hu
        obtain ⟨w', h1, h2, h3, h4⟩ := run_storeVar hE hR hs hu.2
        refine ⟨R, .skip, w', ?_, .inr ⟨rfl, rfl⟩, h2, h3, by simp [Bnd, BndL]⟩
        simp [Instr.storeAt, Instr.sureAddr, (hF.ev hp).1, hu.1, conc, h1]
    · simp at h
  · simp at h

include hR hF in
theorem nilCheck_ok {x : Operand} (h : nilCheckX x E lo f s = some (v, s')) (g : Sem Next) (hg : ∀ u, a.eval x = u → (∀ b, u = .pointer (some b) → g = pure (.value u)) ∧ (∀ t y, u = .iface t y → g = pure (.value u)) ∧ (∀ n fi ca, u = .func (.func n) fi ca → g = pure (.value u))) :
    Res P g lo R s w v s' := by
  unfold nilCheckX nilOk at h
  split at h
  · rename_i b o hp
    obtain ⟨rfl, rfl⟩ := Prod.mk.inj (Option.some.inj h)
    have h1 := hF.ev hp
    have := (hg _ h1.1).1 _ rfl
    exact res_pure hR (by rw [this]; simp) h1.2
  · rename_i t y hp
    obtain ⟨rfl, rfl⟩ := Prod.mk.inj (Option.some.inj h)
    have h1 := hF.ev hp
    have := (hg _ h1.1).2.1 _ _ rfl
    exact res_pure hR (by rw [this]; simp) h1.2
  · rename_i n fi ca hp
    obtain ⟨rfl, rfl⟩ := Prod.mk.inj (Option.some.inj h)
    have h1 := hF.ev hp
    have := (hg _ h1.1).2.2 _ _ _ rfl
    exact res_pure hR (by rw [this]; simp) h1.2
  · simp at h

theorem same_addr (x : Addr) : (sameAddr x x).run P w = .ok true w := by simp [sameAddr]

include hE in
theorem eqX_ok {t : TypeId} {x y : AV} {r : Bool} (h : eqX E t x y = some r) : (Op.equal t (conc R x) (conc R y)).run P w = .ok r w := by
  have gen : ∀ n, (Op.equalIn (n + 2) t (conc R x) (conc R y)).run P w = .ok r w := by
    intro n
    unfold eqX at h
    split at h <;> rename_i hu
    case h_18 =>
      split at h
      · rename_i q hq
        split at h
        · rename_i l hl
          have := hE.ty t q hq
          have hd : E.und t = some q.d := by simp [Env.und, hq]
          rw [hu] at hd
          have hd := Option.some.inj hd
          rw [conc, conc]
          exact structEq_ok (this.2.1) (this.2.2 l hl) h n w
        · simp at h
      · simp at h
    case h_19 => simp at h
    case h_5 =>
      rename_i e b o c p
      unfold ptrEq at h
      split at h
      · rename_i q hq
        split at h
        · rename_i hc
          obtain rfl := Option.some.inj h
          simp only [Bool.and_eq_true] at hc
          obtain rfl := Nat.eq_of_beq_eq_true hc.1
          obtain rfl := Nat.eq_of_beq_eq_true hc.2
          have := hE.ty e q hq
          simp only [conc]
          simp [Op.equalIn, run_und hE (w := w) hu, sizeOf, typeInfo, this.1, same_addr]
        · simp at h
      · simp at h
    case h_8 =>
      rename_i ms t1 v1 t2 v2
      have hu' := run_und hE (w := w) hu
      by_cases ht : t1 = t2
      · subst ht
        rw [if_pos rfl] at h
        unfold ifcEq at h
        split at h
        · rename_i q hq
          split at h
          · rename_i hcmp
            have hty := hE.ty t1 q hq
            have fin : ∀ k, skD k q.d → scalarEq k v1 v2 = some r → (Op.equalIn (n + 2) t (conc R (.ifc t1 v1)) (conc R (.ifc t1 v2))).run P w = .ok r w := by
              intro k hk hs
              have h1 := scalarEq_ok (P := P) (R := R) hs hty.2.1 hk n w
              rw [Op.equalIn]
              simp [conc, hu', typeInfo, hty.1, hcmp, h1]
            split at h
            · rename_i hd; exact fin .i (by rw [hd]; trivial) h
            · rename_i hd; exact fin .s (by rw [hd]; trivial) h
            · simp at h
          · simp at h
        · simp at h
      · rw [if_neg ht] at h
        obtain rfl := Option.some.inj h
        rw [Op.equalIn]
        simp [conc, hu', ht]
    all_goals
      have hu' := run_und hE (w := w) hu
      rw [Op.equalIn]
      simp only [conc, Sem.run_bind, hu', Result.andThen_ok]
    all_goals first
      | (obtain rfl := Option.some.inj h; simp; done)
      | (rename_i p q; obtain rfl := Option.some.inj h; cases p <;> cases q <;> simp; done)
      | (split at h
         · simp at h
         · rename_i hne; obtain rfl := Option.some.inj h; simp [hne])
  exact gen 9998

include hE in
theorem equal_nil {t : TypeId} {ms : Array (String × TypeId)} (hu : E.und t = some (.interface ms)) : (Op.equal t .nilIface .nilIface).run P w = .ok true w := by
  have gen : ∀ n, (Op.equalIn (n + 1) t .nilIface .nilIface).run P w = .ok true w := by
    intro n
    rw [Op.equalIn]
    simp [run_und hE (w := w) hu]
  exact gen 9999

theorem eqGuard_other {op : BinOp} {t : TypeId} {x y : Operand} {u v : Value} (h : ¬ (u = .nilIface ∧ v = .nilIface)) (h' : ∀ a b, ¬ (u = .agg a ∧ v = .agg b)) : (eqGuard op t x y u v).run P w = .ok () w := by
  cases op <;> cases u <;> first
    | rfl
    | (cases v <;> first
        | rfl
        | (exact absurd ⟨rfl, rfl⟩ h)
        | (exact absurd ⟨rfl, rfl⟩ (h' _ _)))

theorem nilConst_ok {x : Operand} (h : nilConst x = true) : x = .const .nilIface := by
  unfold nilConst at h
  split at h
  · rfl
  · simp at h

include hE in
theorem binEq_ok {t : TypeId} {p q : AV} {r : Bool} (h : eqX E t p q = some r) (op : BinOp) (x y : Operand) :
    (eqGuard op t x y (conc R p) (conc R q)).run P w = .ok () w ∧ binOp .eql t (conc R p) (conc R q) = (do pure (.bool (← Op.equal t (conc R p) (conc R q)))) ∧
    binOp .neq t (conc R p) (conc R q) = (do pure (.bool (!(← Op.equal t (conc R p) (conc R q))))) := by
  unfold eqX at h
  split at h <;> rename_i hu
  case h_18 =>
    split at h
    · rename_i z hz
      split at h
      · rename_i l hl
        have := (hE.ty t z hz).2.2 l hl
        exact ⟨run_eqGuard_agg w op t x y _ _ this.eg, rfl, rfl⟩
      · simp at h
    · simp at h
  case h_19 => simp at h
  all_goals exact ⟨eqGuard_other (by simp [conc]) (by simp [conc]), rfl, rfl⟩

include hE in
theorem binX_ok {op : BinOp} {t : TypeId} {x y : Operand} {p q : AV} (h : binX E op t x y p q = some v) :
    (do eqGuard op t x y (conc R p) (conc R q); binOp op t (conc R p) (conc R q) : Sem Value).run P w = .ok (conc R v) w ∧ Bnd 0 v := by
  unfold binX at h
  split at h
  · -- two integers
    split at h
    · have := runV_ok (P := P) R h
      refine ⟨?_, this.2⟩
      simp only [conc, Sem.run_bind, eqGuard_other (P := P) (w := w) (op := .shl) (t := t) (x := x) (y := y) (u := .int _ _) (v := .int _ _) (by simp) (by simp), Result.andThen_ok]
      exact this.1 w
    · have := runV_ok (P := P) R h
      refine ⟨?_, this.2⟩
      simp only [conc, Sem.run_bind, eqGuard_other (P := P) (w := w) (op := .shr) (t := t) (x := x) (y := y) (u := .int _ _) (v := .int _ _) (by simp) (by simp), Result.andThen_ok]
      exact this.1 w
    · rename_i h1 h2
      split at h
      · rename_i hk
        obtain rfl := kindEq_eq.1 hk
        exact binI_ok (P := P) R ⟨h1, h2⟩ h t x y w
      · simp at h
  · exact binS_ok (P := P) R h t x y w
  · have := runV_ok (P := P) R h
    exact ⟨this.1 w, this.2⟩
  · have := runV_ok (P := P) R h
    exact ⟨this.1 w, this.2⟩
  · split at h
    · rename_i ms hu hc
      obtain rfl := Option.some.inj h
      have hc : x = .const .nilIface ∨ y = .const .nilIface := by
        rcases (Bool.or_eq_true _ _).mp hc with hx | hy
        · exact .inl (nilConst_ok hx)
        · exact .inr (nilConst_ok hy)
      refine ⟨?_, by simp [Bnd]⟩
      rcases hc with rfl | rfl <;> simp [conc, eqGuard, binOp, equal_nil hE hu]
    · rename_i ms hu hc
      obtain rfl := Option.some.inj h
      have hc : x = .const .nilIface ∨ y = .const .nilIface := by
        rcases (Bool.or_eq_true _ _).mp hc with hx | hy
        · exact .inl (nilConst_ok hx)
        · exact .inr (nilConst_ok hy)
      refine ⟨?_, by simp [Bnd]⟩
      rcases hc with rfl | rfl <;> simp [conc, eqGuard, binOp, equal_nil hE hu]
    · simp at h
  · split at h
    · obtain ⟨r, hr, rfl⟩ := Option.map_eq_some_iff.1 h
      have h1 := binEq_ok hE (P := P) (R := R) (w := w) hr .eql x y
      refine ⟨?_, by simp [Bnd]⟩
      simp [h1.1, h1.2.1, eqX_ok hE (P := P) (R := R) (w := w) hr, conc]
    · obtain ⟨r, hr, rfl⟩ := Option.map_eq_some_iff.1 h
      have h1 := binEq_ok hE (P := P) (R := R) (w := w) hr .neq x y
      refine ⟨?_, by simp [Bnd]⟩
      simp [h1.1, h1.2.2, eqX_ok hE (P := P) (R := R) (w := w) hr, conc]
    · simp at h

end
end Go.Vx
