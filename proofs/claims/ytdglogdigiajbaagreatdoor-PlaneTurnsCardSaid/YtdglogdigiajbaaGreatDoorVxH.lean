/-
  A run told in advance, part eight: further operations: parts, addresses, slices, conversions, closures. No condition.
-/
import Derived.Test.YtdglogdigiajbaaGreatDoorVxG
import Derived.IntWalk
set_option linter.unusedSectionVars false
set_option linter.unusedSimpArgs false
set_option linter.unusedVariables false
namespace Go.Vx
open Go.RowKit

section
variable {E : Env} {P : Program} (hE : E.Ok P) {lo : Nat} {R : Ren} {s s' : St} {w : World} {f : Fr} {a : Act} {v : AV} (hR : Rel R s w) (hF : FrOk R s.nx f a) (hlo : lo ≤ s.nx)

include hE hR hF in
theorem bin_ok {op : BinOp} {t : TypeId} {x y : Operand} (h : binO op t x y E lo f s = some (v, s')) :
    Res P (do pure (.value (← (do eqGuard op t x y (a.eval x) (a.eval y); binOp op t (a.eval x) (a.eval y) : Sem Value)))) lo R s w v s' := by
  unfold binO at h
  split at h
  · simp at h
  · rename_i p hp
    split at h
    · simp at h
    · rename_i q hq
      obtain ⟨h1, rfl⟩ := ret1_some h
      have h2 := binX_ok hE (P := P) (R := R) (w := w) h1
      refine res_val hR ?_ (h2.2.mono (Nat.zero_le _))
      rw [(hF.ev hp).1, (hF.ev hq).1]
      exact h2.1

include hR hF in
theorem un_ok {op : UnOp} {x : Operand} (h : unO op x E lo f s = some (v, s')) : Res P (do pure (.value (← Op.unary op (a.eval x)))) lo R s w v s' := by
  unfold unO at h
  split at h
  · rename_i p hp
    obtain ⟨h1, rfl⟩ := ret1_some h
    have hx := (hF.ev hp).1
    unfold unX at h1
    split at h1
    · split at h1
      · obtain rfl := Option.some.inj h1
        exact res_val hR (by rw [hx]; simp [conc, Op.unary]) (by simp [Bnd])
      · simp at h1
    · have h2 := runV_ok (P := P) R h1
      exact res_val hR (by rw [hx]; exact h2.1 w) (h2.2.mono (Nat.zero_le _))
    · have h2 := runV_ok (P := P) R h1
      exact res_val hR (by rw [hx]; exact h2.1 w) (h2.2.mono (Nat.zero_le _))
    · have h2 := runV_ok (P := P) R h1
      exact res_val hR (by rw [hx]; exact h2.1 w) (h2.2.mono (Nat.zero_le _))
    · simp at h1
  · simp at h

include hE hR hF in
theorem iface_ok {t : TypeId} {x : Operand} (h : ifaceX t x E lo f s = some (v, s')) : Res P (do pure (.value (← Instr.makeInterface t (a.eval x)))) lo R s w v s' := by
  unfold ifaceX at h
  split at h
  · simp at h
  · rename_i d hd
    split at h
    · simp at h
    · rename_i hn
      split at h
      · rename_i p hp
        obtain ⟨rfl, rfl⟩ := Prod.mk.inj (Option.some.inj h)
        have h1 := hF.ev hp
        refine res_val hR ?_ (by simpa [Bnd] using h1.2)
        simp only [Instr.makeInterface, Sem.run_bind, run_und hE hd, Result.andThen_ok, h1.1, conc]
        cases d <;> first | rfl | (simp [notIface] at hn)
      · simp at h

include hR hF in
theorem makeFunc_ok {g : Fn} {x c : Array Operand} (h : makeFuncX g x c E lo f s = some (v, s')) : Res P (do pure (.value (← Instr.makeFunc g (x.map a.eval) (c.map a.eval)))) lo R s w v s' := by
  unfold makeFuncX at h
  split at h
  · split at h
    · simp at h
    · rename_i p hp
      split at h
      · simp at h
      · rename_i q hq
        obtain ⟨rfl, rfl⟩ := Prod.mk.inj (Option.some.inj h)
        have h1 := hF.operandsA hp
        have h2 := hF.operandsA hq
        exact res_val hR (by simp [Instr.makeFunc, h1.1, h2.1, conc]) ⟨h1.2, h2.2⟩
  · simp at h

/-- A new block that is no row of cells. -/
theorem new_obj (hR : Rel R s w) (hlo : lo ≤ s.nx) {o : AO} {v : AV} {r : AV × St} (h : newObjX s o v = some r) (x : Obj) (hb : OBnd s.nx o) (hr : ORel R o x) :
    r.1 = v ∧ ∃ R', R'.blk s.nx = w.heap.size ∧ Rel R' r.2 { w with heap := w.heap.push x } ∧ Mv lo R s w R' r.2 { w with heap := w.heap.push x } ∧ r.2.nx = s.nx + 1 := by
  unfold newObjX at h
  split at h
  · rename_i hq
    have hq : s.nx < lim := Nat.le_of_ble_eq_true hq
    rw [addK_eq] at h
    obtain rfl := Option.some.inj h
    have hag := R.name_agree s.nx w.heap.size 0
    have := rel_new (lo := lo) hR hlo hq o x 0 (hb.mono (Nat.le_succ _)) (hr.agree hag hb)
    exact ⟨rfl, R.name s.nx w.heap.size 0, by simp, this.1, this.2, rfl⟩
  · simp at h

include hE hR hF hlo in
theorem makeMap_ok {t : TypeId} {r : Option Operand} (h : makeMapX t r E lo f s = some (v, s')) : Res P (do pure (.value (← Instr.makeMap t (r.map a.eval)))) lo R s w v s' := by
  have fin : ∀ {sem : Sem Value}, newObjX s (.mp [] 0) (.map s.nx) = some (v, s') → sem.run P w = .ok (.map (some w.heap.size)) { w with heap := w.heap.push (.map #[] 0) } → Res P (do pure (.value (← sem))) lo R s w v s' := by
    intro sem h hs
    obtain ⟨h1, R', h2, h3, h4, h5⟩ := new_obj hR hlo h (.map #[] 0) (by simp [OBnd]) (by simp [ORel])
    simp only at h1 h3 h4 h5
    subst h1
    exact ⟨R', _, _, by simp [hs]; rfl, .inl (by simp [conc, h2]), h3, h4, by simp [Bnd, h5]⟩
  unfold makeMapX at h
  split at h
  · exact fin h (by simp [Instr.makeMap])
  · rename_i x
    split at h
    · rename_i hu
      split at h
      · rename_i hx
        refine fin h ?_
        simp [Instr.makeMap, run_und hE hu, (hF.ev hx).1, conc, asInt, asIntOf]
      · simp at h
    · simp at h

include hE hR hF hlo in
theorem makeSlice_ok {t : TypeId} {l c : Operand} (h : makeSliceX t l c E lo f s = some (v, s')) : Res P (do pure (.value (← Instr.makeSlice t (a.eval l) (a.eval c)))) lo R s w v s' := by
  unfold makeSliceX makeSliceV at h
  split at h
  · rename_i e hu
    split at h
    · rename_i n hl
      split at h
      · rename_i m hc
        unfold makeSliceE at h
        split at h
        · simp at h
        · rename_i esz hsz
          split at h
          · simp at h
          · rename_i bts hbt
            split at h
            · simp at h
            · rename_i z hz
              split at h
              · rename_i hcc
                simp only [Bool.and_eq_true] at hcc
                obtain ⟨⟨⟨c1, c2⟩, c3⟩, c4⟩ := hcc
                have c1 := Nat.le_of_ble_eq_true c1
                have c2 := Nat.le_of_ble_eq_true c2
                have c3 := Nat.le_of_ble_eq_true c3
                have c4 : (cellsA z).length = esz := Nat.eq_of_beq_eq_true c4
                have h1 := run_zero hE R hz
                obtain ⟨i, hi, hib⟩ := run_bytes hE (P := P) hbt
                have hb : BndL s.nx (zerosX (cellsA z) m) := BndL_iff.2 fun x hx => (BndL_iff.1 (cellsA_bnd h1.2) x (zerosX_mem hx)).mono (Nat.zero_le _)
                refine res_slice hR hlo h hb (by unfold big; omega) ?_
                have w1 : IntKind.i64.wrap (n : Int) = n := IntWalk.i64_in _ (by omega)
                have w2 : IntKind.i64.wrap (m : Int) = m := IntWalk.i64_in _ (by omega)
                have hbm : ((bts : Int) * (m : Int)) ≤ 16777216 := by
                  have : bts * m ≤ 16777216 := by rw [Nat.mul_comm]; exact c2
                  have h2 : ((bts * m : Nat) : Int) ≤ ((16777216 : Nat) : Int) := Int.ofNat_le.2 this
                  rw [Int.natCast_mul] at h2
                  exact h2
                by_cases h0 : m * esz = 0
                · have e0 : concL R (zerosX (cellsA z) m) = [] := by
                    apply List.eq_nil_of_length_eq_zero
                    rw [concL_length, zerosX_length, c4]; exact h0
                  simp only [Instr.makeSlice, Sem.run_bind, run_und hE hu, Result.andThen_ok, (hF.ev hl).1, (hF.ev hc).1, conc, asInt, asIntOf, Sem.run_pure, Int.ofNat_eq_natCast, hi, hib, w1, w2]
                  rw [if_neg (by simp; omega)]
                  simp [run_size hE hsz, h0, newRow, e0, show Array.range 0 = #[] from rfl]
                · have hz1 := zeros_ok (R := R) (cellsA z) m esz c4
                  simp at hz1
                  simp only [Instr.makeSlice, Sem.run_bind, run_und hE hu, Result.andThen_ok, (hF.ev hl).1, (hF.ev hc).1, conc, asInt, asIntOf, Sem.run_pure, Int.ofNat_eq_natCast, hi, hib, w1, w2]
                  rw [if_neg (by simp; omega)]
                  simp [run_size hE hsz, h0, newRow, h1.1, cells_conc, hz1]
              · simp at h
      · simp at h
    · simp at h
  · simp at h

include hE hR hF in
theorem fieldAddr_ok {t : TypeId} {x : Operand} {i : Nat} (h : fieldAddrX t x i E lo f s = some (v, s')) : Res P (do pure (.value (← Instr.fieldAt t (a.eval x) i))) lo R s w v s' := by
  unfold fieldAddrX fieldAddrD at h
  split at h
  · rename_i d hd
    split at h
    · rename_i fs
      split at h
      · rename_i b o hp
        unfold fieldAddrP at h
        split at h
        · rename_i off n hpl
          split at h
          · simp at h
          · rename_i k
            obtain ⟨rfl, rfl⟩ := Prod.mk.inj (Option.some.inj h)
            unfold placeX at hpl
            split at hpl
            · rename_i g hg
              split at hpl
              · rename_i m hm
                obtain ⟨rfl, rfl⟩ := Prod.mk.inj (Option.some.inj hpl)
                have h1 := hF.ev hp
                have hg' : fs[i]? = some g := by simpa using hg
                refine res_val hR ?_ (by simpa [Bnd] using h1.2)
                simp [Instr.fieldAt, run_und hE hd, hg', h1.1, conc, Instr.sureAddr, fieldPlace, run_size hE hm, Addr.add_mk]
              · simp at hpl
            · simp at hpl
        · simp at h
      · simp at h
    · simp at h
  · simp at h

include hE in
theorem partX_ok {t : TypeId} {l : List AV} {off : Nat} {r : AV} (h : partX E t l off = some r) : (part t ⟨concL R l⟩ off).run P w = .ok (conc R r) w ∧ (∀ n, BndL n l → Bnd n r) := by
  unfold partX at h
  split at h
  · rename_i ha
    split at h
    · rename_i n hn
      obtain ⟨m, hm, rfl⟩ := Option.map_eq_some_iff.1 h
      obtain ⟨h1, h2⟩ := takeN_ok hm
      refine ⟨?_, fun k hk => by simp only [Bnd]; exact BndL_iff.2 fun x hx => BndL_iff.1 hk x (List.mem_of_mem_drop (takeN_mem hm hx))⟩
      simp only [part, Sem.run_bind, run_agg hE ha, Result.andThen_ok, if_true, run_size hE hn]
      simp only [Sem.run_pure, conc]
      congr 2
      have hl : off + n ≤ l.length ∨ n = 0 := by
        rcases Nat.eq_zero_or_pos n with h0 | h0
        · exact .inr h0
        · have := h2 (n - 1) (by omega)
          rw [List.getElem?_eq_getElem (by omega)] at this
          have := (List.getElem?_eq_some_iff.1 this.symm).1
          simp at this
          left; omega
      apply Array.ext_getElem?
      intro j
      simp only [Array.getElem?_extract, List.size_toArray, concL_length, List.getElem?_toArray, concL_getElem?]
      by_cases hj : j < n
      · rw [h2 j hj, List.getElem?_drop]
        rcases hl with hl | hl
        · rw [if_pos (by rw [Nat.min_eq_left hl]; omega)]
        · omega
      · have hm0 : m[j]? = none := List.getElem?_eq_none (by omega)
        rw [hm0, if_neg (by omega)]
        rfl
    · simp at h
  · rename_i ha
    refine ⟨?_, fun k hk => BndL_get hk h⟩
    simp only [part, Sem.run_bind, run_agg hE ha, Result.andThen_ok]
    simp [h]
  · simp at h

include hE hR hF in
theorem field_ok {t : TypeId} {x : Operand} {i : Nat} (h : fieldX t x i E lo f s = some (v, s')) : Res P (do pure (.value (← Instr.field t (a.eval x) i))) lo R s w v s' := by
  unfold fieldX fieldD at h
  split at h
  · rename_i d hd
    split at h
    · rename_i fs
      split at h
      · rename_i l hp
        unfold fieldF at h
        split at h
        · rename_i g hg
          obtain ⟨h2, rfl⟩ := ret1_some h
          have h1 := hF.ev hp
          have hg' : fs[i]? = some g := by simpa using hg
          have h3 := partX_ok hE (P := P) (R := R) (w := w) h2
          refine res_val hR ?_ (h3.2 _ h1.2)
          simp [Instr.field, run_und hE hd, hg', h1.1, conc, asAgg, h3.1]
        · simp at h
      · simp at h
    · simp at h
  · simp at h

theorem indexX_ok {i : AV} {n k : Nat} (h : indexX i n = some k) : (∃ q, conc R i = .int q (k : Int)) ∧ k < n := by
  unfold indexX at h
  split at h
  · rename_i m hm
    split at h
    · rename_i hl
      obtain rfl := Option.some.inj h
      exact ⟨intOfX_ok hm, Nat.le_of_ble_eq_true hl⟩
    · simp at h
  · simp at h

include hE hR hF in
theorem indexAddr_ok {t : TypeId} {x i : Operand} (h : indexAddrX t x i E lo f s = some (v, s')) : Res P (do pure (.value (← Instr.indexAt t (a.eval x) (a.eval i)))) lo R s w v s' := by
  unfold indexAddrX at h
  split at h
  · simp at h
  · rename_i d hd
    split at h
    · simp at h
    · rename_i p hp
      split at h
      · simp at h
      · rename_i q hq
        have h1 := hF.ev hp
        have h2 := hF.ev hq
        unfold indexAddrD at h
        split at h
        · rename_i e
          split at h
          · rename_i b o n c
            unfold indexAt at h
            split at h
            · rename_i k hk
              split at h
              · rename_i esz hsz
                obtain ⟨rfl, rfl⟩ := Prod.mk.inj (Option.some.inj h)
                obtain ⟨⟨kk, hk1⟩, hk2⟩ := indexX_ok (R := R) hk
                refine res_val hR ?_ (by have := h1.2; simp only [Bnd] at this ⊢; exact this.1)
                simp [Instr.indexAt, h1.1, h2.1, hk1, asIntOf, run_und hE hd, conc, hk2, run_size hE hsz, Addr.add_mk]
              · simp at h
            · simp at h
          · simp at h
        · rename_i n e
          split at h
          · rename_i b o
            unfold indexAt at h
            split at h
            · rename_i k hk
              split at h
              · rename_i esz hsz
                obtain ⟨rfl, rfl⟩ := Prod.mk.inj (Option.some.inj h)
                obtain ⟨⟨kk, hk1⟩, hk2⟩ := indexX_ok (R := R) hk
                refine res_val hR ?_ (by have := h1.2; simpa only [Bnd] using this)
                simp [Instr.indexAt, Instr.sureAddr, h1.1, h2.1, hk1, asIntOf, run_und hE hd, conc, hk2, run_size hE hsz, Addr.add_mk]
              · simp at h
            · simp at h
          · simp at h
        · simp at h

include hE hR hF in
theorem index_ok {t : TypeId} {x i : Operand} (h : indexO t x i E lo f s = some (v, s')) : Res P (do pure (.value (← Instr.index t (a.eval x) (a.eval i)))) lo R s w v s' := by
  unfold indexO at h
  split at h
  · simp at h
  · rename_i d hd
    split at h
    · simp at h
    · rename_i p hp
      split at h
      · simp at h
      · rename_i q hq
        have h1 := hF.ev hp
        have h2 := hF.ev hq
        unfold indexD at h
        split at h
        · split at h
          · rename_i l
            unfold indexStr at h
            split at h
            · rename_i k hk
              obtain ⟨kk, hk1⟩ := intOfX_ok (R := R) hk
              unfold byteX at h
              split at h
              · rename_i b hb
                obtain ⟨rfl, rfl⟩ := Prod.mk.inj (Option.some.inj h)
                refine res_val hR ?_ (by simp [Bnd])
                have hb' : (⟨⟨l⟩⟩ : ByteArray)[k]? = some b := by
                  have hlt : k < l.length := (List.getElem?_eq_some_iff.1 hb).1
                  have : k < (⟨⟨l⟩⟩ : ByteArray).size := hlt
                  rw [getElem?_pos (⟨⟨l⟩⟩ : ByteArray) k this]
                  have := (List.getElem?_eq_some_iff.1 hb).2
                  exact congrArg some this
                simp [Instr.index, h1.1, h2.1, hk1, asIntOf, run_und hE hd, conc, hb']
              · simp at h
            · simp at h
          · simp at h
        · rename_i n e
          split at h
          · rename_i l
            unfold indexArr at h
            split at h
            · rename_i k hk
              split at h
              · rename_i esz hsz
                obtain ⟨h3, rfl⟩ := ret1_some h
                obtain ⟨⟨kk, hk1⟩, hk2⟩ := indexX_ok (R := R) hk
                have h4 := partX_ok hE (P := P) (R := R) (w := w) h3
                refine res_val hR ?_ (h4.2 _ h1.2)
                have h5 := h4.1
                simp [Instr.index, h1.1, h2.1, hk1, asIntOf, run_und hE hd, conc, hk2, run_size hE hsz]
                exact h5
              · simp at h
            · simp at h
          · simp at h
        · simp at h

include hR hF in
theorem extract_ok {x : Operand} {i : Nat} (h : extractX x i E lo f s = some (v, s')) : Res P (do pure (.value (← Instr.extract (a.eval x) i))) lo R s w v s' := by
  unfold extractX extractV at h
  split at h
  · rename_i l hp
    obtain ⟨h2, rfl⟩ := ret1_some h
    have h1 := hF.ev hp
    exact res_val hR (by simp [Instr.extract, h1.1, conc, h2]) (BndL_get h1.2 h2)
  · simp at h

include hE hR hF in
theorem assert_ok {x : Operand} {t u : TypeId} {ok : Bool} (h : assertX x t ok E lo f s = some (v, s')) : Res P (do pure (.value (← Instr.typeAssert (a.eval x) u t ok))) lo R s w v s' := by
  unfold assertX at h
  split at h
  · simp at h
  · rename_i d hd
    split at h
    · simp at h
    · rename_i hn
      have hno : ∀ ms, d ≠ .interface ms := by intro ms e; subst e; simp [notIface] at hn
      have fails : ∀ {y : Option AV}, assertN t ok E s = some (v, s') → y = y → (∀ q, a.eval x = q → (Instr.typeAssert q u t ok).run P w = (do pure (.tuple #[← zeroValue t, .bool false]) : Sem Value).run P w) → Res P (do pure (.value (← Instr.typeAssert (a.eval x) u t ok))) lo R s w v s' := by
        intro y h _ hq
        unfold assertN at h
        split at h
        · simp at h
        · split at h
          · rename_i z hz
            obtain ⟨rfl, rfl⟩ := Prod.mk.inj (Option.some.inj h)
            have h1 := run_zero hE R hz
            exact res_val hR (by rw [hq _ rfl]; simp [h1.1 w, conc, concL]) (by simp [Bnd, BndL, h1.2.mono (Nat.zero_le _)])
          · simp at h
      unfold assertV at h
      split at h
      · rename_i uu y hp
        have h1 := hF.ev hp
        split at h
        · rename_i he
          have he : uu = t := Nat.eq_of_beq_eq_true he
          subst he
          unfold okX at h
          split at h
          · obtain ⟨rfl, rfl⟩ := Prod.mk.inj (Option.some.inj h)
            refine res_val hR ?_ (by have := h1.2; simp only [Bnd] at this; simp [Bnd, BndL, this])
            simp only [Instr.typeAssert, Sem.run_bind, run_und hE hd, Result.andThen_ok, h1.1, conc]
            cases d <;> first | (simp [concL, conc]; done) | (exact absurd rfl (hno _))
          · obtain ⟨rfl, rfl⟩ := Prod.mk.inj (Option.some.inj h)
            refine res_val hR ?_ (by have := h1.2; simpa only [Bnd] using this)
            simp only [Instr.typeAssert, Sem.run_bind, run_und hE hd, Result.andThen_ok, h1.1, conc]
            cases d <;> first | (simp; done) | (exact absurd rfl (hno _))
        · rename_i he
          have he : uu ≠ t := fun e => by rw [e] at he; simp at he
          have hok : ok = true := by
            unfold assertN at h; cases ok <;> simp at h ⊢
          subst hok
          refine fails (y := none) h rfl fun q hq => ?_
          rw [h1.1] at hq
          subst hq
          simp only [Instr.typeAssert, Sem.run_bind, run_und hE hd, Result.andThen_ok, conc]
          cases d <;> first | (simp [he]; done) | (exact absurd rfl (hno _))
      · rename_i hp
        have h1 := hF.ev hp
        have hok : ok = true := by
          unfold assertN at h; cases ok <;> simp at h ⊢
        subst hok
        refine fails (y := none) h rfl fun q hq => ?_
        rw [h1.1] at hq
        subst hq
        simp only [Instr.typeAssert, Sem.run_bind, run_und hE hd, Result.andThen_ok, conc]
        cases d <;> first | (simp; done) | (exact absurd rfl (hno _))
      · simp at h

end
end Go.Vx
