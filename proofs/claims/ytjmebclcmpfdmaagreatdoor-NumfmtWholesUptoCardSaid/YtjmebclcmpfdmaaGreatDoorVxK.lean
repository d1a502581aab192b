/-
  A run told in advance, part eight: further operations: parts, addresses, slices, conversions, closures. No condition.
-/
import Derived.Test.YtjmebclcmpfdmaaGreatDoorVxG
import Derived.IntWalk
import Derived.Laws.BytesString
import Derived.MapKept
import Derived.Lib.Builder
import Derived.Laws.Slices
import Derived.WideKeyRuns
set_option linter.unusedSectionVars false
set_option linter.unusedSimpArgs false
set_option linter.unusedVariables false
namespace Go.Vx
open Go.RowKit

section
variable {E : Env} {P : Program} (hE : E.Ok P) {lo : Nat} {R : Ren} {s s' : St} {w : World} {f : Fr} {a : Act} {v : AV} (hR : Rel R s w) (hF : FrOk R s.nx f a) (hlo : lo ≤ s.nx)

include hE hR hF in
theorem bin_ok {op : BinOp} {t : TypeId} {x y : Operand} (h : binO op t x y E lo f s = some (v, s')) :
    Res P (do pure (.value (← (do eqGuard op t x y (a.eval x) (a.eval y); binOp op t (a.eval x) (a.eval y) : Sem Value)))) lo R s w v s' := by
  unfold binO at h
  split at h
  · simp at h
  · rename_i p hp
    split at h
    · simp at h
    · rename_i q hq
      obtain ⟨h1, rfl⟩ := ret1_some h
      have h2 := binX_ok hE (P := P) (R := R) (w := w) h1
      refine res_val hR ?_ (h2.2.mono (Nat.zero_le _))
      rw [(hF.ev hp).1, (hF.ev hq).1]
      exact h2.1

include hR hF in
theorem un_ok {op : UnOp} {x : Operand} (h : unO op x E lo f s = some (v, s')) : Res P (do pure (.value (← Op.unary op (a.eval x)))) lo R s w v s' := by
  unfold unO at h
  split at h
  · rename_i p hp
    obtain ⟨h1, rfl⟩ := ret1_some h
    have hx := (hF.ev hp).1
    unfold unX at h1
    split at h1
    · split at h1
      · obtain rfl := Option.some.inj h1
        exact res_val hR (by rw [hx]; simp [conc, Op.unary]) (by simp [Bnd])
      · simp at h1
    · have h2 := runV_ok (P := P) R h1
      exact res_val hR (by rw [hx]; exact h2.1 w) (h2.2.mono (Nat.zero_le _))
    · have h2 := runV_ok (P := P) R h1
      exact res_val hR (by rw [hx]; exact h2.1 w) (h2.2.mono (Nat.zero_le _))
    · have h2 := runV_ok (P := P) R h1
      exact res_val hR (by rw [hx]; exact h2.1 w) (h2.2.mono (Nat.zero_le _))
    · simp at h1
  · simp at h

include hE hR hF in
theorem iface_ok {t : TypeId} {x : Operand} (h : ifaceX t x E lo f s = some (v, s')) : Res P (do pure (.value (← Instr.makeInterface t (a.eval x)))) lo R s w v s' := by
  unfold ifaceX at h
  split at h
  · simp at h
  · rename_i d hd
    split at h
    · simp at h
    · rename_i hn
      split at h
      · rename_i p hp
        obtain ⟨rfl, rfl⟩ := Prod.mk.inj (Option.some.inj h)
        have h1 := hF.ev hp
        refine res_val hR ?_ (by simpa [Bnd] using h1.2)
        simp only [Instr.makeInterface, Sem.run_bind, run_und hE hd, Result.andThen_ok, h1.1, conc]
        cases d <;> first | rfl | (simp [notIface] at hn)
      · simp at h

include hR hF in
theorem makeFunc_ok {g : Fn} {x c : Array Operand} (h : makeFuncX g x c E lo f s = some (v, s')) : Res P (do pure (.value (← Instr.makeFunc g (x.map a.eval) (c.map a.eval)))) lo R s w v s' := by
  unfold makeFuncX at h
  split at h
  · split at h
    · simp at h
    · rename_i p hp
      split at h
      · simp at h
      · rename_i q hq
        obtain ⟨rfl, rfl⟩ := Prod.mk.inj (Option.some.inj h)
        have h1 := hF.operandsA hp
        have h2 := hF.operandsA hq
        exact res_val hR (by simp [Instr.makeFunc, h1.1, h2.1, conc]) ⟨h1.2, h2.2⟩
  · simp at h

/-- A new block that is no row of cells. -/
theorem new_obj (hR : Rel R s w) (hlo : lo ≤ s.nx) {o : AO} {v : AV} {r : AV × St} (h : newObjX s o v = some r) (x : Obj) (hb : OBnd s.nx o) (hr : ORel R o x) :
    r.1 = v ∧ ∃ R', R'.blk s.nx = w.heap.size ∧ Rel R' r.2 { w with heap := w.heap.push x } ∧ Mv lo R s w R' r.2 { w with heap := w.heap.push x } ∧ r.2.nx = s.nx + 1 := by
  unfold newObjX at h
  split at h
  · rename_i hq
    have hq : s.nx < lim := Nat.le_of_ble_eq_true hq
    rw [addK_eq] at h
    obtain rfl := Option.some.inj h
    have hag := R.name_agree s.nx w.heap.size 0
    have := rel_new (lo := lo) hR hlo hq o x 0 (hb.mono (Nat.le_succ _)) (hr.agree hag hb)
    exact ⟨rfl, R.name s.nx w.heap.size 0, by simp, this.1, this.2, rfl⟩
  · simp at h

include hE hR hF hlo in
theorem makeMap_ok {t : TypeId} {r : Option Operand} (h : makeMapX t r E lo f s = some (v, s')) : Res P (do pure (.value (← Instr.makeMap t (r.map a.eval)))) lo R s w v s' := by
  have fin : ∀ {sem : Sem Value}, newObjX s (.mp [] 0) (.map s.nx) = some (v, s') → sem.run P w = .ok (.map (some w.heap.size)) { w with heap := w.heap.push (.map #[] 0) } → Res P (do pure (.value (← sem))) lo R s w v s' := by
    intro sem h hs
    obtain ⟨h1, R', h2, h3, h4, h5⟩ := new_obj hR hlo h (.map #[] 0) (by simp [OBnd]) (by simp [ORel])
    simp only at h1 h3 h4 h5
    subst h1
    exact ⟨R', _, _, by simp [hs]; rfl, .inl (by simp [conc, h2]), h3, h4, by simp [Bnd, h5]⟩
  unfold makeMapX at h
  split at h
  · exact fin h (by simp [Instr.makeMap])
  · rename_i x
    split at h
    · rename_i hu
      split at h
      · rename_i hx
        refine fin h ?_
        simp [Instr.makeMap, run_und hE hu, (hF.ev hx).1, conc, asInt, asIntOf]
      · simp at h
    · simp at h

include hE hR hF hlo in
theorem makeSlice_ok {t : TypeId} {l c : Operand} (h : makeSliceX t l c E lo f s = some (v, s')) : Res P (do pure (.value (← Instr.makeSlice t (a.eval l) (a.eval c)))) lo R s w v s' := by
  unfold makeSliceX makeSliceV at h
  split at h
  · rename_i e hu
    split at h
    · rename_i n hl
      split at h
      · rename_i m hc
        unfold makeSliceE at h
        split at h
        · simp at h
        · rename_i esz hsz
          split at h
          · simp at h
          · rename_i bts hbt
            split at h
            · simp at h
            · rename_i z hz
              split at h
              · rename_i hcc
                simp only [Bool.and_eq_true] at hcc
                obtain ⟨⟨⟨c1, c2⟩, c3⟩, c4⟩ := hcc
                have c1 := Nat.le_of_ble_eq_true c1
                have c2 := Nat.le_of_ble_eq_true c2
                have c3 := Nat.le_of_ble_eq_true c3
                have c4 : (cellsA z).length = esz := Nat.eq_of_beq_eq_true c4
                have h1 := run_zero hE R hz
                obtain ⟨i, hi, hib⟩ := run_bytes hE (P := P) hbt
                have hb : BndL s.nx (zerosX (cellsA z) m) := BndL_iff.2 fun x hx => (BndL_iff.1 (cellsA_bnd h1.2) x (zerosX_mem hx)).mono (Nat.zero_le _)
                refine res_slice hR hlo h hb (by unfold big; omega) ?_
                have w1 : IntKind.i64.wrap (n : Int) = n := IntWalk.i64_in _ (by omega)
                have w2 : IntKind.i64.wrap (m : Int) = m := IntWalk.i64_in _ (by omega)
                have hbm : ((bts : Int) * (m : Int)) ≤ 16777216 := by
                  have : bts * m ≤ 16777216 := by rw [Nat.mul_comm]; exact c2
                  have h2 : ((bts * m : Nat) : Int) ≤ ((16777216 : Nat) : Int) := Int.ofNat_le.2 this
                  rw [Int.natCast_mul] at h2
                  exact h2
                by_cases h0 : m * esz = 0
                · have e0 : concL R (zerosX (cellsA z) m) = [] := by
                    apply List.eq_nil_of_length_eq_zero
                    rw [concL_length, zerosX_length, c4]; exact h0
                  simp only [Instr.makeSlice, Sem.run_bind, run_und hE hu, Result.andThen_ok, (hF.ev hl).1, (hF.ev hc).1, conc, asInt, asIntOf, Sem.run_pure, Int.ofNat_eq_natCast, hi, hib, w1, w2]
                  rw [if_neg (by simp; omega)]
                  simp [run_size hE hsz, h0, newRow, e0, show Array.range 0 = #[] from rfl]
                · have hz1 := zeros_ok (R := R) (cellsA z) m esz c4
                  simp at hz1
                  simp only [Instr.makeSlice, Sem.run_bind, run_und hE hu, Result.andThen_ok, (hF.ev hl).1, (hF.ev hc).1, conc, asInt, asIntOf, Sem.run_pure, Int.ofNat_eq_natCast, hi, hib, w1, w2]
                  rw [if_neg (by simp; omega)]
                  simp [run_size hE hsz, h0, newRow, h1.1, cells_conc, hz1]
              · simp at h
      · simp at h
    · simp at h
  · simp at h

include hE hR hF in
theorem fieldAddr_ok {t : TypeId} {x : Operand} {i : Nat} (h : fieldAddrX t x i E lo f s = some (v, s')) : Res P (do pure (.value (← Instr.fieldAt t (a.eval x) i))) lo R s w v s' := by
  unfold fieldAddrX fieldAddrD at h
  split at h
  · rename_i d hd
    split at h
    · rename_i fs
      split at h
      · rename_i b o hp
        unfold fieldAddrP at h
        split at h
        · rename_i off n hpl
          split at h
          · simp at h
          · rename_i k
            obtain ⟨rfl, rfl⟩ := Prod.mk.inj (Option.some.inj h)
            unfold placeX at hpl
            split at hpl
            · rename_i g hg
              split at hpl
              · rename_i m hm
                obtain ⟨rfl, rfl⟩ := Prod.mk.inj (Option.some.inj hpl)
                have h1 := hF.ev hp
                have hg' : fs[i]? = some g := by simpa using hg
                refine res_val hR ?_ (by simpa [Bnd] using h1.2)
                simp [Instr.fieldAt, run_und hE hd, hg', h1.1, conc, Instr.sureAddr, fieldPlace, run_size hE hm, Addr.add_mk]
              · simp at hpl
            · simp at hpl
        · simp at h
      · simp at h
    · simp at h
  · simp at h

include hE in
theorem partX_ok {t : TypeId} {l : List AV} {off : Nat} {r : AV} (h : partX E t l off = some r) : (part t ⟨concL R l⟩ off).run P w = .ok (conc R r) w ∧ (∀ n, BndL n l → Bnd n r) := by
  unfold partX at h
  split at h
  · rename_i ha
    split at h
    · rename_i n hn
      obtain ⟨m, hm, rfl⟩ := Option.map_eq_some_iff.1 h
      obtain ⟨h1, h2⟩ := takeN_ok hm
      refine ⟨?_, fun k hk => by simp only [Bnd]; exact BndL_iff.2 fun x hx => BndL_iff.1 hk x (List.mem_of_mem_drop (takeN_mem hm hx))⟩
      simp only [part, Sem.run_bind, run_agg hE ha, Result.andThen_ok, if_true, run_size hE hn]
      simp only [Sem.run_pure, conc]
      congr 2
      have hl : off + n ≤ l.length ∨ n = 0 := by
        rcases Nat.eq_zero_or_pos n with h0 | h0
        · exact .inr h0
        · have := h2 (n - 1) (by omega)
          rw [List.getElem?_eq_getElem (by omega)] at this
          have := (List.getElem?_eq_some_iff.1 this.symm).1
          simp at this
          left; omega
      apply Array.ext_getElem?
      intro j
      simp only [Array.getElem?_extract, List.size_toArray, concL_length, List.getElem?_toArray, concL_getElem?]
      by_cases hj : j < n
      · rw [h2 j hj, List.getElem?_drop]
        rcases hl with hl | hl
        · rw [if_pos (by rw [Nat.min_eq_left hl]; omega)]
        · omega
      · have hm0 : m[j]? = none := List.getElem?_eq_none (by omega)
        rw [hm0, if_neg (by omega)]
        rfl
    · simp at h
  · rename_i ha
    refine ⟨?_, fun k hk => BndL_get hk h⟩
    simp only [part, Sem.run_bind, run_agg hE ha, Result.andThen_ok]
    simp [h]
  · simp at h

include hE hR hF in
theorem field_ok {t : TypeId} {x : Operand} {i : Nat} (h : fieldX t x i E lo f s = some (v, s')) : Res P (do pure (.value (← Instr.field t (a.eval x) i))) lo R s w v s' := by
  unfold fieldX fieldD at h
  split at h
  · rename_i d hd
    split at h
    · rename_i fs
      split at h
      · rename_i l hp
        unfold fieldF at h
        split at h
        · rename_i g hg
          obtain ⟨h2, rfl⟩ := ret1_some h
          have h1 := hF.ev hp
          have hg' : fs[i]? = some g := by simpa using hg
          have h3 := partX_ok hE (P := P) (R := R) (w := w) h2
          refine res_val hR ?_ (h3.2 _ h1.2)
          simp [Instr.field, run_und hE hd, hg', h1.1, conc, asAgg, h3.1]
        · simp at h
      · simp at h
    · simp at h
  · simp at h

theorem indexX_ok {i : AV} {n k : Nat} (h : indexX i n = some k) : (∃ q, conc R i = .int q (k : Int)) ∧ k < n := by
  unfold indexX at h
  split at h
  · rename_i m hm
    split at h
    · rename_i hl
      obtain rfl := Option.some.inj h
      exact ⟨intOfX_ok hm, Nat.le_of_ble_eq_true hl⟩
    · simp at h
  · simp at h

include hE hR hF in
theorem indexAddr_ok {t : TypeId} {x i : Operand} (h : indexAddrX t x i E lo f s = some (v, s')) : Res P (do pure (.value (← Instr.indexAt t (a.eval x) (a.eval i)))) lo R s w v s' := by
  unfold indexAddrX at h
  split at h
  · simp at h
  · rename_i d hd
    split at h
    · simp at h
    · rename_i p hp
      split at h
      · simp at h
      · rename_i q hq
        have h1 := hF.ev hp
        have h2 := hF.ev hq
        unfold indexAddrD at h
        split at h
        · rename_i e
          split at h
          · rename_i b o n c
            unfold indexAt at h
            split at h
            · rename_i k hk
              split at h
              · rename_i esz hsz
                obtain ⟨rfl, rfl⟩ := Prod.mk.inj (Option.some.inj h)
                obtain ⟨⟨kk, hk1⟩, hk2⟩ := indexX_ok (R := R) hk
                refine res_val hR ?_ (by have := h1.2; simp only [Bnd] at this ⊢; exact this.1)
                simp [Instr.indexAt, h1.1, h2.1, hk1, asIntOf, run_und hE hd, conc, hk2, run_size hE hsz, Addr.add_mk]
              · simp at h
            · simp at h
          · simp at h
        · rename_i n e
          split at h
          · rename_i b o
            unfold indexAt at h
            split at h
            · rename_i k hk
              split at h
              · rename_i esz hsz
                obtain ⟨rfl, rfl⟩ := Prod.mk.inj (Option.some.inj h)
                obtain ⟨⟨kk, hk1⟩, hk2⟩ := indexX_ok (R := R) hk
                refine res_val hR ?_ (by have := h1.2; simpa only [Bnd] using this)
                simp [Instr.indexAt, Instr.sureAddr, h1.1, h2.1, hk1, asIntOf, run_und hE hd, conc, hk2, run_size hE hsz, Addr.add_mk]
              · simp at h
            · simp at h
          · simp at h
        · simp at h

include hE hR hF in
theorem index_ok {t : TypeId} {x i : Operand} (h : indexO t x i E lo f s = some (v, s')) : Res P (do pure (.value (← Instr.index t (a.eval x) (a.eval i)))) lo R s w v s' := by
  unfold indexO at h
  split at h
  · simp at h
  · rename_i d hd
    split at h
    · simp at h
    · rename_i p hp
      split at h
      · simp at h
      · rename_i q hq
        have h1 := hF.ev hp
        have h2 := hF.ev hq
        unfold indexD at h
        split at h
        · split at h
          · rename_i l
            unfold indexStr at h
            split at h
            · rename_i k hk
              obtain ⟨kk, hk1⟩ := intOfX_ok (R := R) hk
              unfold byteX at h
              split at h
              · rename_i b hb
                obtain ⟨rfl, rfl⟩ := Prod.mk.inj (Option.some.inj h)
                refine res_val hR ?_ (by simp [Bnd])
                have hb' : (⟨⟨l⟩⟩ : ByteArray)[k]? = some b := by
                  have hlt : k < l.length := (List.getElem?_eq_some_iff.1 hb).1
                  have : k < (⟨⟨l⟩⟩ : ByteArray).size := hlt
                  rw [getElem?_pos (⟨⟨l⟩⟩ : ByteArray) k this]
                  have := (List.getElem?_eq_some_iff.1 hb).2
                  exact congrArg some this
                simp [Instr.index, h1.1, h2.1, hk1, asIntOf, run_und hE hd, conc, hb']
              · simp at h
            · simp at h
          · simp at h
        · rename_i n e
          split at h
          · rename_i l
            unfold indexArr at h
            split at h
            · rename_i k hk
              split at h
              · rename_i esz hsz
                obtain ⟨h3, rfl⟩ := ret1_some h
                obtain ⟨⟨kk, hk1⟩, hk2⟩ := indexX_ok (R := R) hk
                have h4 := partX_ok hE (P := P) (R := R) (w := w) h3
                refine res_val hR ?_ (h4.2 _ h1.2)
                have h5 := h4.1
                simp [Instr.index, h1.1, h2.1, hk1, asIntOf, run_und hE hd, conc, hk2, run_size hE hsz]
                exact h5
              · simp at h
            · simp at h
          · simp at h
        · simp at h

include hR hF in
theorem extract_ok {x : Operand} {i : Nat} (h : extractX x i E lo f s = some (v, s')) : Res P (do pure (.value (← Instr.extract (a.eval x) i))) lo R s w v s' := by
  unfold extractX extractV at h
  split at h
  · rename_i l hp
    obtain ⟨h2, rfl⟩ := ret1_some h
    have h1 := hF.ev hp
    exact res_val hR (by simp [Instr.extract, h1.1, conc, h2]) (BndL_get h1.2 h2)
  · simp at h

include hE hR hF in
theorem assert_ok {x : Operand} {t u : TypeId} {ok : Bool} (h : assertX x t ok E lo f s = some (v, s')) : Res P (do pure (.value (← Instr.typeAssert (a.eval x) u t ok))) lo R s w v s' := by
  unfold assertX at h
  split at h
  · simp at h
  · rename_i d hd
    split at h
    · simp at h
    · rename_i hn
      have hno : ∀ ms, d ≠ .interface ms := by intro ms e; subst e; simp [notIface] at hn
      have fails : ∀ {y : Option AV}, assertN t ok E s = some (v, s') → y = y → (∀ q, a.eval x = q → (Instr.typeAssert q u t ok).run P w = (do pure (.tuple #[← zeroValue t, .bool false]) : Sem Value).run P w) → Res P (do pure (.value (← Instr.typeAssert (a.eval x) u t ok))) lo R s w v s' := by
        intro y h _ hq
        unfold assertN at h
        split at h
        · simp at h
        · split at h
          · rename_i z hz
            obtain ⟨rfl, rfl⟩ := Prod.mk.inj (Option.some.inj h)
            have h1 := run_zero hE R hz
            exact res_val hR (by rw [hq _ rfl]; simp [h1.1 w, conc, concL]) (by simp [Bnd, BndL, h1.2.mono (Nat.zero_le _)])
          · simp at h
      unfold assertV at h
      split at h
      · rename_i uu y hp
        have h1 := hF.ev hp
        split at h
        · rename_i he
          have he : uu = t := Nat.eq_of_beq_eq_true he
          subst he
          unfold okX at h
          split at h
          · obtain ⟨rfl, rfl⟩ := Prod.mk.inj (Option.some.inj h)
            refine res_val hR ?_ (by have := h1.2; simp only [Bnd] at this; simp [Bnd, BndL, this])
            simp only [Instr.typeAssert, Sem.run_bind, run_und hE hd, Result.andThen_ok, h1.1, conc]
            cases d <;> first | (simp [concL, conc]; done) | (exact absurd rfl (hno _))
          · obtain ⟨rfl, rfl⟩ := Prod.mk.inj (Option.some.inj h)
            refine res_val hR ?_ (by have := h1.2; simpa only [Bnd] using this)
            simp only [Instr.typeAssert, Sem.run_bind, run_und hE hd, Result.andThen_ok, h1.1, conc]
            cases d <;> first | (simp; done) | (exact absurd rfl (hno _))
        · rename_i he
          have he : uu ≠ t := fun e => by rw [e] at he; simp at he
          have hok : ok = true := by
            unfold assertN at h; cases ok <;> simp at h ⊢
          subst hok
          refine fails (y := none) h rfl fun q hq => ?_
          rw [h1.1] at hq
          subst hq
          simp only [Instr.typeAssert, Sem.run_bind, run_und hE hd, Result.andThen_ok, conc]
          cases d <;> first | (simp [he]; done) | (exact absurd rfl (hno _))
      · rename_i hp
        have h1 := hF.ev hp
        have hok : ok = true := by
          unfold assertN at h; cases ok <;> simp at h ⊢
        subst hok
        refine fails (y := none) h rfl fun q hq => ?_
        rw [h1.1] at hq
        subst hq
        simp only [Instr.typeAssert, Sem.run_bind, run_und hE hd, Result.andThen_ok, conc]
        cases d <;> first | (simp; done) | (exact absurd rfl (hno _))
      · simp at h

end
end Go.Vx
set_option linter.unusedSectionVars false
set_option linter.unusedSimpArgs false
set_option linter.unusedVariables false
namespace Go.Vx
open Go.RowKit

theorem bytesOf_ok {R : Ren} : ∀ {cs : List AV} {l : List UInt8}, bytesOf cs = some l → ∃ ns : List Int, concL R cs = ns.map (Value.int .u8) ∧ l = ns.map fun n => UInt8.ofNat n.toNat
  | [], l, h => by simp [bytesOf] at h; subst h; exact ⟨[], by simp [concL], rfl⟩
  | c :: cs, l, h => by
    unfold bytesOf at h
    split at h
    · rename_i he; simp at he
    · rename_i n r he
      obtain ⟨rfl, rfl⟩ := List.cons.inj he
      split at h
      · rename_i m hm
        obtain rfl := Option.some.inj h
        obtain ⟨ns, h1, rfl⟩ := bytesOf_ok (R := R) hm
        exact ⟨n :: ns, by simp [concL, conc, h1], rfl⟩
      · simp at h
    · simp at h

theorem foldl_push (ns : List Int) : ∀ (r : List UInt8), ns.foldl (fun (r : ByteArray) n => r.push (UInt8.ofNat n.toNat)) ⟨⟨r⟩⟩ = ⟨⟨r ++ ns.map fun n => UInt8.ofNat n.toNat⟩⟩ := by
  induction ns with
  | nil => intro r; simp
  | cons n ns ih =>
    intro r
    simp only [List.foldl_cons, List.map_cons]
    have : (⟨⟨r⟩⟩ : ByteArray).push (UInt8.ofNat n.toNat) = ⟨⟨r ++ [UInt8.ofNat n.toNat]⟩⟩ := by
      simp [ByteArray.push]
    rw [this, ih]
    simp

theorem run_bytes_string {P : Program} {R : Ren} {s : St} {w : World} (hR : Rel R s w) {b o n cap : Nat} {cs : List AV} {l : List UInt8} (hc : cellsX s b o n = some cs) (hl : bytesOf cs = some l) :
    (Conv.bytesToString (.slice (some ⟨R.blk b, o, none⟩) n cap)).run P w = .ok (.string ⟨⟨l⟩⟩) w := by
  obtain ⟨ns, h1, rfl⟩ := bytesOf_ok (R := R) hl
  rw [run_bytesToString w _ n cap ns (by rw [run_loadCells hR hc, h1])]
  have := foldl_push ns []
  rw [show ByteArray.empty = ⟨⟨[]⟩⟩ from rfl, this]
  simp

section
variable {E : Env} {P : Program} (hE : E.Ok P) {lo : Nat} {R : Ren} {s s' : St} {w : World} {f : Fr} {a : Act} {v : AV} (hR : Rel R s w) (hF : FrOk R s.nx f a) (hlo : lo ≤ s.nx)

theorem byteCells_conc (R : Ren) (l : List UInt8) : concL R (byteCells l) = l.map fun b => Value.int .u8 b.toNat := by
  simp [concL_map, byteCells, conc]

theorem byteCells_bnd (n : Nat) (l : List UInt8) : BndL n (byteCells l) := BndL_iff.2 fun v hv => by
  simp only [byteCells, List.mem_map] at hv
  obtain ⟨b, _, rfl⟩ := hv
  simp [Bnd]

/-- A new row that may have more room than is known. -/
theorem new_grown (hR : Rel R s w) (hlo : lo ≤ s.nx) {e esz n : Nat} {l : List AV} {v : AV} {s' : St} (h : appNew s e esz n l = some (v, s')) (hb : BndL s.nx l) (cap : Nat) (rest : List Value) (fz : Nat × Nat)
    (hc : l.length + rest.length = cap * esz) (hf : Free (l.length + rest.length) fz) (w0 : World) (hw0 : w0 = { w with drawn := w0.drawn }) :
    ∃ R', conc R' v = .slice (some ⟨w.heap.size, 0, none⟩) n cap ∧ Rel R' s' { w0 with heap := w.heap.push (.cells ⟨concL R l ++ rest⟩ e fz) } ∧
      Mv lo R s w R' s' { w0 with heap := w.heap.push (.cells ⟨concL R l ++ rest⟩ e fz) } ∧ Bnd s'.nx v := by
  unfold appNew at h
  split at h
  · rename_i hq
    have hq : s.nx < lim := Nat.le_of_ble_eq_true hq
    rw [listK_eq, addK_eq] at h
    obtain ⟨rfl, rfl⟩ := Prod.mk.inj (Option.some.inj h)
    have hag := R.name_agree s.nx w.heap.size cap
    have := rel_new (lo := lo) hR hlo hq (.row l e (.gr s.nx esz)) (.cells ⟨concL R l ++ rest⟩ e fz) cap ⟨hb.mono (Nat.le_succ _), Nat.lt_succ_self _⟩ (by
      simp only [ORel]
      refine ⟨trivial, fun i u hu => ?_, by simp [hc], by simp, by simpa using hf⟩
      have hi : i < l.length := (List.getElem?_eq_some_iff.1 hu).1
      rw [List.getElem?_toArray, List.getElem?_append_left (by simpa using hi), concL_getElem?, hu]
      simp [conc_agree hag (BndL_get hb hu)])
    have e1 : ({ w0 with heap := w.heap.push (.cells ⟨concL R l ++ rest⟩ e fz) } : World) = { ({ w with heap := w.heap.push (.cells ⟨concL R l ++ rest⟩ e fz) } : World) with drawn := w0.drawn } := by
      rw [hw0]
    refine ⟨R.name s.nx w.heap.size cap, ?_, ?_, ?_, ?_⟩
    · simp [conc, Ren.c]
      have : ¬ big + s.nx < big := by omega
      simp [this]
    · rw [e1]; exact this.1.drawn _
    · rw [e1]; exact this.2.trans (Mv.drawn _)
    · simp only [Bnd]
      show s.nx < s.nx + 1 ∧ (big + s.nx < big ∨ big + s.nx - big < s.nx + 1)
      omega
  · simp at h

theorem run_stringToBytes (w : World) (e : TypeId) (l : List UInt8) (cap : Nat) (hcap : cap = (Question.appendCap l.length 0 e).cut (w.tape w.drawn (Question.appendCap l.length 0 e))) (c : Array Value)
    (hc : (⟨⟨l⟩⟩ : ByteArray).data.map (fun b => Value.int .u8 b.toNat) ++ Array.replicate (cap - l.length) (Value.int .u8 0) = c) (hs : c.size = cap) :
    (Conv.stringToBytes e ⟨⟨l⟩⟩).run P w = .ok (.slice (some ⟨w.heap.size, 0, none⟩) l.length cap) { w with drawn := w.drawn + 1, heap := w.heap.push (.cells c e (cap, cap + 1)) } := by
  have h1 : (⟨⟨l⟩⟩ : ByteArray).size = l.length := rfl
  have h2 : (Question.appendCap l.length 0 e).forced = false := rfl
  simp only [Conv.stringToBytes, Sem.run_bind, h1, run_choose, h2, Bool.false_eq_true, if_false, Result.andThen_ok, ← hcap, hc, newRow, run_newObj, Sem.run_pure, markStringish, run_shape]
  have h3 : World.shape? { w with drawn := w.drawn + 1, heap := w.heap.push (.cells c e) } w.heap.size = some (e, c.size) := by simp [World.shape?]
  simp only [h3, run_freeze, Result.andThen_ok, hs]
  congr 1
  simp only [World.freeze]
  rw [if_neg (by simp)]
  congr 1
  apply Array.ext_getElem?
  intro j
  rw [Array.getElem?_modify]
  by_cases hj : w.heap.size = j
  · subst hj; simp
  · rw [if_neg hj, Array.getElem?_push, Array.getElem?_push, if_neg (by omega), if_neg (by omega)]

theorem row_shape (hR : Rel R s w) {b : Nat} {l : List AV} {e : TypeId} {k : RK} (hg : s.get b = some (.row l e k)) : ∃ e' n, w.shape? (R.blk b) = some (e', n) ∧ l.length ≤ n ∧ (writable k = true → e' = e) := by
  obtain ⟨x, hx, hr⟩ := hR.live b _ hg
  have key : ∃ c e' fz, x = .cells c e' fz ∧ l.length ≤ c.size ∧ (writable k = true → e' = e) := by
    cases k <;> cases x <;> simp only [ORel] at hr
    · exact ⟨_, _, _, rfl, by
        rcases Nat.lt_or_ge l.length 1 with h | h
        · omega
        · have hl : l.length - 1 < l.length := by omega
          have := hr.2 (l.length - 1) _ (List.getElem?_eq_getElem hl)
          have := (Array.getElem?_eq_some_iff.1 this).1
          omega, by simp [writable]⟩
    · exact ⟨_, _, _, rfl, by rw [hr.2.1]; simp, fun _ => hr.1.symm⟩
    · exact ⟨_, _, _, rfl, hr.2.2.2.1, fun _ => hr.1.symm⟩
  obtain ⟨c, e', fz, rfl, hc, he⟩ := key
  exact ⟨e', c.size, by simp [World.shape?, hx], hc, he⟩

theorem und_und (hE : E.Ok P) {t : TypeId} {d : TypeDesc} (h : E.und t = some d) : P.underlying t = some d := by
  unfold Env.und at h
  obtain ⟨x, hx, rfl⟩ := Option.map_eq_some_iff.1 h
  exact (hE.ty t x hx).2.1

theorem size_info (hE : E.Ok P) {t : TypeId} {n : Nat} (h : E.size t = some n) : ∃ j, P.info? t = some j ∧ j.size = n := by
  unfold Env.size at h
  obtain ⟨x, hx, rfl⟩ := Option.map_eq_some_iff.1 h
  exact ⟨x.i, (hE.ty t x hx).1, rfl⟩

theorem lies_head {e : TypeId} {count n : Nat} (hc : P.cellsOf e ≠ 0) (hn : n ≤ count) : liesAt P P.depth e count 0 e n = true := by
  have hd : P.depth = (2 * (P.types.size + Made.depth) + 1) + 1 := rfl
  rw [hd]
  simp only [liesAt, Bool.or_eq_true]
  left
  rw [hd]
  simp [rowAt, hc, hn, sameLayout]

theorem runesX_ok (R : Ren) (l : List UInt8) : ∀ n p acc, Conv.runesFrom ⟨⟨l⟩⟩ n p acc = acc ++ (⟨concL R (runesX l n p)⟩ : Array Value)
  | 0, p, acc => by simp [Conv.runesFrom, runesX, concL]
  | n + 1, p, acc => by
    have hs : (⟨⟨l⟩⟩ : ByteArray).size = l.length := rfl
    unfold Conv.runesFrom runesX
    rw [hs]
    by_cases h : p < l.length
    · have hb : Nat.ble (Nat.succ p) l.length = true := Nat.ble_eq_true_of_le h
      rw [if_pos h, hb]
      simp only [natK_eq, concL, conc]
      rw [runesX_ok R l n]
      apply Array.ext'
      simp [stringAt]
    · have hb : Nat.ble (Nat.succ p) l.length = false := by
        cases hh : Nat.ble (Nat.succ p) l.length
        · rfl
        · exact absurd (Nat.le_of_ble_eq_true hh) h
      rw [if_neg h, hb]
      simp [concL]

theorem runesX_bnd (n : Nat) (l : List UInt8) : ∀ m p, BndL n (runesX l m p)
  | 0, p => by simp [runesX, BndL]
  | m + 1, p => by
    unfold runesX
    split
    · simp only [natK_eq, BndL]
      exact ⟨by simp [Bnd], runesX_bnd n l m _⟩
    · simp [BndL]

theorem run_stringToRunes (w : World) (e : TypeId) (l : List UInt8) (m cap : Nat) (rs : Array Value) (hrs : Conv.runesFrom ⟨⟨l⟩⟩ l.length 0 #[] = rs) (hm : rs.size = m) (hcap : cap = (Question.appendCap m 0 e).cut (w.tape w.drawn (Question.appendCap m 0 e))) (c : Array Value)
    (hc : rs ++ Array.replicate (cap - m) (Value.int .i32 0) = c) :
    (Conv.stringToRunes e ⟨⟨l⟩⟩).run P w = .ok (.slice (some ⟨w.heap.size, 0, none⟩) m cap) { w with drawn := w.drawn + 1, heap := w.heap.push (.cells c e) } := by
  have h1 : (⟨⟨l⟩⟩ : ByteArray).size = l.length := rfl
  have h2 : (Question.appendCap m 0 e).forced = false := rfl
  simp only [Conv.stringToRunes, Sem.run_bind, h1, hrs, hm, run_choose, h2, Bool.false_eq_true, if_false, Result.andThen_ok, ← hcap, hc, newRow, run_newObj, Sem.run_pure]

include hE hR hF hlo in
theorem conv_ok {t u : TypeId} {x : Operand} (h : convX t u x E lo f s = some (v, s')) : Res P (do pure (.value (← convert t u (a.eval x)))) lo R s w v s' := by
  unfold convX at h
  split at h
  · simp at h
  · rename_i d hd
    split at h
    · simp at h
    · rename_i d' hd'
      split at h
      · simp at h
      · rename_i p hp
        have h1 := hF.ev hp
        have hc : (convert t u (a.eval x)).run P w = (convert t u (conc R p)).run P w := by rw [h1.1]
        unfold convD at h
        split at h
        · -- to unsafe.Pointer
          unfold convUp at h
          split at h
          · rename_i e
            split at h
            · obtain ⟨rfl, rfl⟩ := Prod.mk.inj (Option.some.inj h)
              refine res_val hR ?_ (by simp [Bnd])
              rw [hc]
              simp [convert, Conv.unsafePointer, run_und hE hd, run_und hE hd', conc]
            · rename_i b o
              split at h
              · rename_i n hn
                split at h
                · rename_i l e' k hg
                  split at h
                  · rename_i ho
                    have ho : o < l.length := Nat.le_of_ble_eq_true ho
                    obtain ⟨rfl, rfl⟩ := Prod.mk.inj (Option.some.inj h)
                    obtain ⟨e2, m, hsh, hm, _⟩ := row_shape hR hg
                    obtain ⟨j, hj, hjs⟩ := size_info hE hn
                    refine res_val hR ?_ h1.2
                    rw [hc]
                    have := Lib.run_to_unsafe (P := P) w ⟨R.blk b, o, none⟩ (und_und hE hd) (und_und hE hd') hj (by omega) hsh (show o < m by omega)
                    simp [conc, this]
                  · simp at h
                · simp at h
              · simp at h
            · simp at h
          · simp at h
        · -- from unsafe.Pointer
          rename_i u'
          unfold convUn at h
          split at h
          · split at h
            · obtain ⟨rfl, rfl⟩ := Prod.mk.inj (Option.some.inj h)
              refine res_val hR ?_ (by simp [Bnd])
              rw [hc]
              simp [convert, Conv.unsafePointer, run_und hE hd, run_und hE hd', conc]
            · rename_i b
              split at h
              · rename_i n hn
                split at h
                · rename_i l e' k hg
                  split at h
                  · rename_i ho
                    simp only [Bool.and_eq_true] at ho
                    have e1 : e' = u' := Nat.eq_of_beq_eq_true ho.1.1
                    have e2 := Nat.le_of_ble_eq_true ho.1.2
                    subst e1
                    obtain ⟨rfl, rfl⟩ := Prod.mk.inj (Option.some.inj h)
                    obtain ⟨e3, m, hsh, hm, he3⟩ := row_shape hR hg
                    rw [he3 ho.2] at hsh
                    obtain ⟨j, hj, hjs⟩ := size_info hE hn
                    have hcell : P.cellsOf e' = n + 1 := by simp [Program.cellsOf, hj, hjs]
                    refine res_val hR ?_ h1.2
                    rw [hc]
                    have := Lib.run_from_unsafe (P := P) w ⟨R.blk b, 0, none⟩ (und_und hE hd) (und_und hE hd') hj hsh (lies_head (by omega) (by
                      rw [hcell]
                      exact (Nat.le_div_iff_mul_le (by omega)).2 (by omega)))
                    simp [conc, this]
                  · simp at h
                · simp at h
              · simp at h
            · simp at h
          · simp at h
        · rename_i k
          unfold convInt at h
          split at h
          · obtain ⟨rfl, rfl⟩ := Prod.mk.inj (Option.some.inj h)
            refine res_val hR ?_ (by simp [Bnd])
            rw [hc]
            simp [convert, run_und hE hd, run_und hE hd', conc, Conv.intToInt, wrapF_eq]
          · simp at h
        · rename_i k
          unfold convFlt at h
          split at h
          · obtain ⟨h2, rfl⟩ := ret1_some h
            have h3 := runV_ok (P := P) R h2
            refine res_val hR ?_ (h3.2.mono (Nat.zero_le _))
            rw [hc]
            simp [convert, run_und hE hd, run_und hE hd', conc, h3.1]
          · obtain ⟨h2, rfl⟩ := ret1_some h
            have h3 := runV_ok (P := P) R h2
            refine res_val hR ?_ (h3.2.mono (Nat.zero_le _))
            rw [hc]
            simp [convert, run_und hE hd, run_und hE hd', conc, h3.1]
          · simp at h
        · unfold convStr at h
          split at h
          · obtain ⟨h2, rfl⟩ := ret1_some h
            have h3 := runV_ok (P := P) R h2
            refine res_val hR ?_ (h3.2.mono (Nat.zero_le _))
            rw [hc]
            simp [convert, run_und hE hd, run_und hE hd', conc, h3.1]
          · obtain ⟨rfl, rfl⟩ := Prod.mk.inj (Option.some.inj h)
            refine res_val hR ?_ (by simp [Bnd])
            rw [hc]
            simp [convert, run_und hE hd, run_und hE hd', conc]
          · split at h
            · rename_i e
              split at h
              · rename_i he
                unfold convBytes at h
                split at h
                · obtain ⟨rfl, rfl⟩ := Prod.mk.inj (Option.some.inj h)
                  refine res_val hR ?_ (by simp [Bnd])
                  rw [hc]
                  simp [convert, run_und hE hd, run_und hE hd', run_und hE he, conc, Conv.bytesToString, ByteArray.empty, ByteArray.emptyWithCapacity]
                  rfl
                · rename_i b o l c
                  split at h
                  · rename_i cs hcs
                    cases hb : bytesOf cs with
                    | none => simp [hb, strOf] at h
                    | some m =>
                      simp only [hb, strOf, Option.some.injEq, Prod.mk.injEq] at h
                      obtain ⟨rfl, rfl⟩ := h
                      refine res_val hR ?_ (by simp [Bnd])
                      rw [hc]
                      simp [convert, run_und hE hd, run_und hE hd', run_und hE he, conc, run_bytes_string hR hcs hb]
                  · simp at h
                · simp at h
              · simp at h
            · simp at h
        · rename_i e
          unfold convSl at h
          split at h
          · rename_i l
            split at h
            · rename_i he
              let q := Question.appendCap l.length 0 e
              let cap := q.cut (w.tape w.drawn q)
              have hcap : l.length ≤ cap := by simp only [cap, q, Question.cut]; omega
              obtain ⟨R', g1, g2, g3, g4⟩ := new_grown hR hlo h (byteCells_bnd _ l) cap (List.replicate (cap - l.length) (.int .u8 0)) (cap, cap + 1)
                (by simp [byteCells]; omega) (by intro i hi; simp [byteCells] at hi; omega) { w with drawn := w.drawn + 1 } rfl
              refine ⟨R', _, _, ?_, .inl rfl, g2, g3, g4⟩
              rw [g1, h1.1]
              have hsz : (⟨concL R (byteCells l) ++ List.replicate (cap - l.length) (.int .u8 0)⟩ : Array Value).size = cap := by simp [byteCells]; omega
              have hcells : (⟨⟨l⟩⟩ : ByteArray).data.map (fun b => Value.int .u8 b.toNat) ++ Array.replicate (cap - l.length) (Value.int .u8 0) = ⟨concL R (byteCells l) ++ List.replicate (cap - l.length) (.int .u8 0)⟩ := by
                rw [byteCells_conc]
                apply Array.ext'
                simp
              have hst := run_stringToBytes (P := P) w e l cap rfl _ hcells hsz
              simp only [convert, Sem.run_bind, run_und hE hd, run_und hE hd', run_und hE he, conc, Result.andThen_ok, hst, Sem.run_pure]
            · rename_i he
              unfold runeNew at h
              let m := (runesX l l.length 0).length
              let q := Question.appendCap m 0 e
              let cap := q.cut (w.tape w.drawn q)
              have hcap : m ≤ cap := by simp only [cap, q, Question.cut]; omega
              obtain ⟨R', g1, g2, g3, g4⟩ := new_grown hR hlo h (runesX_bnd _ l _ _) cap (List.replicate (cap - m) (.int .i32 0)) (0, 0)
                (by simp [m] at hcap ⊢; omega) (by intro i hi; simp) { w with drawn := w.drawn + 1 } rfl
              refine ⟨R', _, _, ?_, .inl rfl, g2, g3, g4⟩
              rw [g1, h1.1]
              have hrs := runesX_ok R l l.length 0 #[]
              rw [Array.empty_append] at hrs
              have hst := run_stringToRunes (P := P) w e l m cap _ hrs (by simp [m]) rfl ⟨concL R (runesX l l.length 0) ++ List.replicate (cap - m) (.int .i32 0)⟩ (by apply Array.ext'; simp)
              simp only [convert, Sem.run_bind, run_und hE hd, run_und hE hd', run_und hE he, conc, Result.andThen_ok, hst, Sem.run_pure]
              rfl
            · simp at h
          · simp at h
        · simp at h

end
end Go.Vx
set_option linter.unusedSectionVars false
set_option linter.unusedSimpArgs false
set_option linter.unusedVariables false
namespace Go.Vx
open Go.RowKit

theorem boundX_ok {P : Program} {R : Ren} {y d n : Nat} {x : Option AV} (h : boundX y d x = some n) (hd : d ≤ y) :
    n ≤ y ∧ (∀ v, x = some v → ∀ (code : BoundsCode) (w : World), (Instr.sliceBound (conc R v) y code).run P w = .ok n w) ∧ (x = none → n = d) := by
  unfold boundX at h
  split at h
  · obtain rfl := Option.some.inj h
    exact ⟨hd, by simp, fun _ => rfl⟩
  · rename_i v
    split at h
    · rename_i m hm
      split at h
      · rename_i hl
        have hl := Nat.le_of_ble_eq_true hl
        obtain rfl := Option.some.inj h
        obtain ⟨k, hk⟩ := intOfX_ok (R := R) hm
        refine ⟨hl, fun u hu code w => ?_, by simp⟩
        obtain rfl := Option.some.inj hu
        simp [Instr.sliceBound, hk, asIntOf, hl]
      · simp at h
    · simp at h

theorem isZeroV_ok {P : Program} {R : Ren} {x : Option AV} (h : isZeroV x = true) : ∀ v, x = some v → ∀ (y : Nat) (code : BoundsCode) (w : World), (Instr.sliceBound (conc R v) y code).run P w = .ok 0 w := by
  intro v hv y code w
  subst hv
  unfold isZeroV at h
  split at h
  · rename_i hh; simp at hh
  · rename_i k hh
    obtain rfl := Option.some.inj hh
    simp [Instr.sliceBound, conc, asIntOf]
  · simp at h

theorem optX_ok {R : Ren} {nx : Nat} {f : Fr} {a : Act} (hF : FrOk R nx f a) {x : Option Operand} {l : Option AV} (h : optX x f = some l) : x.map a.eval = l.map (conc R) := by
  unfold optX at h
  split at h
  · obtain rfl := Option.some.inj h; rfl
  · split at h
    · rename_i v hv
      obtain rfl := Option.some.inj h
      simp [(hF.ev hv).1]
    · simp at h

/-- The bounds of a slice expression, as they were told. -/
theorem bounds_ok {P : Program} {R : Ren} {len cap m h' l' : Nat} {lo hi mx : Option AV} (isS : Bool) (w : World) (hm : boundX cap cap mx = some m) (hn : (hi.isNone && mx.isSome) = false)
    (hh : boundX m len hi = some h') (hlen : len ≤ cap) (hl : boundX h' 0 lo = some l') :
    (Instr.sliceBounds isS len cap (lo.map (conc R)) (hi.map (conc R)) (mx.map (conc R))).run P w = .ok (l', h', m) w := by
  have h1 := boundX_ok (P := P) (R := R) hm (Nat.le_refl _)
  have h3 := boundX_ok (P := P) (R := R) hl (Nat.zero_le _)
  cases mx with
  | none =>
    have em := h1.2.2 rfl
    subst em
    have h2 := boundX_ok (P := P) (R := R) hh hlen
    cases hi with
    | none =>
      have eh := h2.2.2 rfl
      subst eh
      cases lo with
      | none => have el := h3.2.2 rfl; subst el; simp [Instr.sliceBounds]
      | some lo => simp [Instr.sliceBounds, h3.2.1 lo rfl]
    | some hi =>
      cases lo with
      | none => have el := h3.2.2 rfl; subst el; simp [Instr.sliceBounds, h2.2.1 hi rfl]
      | some lo => simp [Instr.sliceBounds, h2.2.1 hi rfl, h3.2.1 lo rfl]
  | some mx =>
    cases hi with
    | none => simp at hn
    | some hi =>
      have h2 : ∀ code w, (Instr.sliceBound (conc R hi) m code).run P w = .ok h' w := by
        intro code w
        unfold boundX at hh
        simp only at hh
        split at hh
        · rename_i q hq
          split at hh
          · rename_i hle
            have hle := Nat.le_of_ble_eq_true hle
            obtain rfl := Option.some.inj hh
            obtain ⟨k, hk⟩ := intOfX_ok (R := R) hq
            simp [Instr.sliceBound, hk, asIntOf, hle]
          · simp at hh
        · simp at hh
      cases lo with
      | none => have el := h3.2.2 rfl; subst el; simp [Instr.sliceBounds, h1.2.1 mx rfl, h2]
      | some lo => simp [Instr.sliceBounds, h1.2.1 mx rfl, h2, h3.2.1 lo rfl]

section
variable {E : Env} {P : Program} (hE : E.Ok P) {lo : Nat} {R : Ren} {s s' : St} {w : World} {f : Fr} {a : Act} {v : AV} (hR : Rel R s w) (hF : FrOk R s.nx f a) (hlo : lo ≤ s.nx)

theorem sliceL_ok {esz b o len cap : Nat} {l h m : Option AV} {v : AV} (hs : sliceL esz b o len cap l h m = some v) (hlen : len ≤ cap) (hcap : cap < big) (isS : Bool) (w : World) :
    ∃ l' h' m', (Instr.sliceBounds isS len cap (l.map (conc R)) (h.map (conc R)) (m.map (conc R))).run P w = .ok (l', h', m') w ∧
      conc R v = .slice (some (if m' = l' then (⟨R.blk b, o, none⟩ : Addr) else (⟨R.blk b, o, none⟩ : Addr).add (l' * esz))) (h' - l') (m' - l') ∧ (∀ n, b < n → Bnd n v) := by
  unfold sliceL at hs
  split at hs
  · simp at hs
  · rename_i m' hm
    split at hs
    · simp at hs
    · rename_i hn
      split at hs
      · simp at hs
      · rename_i h' hh
        split at hs
        · simp at hs
        · rename_i l' hl
          have h1 := bounds_ok (P := P) (R := R) isS w hm hn hh hlen hl
          have hmc := (boundX_ok (P := P) (R := R) hm (Nat.le_refl _)).1
          have hlt : m' - l' < big := by omega
          refine ⟨l', h', m', h1, ?_⟩
          split at hs
          · rename_i he
            have he : m' = l' := Nat.eq_of_beq_eq_true he
            obtain rfl := Option.some.inj hs
            have hlt' : Nat.sub m' l' < big := hlt
            refine ⟨by simp [conc, he, Ren.c]; simp [big], fun n hb => ⟨hb, .inl hlt'⟩⟩
          · rename_i he
            have he : m' ≠ l' := fun e => by rw [e] at he; simp at he
            obtain rfl := Option.some.inj hs
            have hlt' : Nat.sub m' l' < big := hlt
            refine ⟨?_, fun n hb => ⟨hb, .inl hlt'⟩⟩
            simp only [conc, he, if_false, Addr.add_mk, Ren.c]
            rw [if_pos hlt']
            rfl

/-- A name more that stands for no block. -/
theorem rel_bare {lo : Nat} {R : Ren} {s : St} {w : World} (h : Rel R s w) (hn : s.nx < lim) (b c : Nat) :
    Rel (R.name s.nx b c) { H := s.H, nx := s.nx + 1 } w ∧ Mv lo R s w (R.name s.nx b c) { H := s.H, nx := s.nx + 1 } w := by
  have hag := R.name_agree s.nx b c
  have hget : ∀ n, St.get { H := s.H, nx := s.nx + 1 } n = s.get n := fun n => rfl
  have hold : ∀ m o', s.get m = some o' → (R.name s.nx b c).blk m = R.blk m := fun m o' hm => hag.blk m (h.bnd m o' hm).1
  have off : ∀ m, m < s.nx ∨ s.nx + 1 ≤ m → m ≠ s.nx := fun m hm => by omega
  refine ⟨⟨fun n o hg => ?_, fun n m o o' h1 h2 he => ?_, fun n o hg => ?_, hn⟩, ⟨fun m hm => ?_, fun m hm => ?_, rfl, Nat.le_succ _, fun _ _ => rfl, rfl, rfl, rfl, Nat.le_refl _, fun _ _ _ => rfl, fun n o h1 h2 _ => ⟨n, o, h1, h2, (hold n o h2).symm⟩⟩⟩
  · rw [hget] at hg
    obtain ⟨x, hx, hr⟩ := h.live n o hg
    exact ⟨x, by rw [hold n o hg]; exact hx, hr.agree hag (h.bnd n o hg).2⟩
  · rw [hget] at h1 h2
    rw [hold n o h1, hold m o' h2] at he
    exact h.inj n m o o' h1 h2 he
  · rw [hget] at hg
    have := h.bnd n o hg
    exact ⟨Nat.lt_succ_of_lt this.1, this.2.mono (Nat.le_succ _)⟩
  · have := off m hm
    simp [Ren.name, this]
  · have := off m hm
    simp [Ren.name, this]

include hR in
theorem sliceW_ok {esz b n k c : Nat} {l h m : Option AV} {v : AV} {s' : St} (hs : sliceW s esz b k c l m = some (v, s')) (hk : upTo n h = some k) {o : Nat} (hg : growOk s b esz c o k = true) (w' : World) :
    ∃ l' m' R', (Instr.sliceBounds true n (R.c c) (l.map (conc R)) (h.map (conc R)) (m.map (conc R))).run P w' = .ok (l', k, m') w' ∧ o = 0 ∧
      conc R' v = .slice (some (if m' = l' then ⟨R.blk b, 0, none⟩ else ⟨R.blk b, l' * esz, none⟩)) (k - l') (m' - l') ∧ Rel R' s' w ∧ Mv lo R s w R' s' w ∧ ((b < s.nx ∧ (c < big ∨ c - big < s.nx)) → Bnd s'.nx v) := by
  unfold growOk at hg
  split at hg
  · rename_i r e cc esz' hgb
    simp only [Bool.and_eq_true] at hg
    obtain ⟨⟨⟨⟨g1, g2⟩, g3⟩, g4⟩, g5⟩ := hg
    have g1 : esz' = esz := Nat.eq_of_beq_eq_true g1
    have g2 := Nat.le_of_ble_eq_true g2
    have g3 : c = big + cc := Nat.eq_of_beq_eq_true g3
    have g4 : o = 0 := Nat.eq_of_beq_eq_true g4
    have g5 := Nat.le_of_ble_eq_true g5
    subst g1 g3 g4
    obtain ⟨x, hx, hr⟩ := hR.live b _ hgb
    have hcc : R.c (big + cc) = R.cap cc := by
      have q1 : ¬ big + cc < big := by omega
      have q2 : big + cc - big = cc := by omega
      simp only [Ren.c]
      rw [if_neg q1, q2]
    have hle : k ≤ R.cap cc := by
      cases x <;> simp only [ORel] at hr
      have h1 := hr.2.2.1
      have h2 := hr.2.2.2.1
      exact Nat.le_of_mul_le_mul_right (by omega : k * esz' ≤ R.cap cc * esz') (by omega)
    have hb : ∀ q, h = some q → (Instr.sliceBound (conc R q) (R.cap cc) .sliceAcap).run P w' = .ok k w' := by
      intro q hq
      subst hq
      have hk : intOfX q = some k := hk
      obtain ⟨j, hj⟩ := intOfX_ok (R := R) hk
      simp [Instr.sliceBound, hj, asIntOf, hle]
    have hn : h = none → n = k := by
      intro e
      subst e
      exact Option.some.inj hk
    unfold sliceW at hs
    split at hs
    · rename_i hz
      simp only [Bool.and_eq_true] at hz
      obtain ⟨hz1, hz2⟩ := hz
      have em : m = none := by simpa using hz2
      subst em
      obtain ⟨rfl, rfl⟩ := Prod.mk.inj (Option.some.inj hs)
      refine ⟨0, R.cap cc, R, ?_, rfl, by simp [conc, hcc], hR, Mv.refl _ _ _ _, fun hb => by simpa only [Bnd] using hb⟩
      rw [hcc]
      cases h with
      | none =>
        have := hn rfl
        subst this
        cases l with
        | none => simp [Instr.sliceBounds]
        | some l => simp [Instr.sliceBounds, isZeroV_ok hz1 l rfl]
      | some h =>
        cases l with
        | none => simp [Instr.sliceBounds, hb h rfl]
        | some l => simp [Instr.sliceBounds, hb h rfl, isZeroV_ok hz1 l rfl]
    · split at hs
      · split at hs
        · rename_i j hj
          unfold sliceR at hs
          split at hs
          · rename_i hq
            simp only [Bool.and_eq_true] at hq
            have q1 : s.nx < lim := Nat.le_of_ble_eq_true hq.1
            have q2 : j < k := Nat.le_of_ble_eq_true hq.2
            have h3 := boundX_ok (P := P) (R := R) hj (Nat.zero_le _)
            obtain ⟨H, nx⟩ := s
            obtain ⟨rfl, rfl⟩ := Prod.mk.inj (Option.some.inj hs)
            have hbr := rel_bare (lo := lo) hR q1 0 (R.cap cc - j)
            refine ⟨j, R.cap cc, R.name nx 0 (R.cap cc - j), ?_, rfl, ?_, hbr.1, hbr.2, fun hb => ?_⟩
            · rw [hcc]
              cases h with
              | none =>
                have := hn rfl
                subst this
                cases l with
                | none =>
                  have := h3.2.2 rfl
                  subst this
                  simp [Instr.sliceBounds]
                | some l => simp [Instr.sliceBounds, h3.2.1 l rfl]
              | some h =>
                cases l with
                | none =>
                  have := h3.2.2 rfl
                  subst this
                  simp [Instr.sliceBounds, hb h rfl]
                | some l => simp [Instr.sliceBounds, hb h rfl, h3.2.1 l rfl]
            · have hbb := (hR.bnd b _ hgb).1
              have hne : ¬ R.cap cc = j := by omega
              have e1 : (R.name nx 0 (R.cap cc - j)).blk b = R.blk b := (R.name_agree nx 0 (R.cap cc - j)).blk b hbb
              have e2 : (R.name nx 0 (R.cap cc - j)).c (Nat.add big nx) = R.cap cc - j := by
                have t1 : ¬ Nat.add big nx < big := by show ¬ big + nx < big; omega
                have t2 : Nat.add big nx - big = nx := by show big + nx - big = nx; omega
                simp only [Ren.c]
                rw [if_neg t1, t2]
                simp [Ren.name]
              simp only [conc, e1, e2, if_neg hne]
              rfl
            · simp only [Bnd]
              have t1 : Nat.add big nx - big = nx := by show big + nx - big = nx; omega
              refine ⟨?_, .inr ?_⟩
              · have h1 : b < nx := hb.1
                show b < nx + 1
                omega
              · rw [t1]; exact Nat.lt_succ_self _
          · simp at hs
        · simp at hs
      · simp at hs
  · simp at hg

theorem bytes_extract (l : List UInt8) (i j : Nat) : (⟨⟨l⟩⟩ : ByteArray).extract i j = ⟨⟨(l.drop i).take (j - i)⟩⟩ := by
  apply ByteArray.ext
  rw [ByteArray.data_extract]
  apply Array.ext'
  simp [List.extract]

include hE hR hF in
theorem slice_ok {t : TypeId} {x : Operand} {l h m : Option Operand} (hh : sliceO t x l h m E lo f s = some (v, s')) :
    Res P (do pure (.value (← Instr.sliceAt t (a.eval x) (l.map a.eval) (h.map a.eval) (m.map a.eval)))) lo R s w v s' := by
  unfold sliceO at hh
  split at hh
  · simp at hh
  · rename_i l' hl
    split at hh
    · simp at hh
    · rename_i h' hhi
      split at hh
      · simp at hh
      · rename_i m' hm
        split at hh
        · simp at hh
        · rename_i d hd
          split at hh
          · simp at hh
          · rename_i p hp
            have h1 := hF.ev hp
            rw [optX_ok hF hl, optX_ok hF hhi, optX_ok hF hm]
            unfold sliceD at hh
            split at hh
            · unfold sliceSt at hh
              split at hh
              · rename_i b
                split at hh
                · obtain ⟨h2, rfl⟩ := ret1_some hh
                  unfold sliceS at h2
                  split at h2
                  · simp at h2
                  · rename_i q hq
                    split at h2
                    · simp at h2
                    · rename_i hqb
                      have hqb := Nat.le_of_ble_eq_true hqb
                      split at h2
                      · simp at h2
                      · rename_i r hr
                        split at h2
                        · simp at h2
                        · rename_i hrb
                          have hrb := Nat.le_of_ble_eq_true hrb
                          obtain rfl := Option.some.inj h2
                          have e1 : (⟨⟨b⟩⟩ : ByteArray).size = b.length := rfl
                          have hx1 : ∀ z, h' = some z → ∀ (y : Nat) (code : BoundsCode), q ≤ y → (Instr.sliceBound (conc R z) y code).run P w = .ok q w := by
                            intro z hz y code hy
                            subst hz
                            obtain ⟨k, hk⟩ := intOfX_ok (R := R) hq
                            simp [Instr.sliceBound, hk, asIntOf, hy]
                          have hx2 : ∀ z, l' = some z → ∀ (y : Nat) (code : BoundsCode), r ≤ y → (Instr.sliceBound (conc R z) y code).run P w = .ok r w := by
                            intro z hz y code hy
                            subst hz
                            obtain ⟨k, hk⟩ := intOfX_ok (R := R) hr
                            simp [Instr.sliceBound, hk, asIntOf, hy]
                          refine res_val hR ?_ (by simp [Bnd])
                          simp only [Instr.sliceAt, Instr.slice, Sem.run_bind, run_und hE hd, Result.andThen_ok, h1.1, conc, e1]
                          cases h' with
                          | none =>
                            obtain rfl := Option.some.inj hq
                            cases l' with
                            | none =>
                              obtain rfl := Option.some.inj hr
                              simp [Instr.sliceBounds, bytes_extract]
                            | some z => simp [Instr.sliceBounds, bytes_extract, hx2 z rfl _ _ hrb]
                          | some y =>
                            cases l' with
                            | none =>
                              obtain rfl := Option.some.inj hr
                              simp [Instr.sliceBounds, bytes_extract, hx1 y rfl _ _ hqb]
                            | some z => simp [Instr.sliceBounds, bytes_extract, hx1 y rfl _ _ hqb, hx2 z rfl _ _ hrb]
                · simp at hh
              · simp at hh
            · rename_i e
              unfold sliceSl at hh
              split at hh
              · split at hh
                · simp at hh
                · rename_i esz hsz
                  split at hh
                  · rename_i hz
                    simp only [Bool.and_eq_true] at hz
                    obtain ⟨⟨z1, z2⟩, z3⟩ := hz
                    have em : m' = none := by simpa using z3
                    subst em
                    obtain ⟨rfl, rfl⟩ := Prod.mk.inj (Option.some.inj hh)
                    refine res_val hR ?_ (by simp [Bnd])
                    simp only [Instr.sliceAt, Instr.slice, Sem.run_bind, run_und hE hd, Result.andThen_ok, h1.1, conc]
                    cases h' with
                    | none =>
                      cases l' with
                      | none => simp [Instr.sliceBounds, run_size hE hsz]
                      | some y => simp [Instr.sliceBounds, run_size hE hsz, isZeroV_ok z1 y rfl]
                    | some z =>
                      cases l' with
                      | none => simp [Instr.sliceBounds, run_size hE hsz, isZeroV_ok z2 z rfl]
                      | some y => simp [Instr.sliceBounds, run_size hE hsz, isZeroV_ok z1 y rfl, isZeroV_ok z2 z rfl]
                  · simp at hh
              · rename_i b o n c
                split at hh
                · simp at hh
                · rename_i esz hsz
                  split at hh
                  · rename_i hc
                    have hc : c < big := Nat.le_of_ble_eq_true hc
                    split at hh
                    · rename_i hnc
                      have hnc := Nat.le_of_ble_eq_true hnc
                      obtain ⟨h2, rfl⟩ := ret1_some hh
                      obtain ⟨l2, h3, m2, g1, g2, g3⟩ := sliceL_ok (P := P) (R := R) h2 hnc hc true w
                      refine res_val hR ?_ (g3 _ (by have := h1.2; simp only [Bnd] at this; exact this.1))
                      have hcc : R.c c = c := by simp [Ren.c, hc]
                      simp only [Instr.sliceAt, Instr.slice, Sem.run_bind, run_und hE hd, Result.andThen_ok, h1.1, conc, hcc, g1, run_size hE hsz, g2]
                      by_cases he : m2 = l2 <;> simp [he]
                    · simp at hh
                  · split at hh
                    · simp at hh
                    · rename_i k hk
                      split at hh
                      · rename_i hg
                        obtain ⟨l2, m2, R', g1, g3, g2, g4, g5, g6⟩ := sliceW_ok (lo := lo) hR (P := P) hh hk hg w
                        subst g3
                        refine ⟨R', _, w, ?_, .inl rfl, g4, g5, g6 h1.2⟩
                        simp only [Instr.sliceAt, Instr.slice, Sem.run_bind, run_und hE hd, Result.andThen_ok, h1.1, conc, g1, run_size hE hsz, g2]
                        by_cases he : m2 = l2 <;> simp [he, Addr.add_mk]
                      · simp at hh
              · simp at hh
            · rename_i n e
              unfold sliceAr at hh
              split at hh
              · rename_i b o
                split at hh
                · rename_i esz hsz
                  split at hh
                  · rename_i hc
                    have hc : n < big := Nat.le_of_ble_eq_true hc
                    obtain ⟨h2, rfl⟩ := ret1_some hh
                    obtain ⟨l2, h3, m2, g1, g2, g3⟩ := sliceL_ok (P := P) (R := R) h2 (Nat.le_refl _) hc false w
                    refine res_val hR ?_ (g3 _ (by have := h1.2; simpa only [Bnd] using this))
                    simp only [Instr.sliceAt, Instr.sureAddr, Sem.run_bind, run_und hE hd, Result.andThen_ok, h1.1, conc, g1, run_size hE hsz, g2]
                    simp [g1, run_size hE hsz, g2]
                  · simp at hh
                · simp at hh
              · simp at hh
            · simp at hh

end
end Go.Vx
set_option linter.unusedSectionVars false
set_option linter.unusedSimpArgs false
set_option linter.unusedVariables false
namespace Go.Vx
open Go.RowKit

/-- A value of a scalar kind. -/
def skV : SK → AV → Prop
  | .s, .str _ => True
  | .i, .int _ _ => True
  | .b, .bool _ => True
  | _, _ => False

theorem scalarEq_form {k : SK} {a b : AV} {r : Bool} (h : scalarEq k a b = some r) : skV k a := by
  unfold scalarEq at h
  split at h <;> first | trivial | (simp at h)

theorem scalarEq_true {k : SK} {a b : AV} (h : scalarEq k a b = some true) : a = b := by
  unfold scalarEq at h
  split at h
  · split at h
    · rename_i hk
      obtain rfl := kindEq_eq.1 hk
      rw [Option.some.injEq, eqI_eq] at h
      rw [eq_of_beq h]
    · simp at h
  · rw [Option.some.injEq, eqS_eq] at h
    rw [eq_of_beq h]
  · rename_i p q
    cases p <;> cases q <;> simp at h <;> rfl
  · simp at h

/-- A key of a kind. -/
def keyV : KD → AV → Prop
  | .one k, a => skV k a
  | .many l, .agg a => a.length = l.length ∧ ∀ (i : Nat) (k : SK) (x : AV), l[i]? = some k → a[i]? = some x → skV k x
  | _, _ => False

theorem scalarsEq_form : ∀ {l : List SK} {a b : List AV} {r : Bool}, scalarsEq l a b = some r → ∀ (i : Nat) (k : SK) (x : AV), l[i]? = some k → a[i]? = some x → skV k x
  | [], a, b, r, h, i, k, x, hk, _ => by simp at hk
  | k :: l, [], b, r, h, i, _, x, _, hx => by simp at hx
  | k :: l, y :: a, [], r, h, i, _, x, _, hx => by simp [scalarsEq] at h
  | k :: l, y :: a, z :: b, r, h, i, kk, x, hk, hx => by
    simp only [scalarsEq] at h
    split at h
    · rename_i he
      cases i with
      | zero => simp at hk hx; subst hk hx; exact scalarEq_form he
      | succ i => exact scalarsEq_form h i kk x (by simpa using hk) (by simpa using hx)
    · rename_i he
      split at h
      · rename_i q hq
        cases i with
        | zero => simp at hk hx; subst hk hx; exact scalarEq_form he
        | succ i => exact scalarsEq_form hq i kk x (by simpa using hk) (by simpa using hx)
      · simp at h
    · simp at h

theorem scalarsEq_true : ∀ {l : List SK} {a b : List AV}, scalarsEq l a b = some true → a = b
  | [], [], [], _ => rfl
  | [], [], _ :: _, h => by simp [scalarsEq] at h
  | [], _ :: _, _, h => by simp [scalarsEq] at h
  | _ :: _, [], _, h => by simp [scalarsEq] at h
  | _ :: _, _ :: _, [], h => by simp [scalarsEq] at h
  | k :: l, x :: a, y :: b, h => by
    simp only [scalarsEq] at h
    split at h
    · rename_i he
      rw [scalarEq_true he, scalarsEq_true h]
    · split at h <;> simp at h
    · simp at h

theorem keyEq_form {d : KD} {a b : AV} {r : Bool} (h : keyEq d a b = some r) : keyV d a := by
  unfold keyEq at h
  split at h
  · exact scalarEq_form h
  · exact ⟨(scalarsEq_length h).1, scalarsEq_form h⟩
  · simp at h

theorem keyEq_true {d : KD} {a b : AV} (h : keyEq d a b = some true) : a = b := by
  unfold keyEq at h
  split at h
  · exact scalarEq_true h
  · rw [scalarsEq_true h]
  · simp at h

theorem sameBits_scalar {R : Ren} {k : SK} {a : AV} (h : skV k a) (n : Nat) : Instr.sameBits n (conc R a) (conc R a) = true := by
  cases k <;> cases a <;> simp [skV] at h <;> simp [conc, Instr.sameBits, beq_toListBytes]

theorem sameBits_key {R : Ren} {d : KD} {a : AV} (h : keyV d a) (n : Nat) : Instr.sameBits (n + 1) (conc R a) (conc R a) = true := by
  cases d with
  | one k => exact sameBits_scalar h _
  | many l =>
    cases a <;> simp only [keyV] at h
    rename_i a
    simp only [conc, Instr.sameBits, beq_self_eq_true, Bool.true_and, List.all_eq_true]
    intro p hp
    obtain ⟨i, hi, rfl⟩ := List.getElem_of_mem hp
    simp only [List.getElem_zip]
    have hi' : i < a.length := by simpa using hi
    have e : (concL R a)[i]'(by simpa using hi') = conc R a[i] := by simp [concL_map]
    simp only [e]
    exact sameBits_scalar (h.2 i (l[i]'(by omega)) a[i] (List.getElem?_eq_getElem _) (List.getElem?_eq_getElem _)) n

section
variable {E : Env} {P : Program} (hE : E.Ok P) {lo : Nat} {R : Ren} {s s' : St} {w : World} {f : Fr} {a : Act} {v : AV} (hR : Rel R s w) (hF : FrOk R s.nx f a) (hlo : lo ≤ s.nx)

theorem checkKey_scalar {k : SK} {d : TypeDesc} {t : TypeId} {x : AV} (hd : P.underlying t = some d) (hk : skD k d) (hx : skV k x) (em : Bool) (n : Nat) (w : World) : (Instr.checkKey em (n + 1) t (conc R x)).run P w = .ok () w := by
  unfold Instr.checkKey
  cases k <;> cases d <;> simp [skD] at hk <;> cases x <;> simp [skV] at hx <;> simp [underlying, hd, conc]

theorem checkFields_ok (em : Bool) (n : Nat) (A : List AV) : ∀ (fs : List Field) (l : List SK) (i : Nat),
    fs.map (·.offset) = List.range' i l.length → (∀ (j : Nat) (f : Field) (k : SK), fs[j]? = some f → l[j]? = some k → ∃ d, P.underlying f.type = some d ∧ skD k d) →
    (∀ (j : Nat) (k : SK), l[j]? = some k → ∃ x, A[i + j]? = some x ∧ skV k x) → ∀ w,
    (forIn fs PUnit.unit (fun f (_ : PUnit) => (if f.name ≠ "_" then (do let a ← part f.type ⟨concL R A⟩ f.offset; Instr.checkKey em (n + 1) f.type a; pure (ForInStep.yield PUnit.unit)) else pure (ForInStep.yield PUnit.unit) : Sem (ForInStep PUnit)))).run P w = .ok PUnit.unit w
  | [], l, i, _, _, _, w => by simp
  | f :: fs, [], i, ho, _, _, w => by simp at ho
  | f :: fs, k :: l, i, ho, hf, hx, w => by
    simp only [List.map_cons, List.length_cons, List.range'_succ, List.cons.injEq] at ho
    obtain ⟨ho1, ho2⟩ := ho
    obtain ⟨d, hd, hk⟩ := hf 0 f k rfl rfl
    obtain ⟨x, hx1, hx2⟩ := hx 0 k rfl
    have ih := checkFields_ok em n A fs l (i + 1) ho2 (fun j g kk hj hl => hf (j + 1) g kk (by simpa using hj) (by simpa using hl)) (fun j kk hl => by
      obtain ⟨y, h1, h2⟩ := hx (j + 1) kk (by simpa using hl)
      exact ⟨y, by rw [← h1]; congr 1; omega, h2⟩) w
    simp only [List.forIn_cons, Sem.run_bind]
    have hx1 : A[i]? = some x := hx1
    have h1 := run_part1 hd hk (⟨concL R A⟩ : Array Value) i (conc R x) (by simp [hx1]) w
    split
    · simp only [Sem.run_bind, ho1, h1, Result.andThen_ok, checkKey_scalar hd hk hx2, Sem.run_pure]
      exact ih
    · simp only [Sem.run_pure, Result.andThen_ok]
      exact ih

include hE in
theorem checkKey_ok {t : TypeId} {d : KD} {k : AV} (hd : keyD E t = some d) (hk : keyV d k) (em : Bool) (w : World) : (Instr.checkKey em 10000 t (conc R k)).run P w = .ok () w := by
  unfold keyD at hd
  split at hd
  · rename_i x hx
    have hty := hE.ty t x hx
    split at hd
    · rename_i kk hxd
      obtain rfl := Option.some.inj hd
      exact checkKey_scalar (k := .i) hty.2.1 (by rw [hxd]; trivial) hk em 9999 w
    · rename_i hxd
      obtain rfl := Option.some.inj hd
      exact checkKey_scalar (k := .s) hty.2.1 (by rw [hxd]; trivial) hk em 9999 w
    · rename_i fs l hxd hsk
      obtain rfl := Option.some.inj hd
      have hok := hty.2.2 l hsk
      obtain ⟨fs', hfs, h1, h2, h3⟩ := hok.st
      rw [hxd] at hfs
      obtain rfl := TypeDesc.struct.inj hfs
      cases k <;> simp only [keyV] at hk
      rename_i A
      have hu : P.underlying t = some (.struct fs) := by rw [hty.2.1, hxd]
      have := checkFields_ok (P := P) (R := R) em 9998 A fs.toList l 0 (by rw [h1, List.range_eq_range']) h3 (fun j kk hj => by
        have hj' : j < A.length := by have := (List.getElem?_eq_some_iff.1 hj).1; omega
        refine ⟨A[j], by rw [Nat.zero_add]; exact List.getElem?_eq_getElem hj', hk.2 j kk A[j] hj (List.getElem?_eq_getElem hj')⟩) w
      show (Instr.checkKey em (9999 + 1) t (conc R (.agg A))).run P w = _
      unfold Instr.checkKey
      simp only [Sem.run_bind, underlying, run_program, Result.andThen_ok, hu, Sem.run_pure, conc]
      rw [← Array.forIn_toList]
      exact (congrArg (fun r => Result.andThen r fun _ w' => Result.ok () w') this).trans rfl
    · simp at hd
  · simp at hd

/-- A search through the entries, step by step. -/
structure Search (P : Program) (R : Ren) (w : World) (d : KD) (k : AV) (G : List MapEntry → Nat → Sem (Option (Nat × Value))) : Prop where
  nil : ∀ i, (G [] i).run P w = .ok none w
  cons : ∀ e es i b, keyEq d k e.1 = some b → (G (entryC R e :: es) i).run P w = if b = true then .ok (some (i, conc R e.2.1)) w else (G es (i + 1)).run P w

theorem Search.find {d : KD} {k : AV} {G : List MapEntry → Nat → Sem (Option (Nat × Value))} (hG : Search P R w d k G) : ∀ {es : List (AV × AV × Nat)} {r : Option AV}, findX d k es = some r →
    ∀ i, ∃ j, (G (es.map (entryC R)) i).run P w = .ok (r.map fun v => (j, conc R v)) w
  | [], r, h, i => by
    unfold findX at h
    split at h
    · obtain rfl := Option.some.inj h
      exact ⟨0, hG.nil i⟩
    · simp at h
  | e :: es, r, h, i => by
    unfold findX at h
    split at h
    · rename_i he
      obtain rfl := Option.some.inj h
      exact ⟨i, by rw [List.map_cons, hG.cons e _ i true he]; simp⟩
    · rename_i he
      obtain ⟨j, hj⟩ := hG.find h (i + 1)
      exact ⟨j, by rw [List.map_cons, hG.cons e _ i false he]; simpa using hj⟩
    · simp at h

theorem findX_form {d : KD} {k : AV} {es : List (AV × AV × Nat)} {r : Option AV} (h : findX d k es = some r) : keyV d k := by
  cases es with
  | nil =>
    unfold findX at h
    split at h
    · rename_i b hb; exact keyEq_form hb
    · simp at h
  | cons e es =>
    unfold findX at h
    split at h
    · rename_i he; exact keyEq_form he
    · rename_i he; exact keyEq_form he
    · simp at h

theorem updX_form {d : KD} {k v : AV} {clk : Nat} {es : List (AV × AV × Nat)} {r : List (AV × AV × Nat) × Bool} (h : updX d k v clk es = some r) : keyV d k := by
  cases es with
  | nil =>
    unfold updX at h
    split at h
    · rename_i b hb; exact keyEq_form hb
    · simp at h
  | cons e es =>
    unfold updX at h
    split at h
    · rename_i he; exact keyEq_form he
    · rename_i he; exact keyEq_form he
    · simp at h

theorem Search.upd {d : KD} {k v : AV} {clk : Nat} {G : List MapEntry → Nat → Sem (Option (Nat × Value))} (hG : Search P R w d k G) : ∀ {es es' : List (AV × AV × Nat)} {n : Bool}, updX d k v clk es = some (es', n) →
    (n = true → es' = es ++ [(k, v, clk)] ∧ ∀ i, (G (es.map (entryC R)) i).run P w = .ok none w) ∧
    (n = false → ∃ j e, es[j]? = some e ∧ e.1 = k ∧ es' = es.set j (k, v, e.2.2) ∧ ∀ i, ∃ u, (G (es.map (entryC R)) i).run P w = .ok (some (i + j, u)) w)
  | [], es', n, h => by
    unfold updX at h
    split at h
    · obtain ⟨rfl, rfl⟩ := Prod.mk.inj (Option.some.inj h)
      exact ⟨fun _ => ⟨rfl, fun i => hG.nil i⟩, by simp⟩
    · simp at h
  | e :: es, es', n, h => by
    unfold updX at h
    split at h
    · rename_i he
      obtain ⟨rfl, rfl⟩ := Prod.mk.inj (Option.some.inj h)
      refine ⟨by simp, fun _ => ⟨0, e, rfl, (keyEq_true he).symm, rfl, fun i => ⟨conc R e.2.1, ?_⟩⟩⟩
      rw [List.map_cons, hG.cons e _ i true he]
      simp
    · rename_i he
      obtain ⟨⟨l, m⟩, hl, hlm⟩ := Option.map_eq_some_iff.1 h
      obtain ⟨rfl, rfl⟩ := Prod.mk.inj hlm
      have ih := hG.upd hl
      refine ⟨fun hn => ?_, fun hn => ?_⟩
      · obtain ⟨h1, h2⟩ := ih.1 hn
        refine ⟨by rw [h1]; rfl, fun i => ?_⟩
        rw [List.map_cons, hG.cons e _ i false he]
        simpa using h2 (i + 1)
      · obtain ⟨j, e', h1, h2, h3, h4⟩ := ih.2 hn
        refine ⟨j + 1, e', by simpa using h1, h2, by rw [h3]; rfl, fun i => ?_⟩
        obtain ⟨u, hu⟩ := h4 (i + 1)
        refine ⟨u, ?_⟩
        rw [List.map_cons, hG.cons e _ i false he]
        have : i + 1 + j = i + (j + 1) := by omega
        rw [this] at hu
        simpa using hu
    · simp at h

include hE in
theorem search_ok {t : TypeId} {d : KD} {k : AV} (hd : keyD E t = some d) (hk : keyV d k) (w : World) : ∃ G, Search P R w d k G ∧ ∀ es r, (G es 0).run P w = .ok r w → (Instr.findKey t (conc R k) es).run P w = .ok r w := by
  unfold keyD at hd
  split at hd
  · rename_i x hx
    have hty := hE.ty t x hx
    have one : ∀ (sk : SK), d = .one sk → skD sk x.d → sk ≠ .b → ∃ G, Search P R w d k G ∧ ∀ es r, (G es 0).run P w = .ok r w → (Instr.findKey t (conc R k) es).run P w = .ok r w := by
      intro sk hdd hsd hnb
      subst hdd
      refine ⟨fun es i => match Instr.findNow x.d (conc R k) es i with | some r => pure r | none => stuck "", ⟨fun i => by simp [Instr.findNow], fun e es i b hb => ?_⟩, fun es r hr => ?_⟩
      · obtain ⟨ek, ev⟩ := e
        have : Instr.sameNow x.d (conc R k) (conc R ek) = some b := by
          have hb2 : scalarEq sk k ek = some b := hb
          clear hb
          unfold scalarEq at hb2
          split at hb2
          · split at hb2
            · rename_i hkk
              obtain rfl := kindEq_eq.1 hkk
              obtain rfl := Option.some.inj hb2
              cases hxd : x.d <;> rw [hxd] at hsd <;> simp [skD] at hsd
              simp [Instr.sameNow, conc, eqI_eq]
            · simp at hb2
          · obtain rfl := Option.some.inj hb2
            cases hxd : x.d <;> rw [hxd] at hsd <;> simp [skD] at hsd
            simp only [Instr.sameNow, conc, beq_toListBytes, bytes_toList, eqS_eq]
          · exact absurd rfl hnb
          · simp at hb2
        have hkey : (entryC R (ek, ev)).key = conc R ek := rfl
        cases b
        · simp only [Instr.findNow, hkey, this]
          simp
        · simp [Instr.findNow, hkey, this, entryC]
      · simp only [Instr.findKey, Sem.run_bind, underlying, run_program, Result.andThen_ok, hty.2.1, Sem.run_pure]
        simp only at hr
        cases hfn : Instr.findNow x.d (conc R k) es 0 with
        | some q => rw [hfn] at hr; exact hr
        | none => rw [hfn] at hr; simp at hr
    split at hd
    · rename_i kk hxd
      obtain rfl := Option.some.inj hd
      exact one .i rfl (by rw [hxd]; trivial) (by simp)
    · rename_i hxd
      obtain rfl := Option.some.inj hd
      exact one .s rfl (by rw [hxd]; trivial) (by simp)
    · rename_i fs l hxd hsk
      obtain rfl := Option.some.inj hd
      have hok := hty.2.2 l hsk
      have hu : P.underlying t = some (.struct fs) := by rw [hty.2.1, hxd]
      refine ⟨fun es i => Instr.findAsking t (conc R k) es i, ⟨fun i => by simp [Instr.findAsking], fun e es i b hb => ?_⟩, fun es r hr => ?_⟩
      · cases k <;> simp only [keyV] at hk
        rename_i A
        obtain ⟨ek, ev⟩ := e
        cases ek <;> simp only [keyEq] at hb <;> first
          | (simp at hb; done)
          | skip
        rename_i B
        have := structEq_ok (P := P) (R := R) hty.2.1 hok hb 9998 w
        have hkey : (entryC R (.agg B, ev)).key = .agg ⟨concL R B⟩ := rfl
        simp only [Instr.findAsking, Sem.run_bind, hkey, Op.equal, conc]
        rw [show Op.maxDepth = 9998 + 2 from rfl, this]
        cases b <;> simp [entryC]
      · rw [run_findKey_eq w (by rw [hu]) (conc R k) es]
        exact hr
    · simp at hd
  · simp at hd

end
end Go.Vx
