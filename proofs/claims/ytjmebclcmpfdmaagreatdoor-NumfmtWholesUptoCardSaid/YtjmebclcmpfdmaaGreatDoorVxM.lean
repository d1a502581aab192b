/-
  A run told in advance, part twelve: lookups, updates, iterators, built-in functions. No condition.
-/
import Derived.Test.YtjmebclcmpfdmaaGreatDoorVxK
import Derived.Laws.Append
import Derived.Laws.AppendOwn
set_option linter.unusedSectionVars false
set_option linter.unusedSimpArgs false
set_option linter.unusedVariables false
namespace Go.Vx
open Go.RowKit

theorem getMap {P : Program} {w : World} {r : Nat} {es : Array MapEntry} {clock : Nat} (hb : w.heap[r]? = some (.map es clock)) : (getObj r).run P w = .ok (.map es clock) w := by
  simp [getObj, Sem.run, hb]

theorem setMap {P : Program} {w : World} {r : Nat} {es : Array MapEntry} {clock : Nat} (o : Obj) (hb : w.heap[r]? = some (.map es clock)) : (setObj r o).run P w = .ok () { w with heap := w.heap.setIfInBounds r o } := by
  simp [setObj, Sem.run, hb]

section
variable {E : Env} {P : Program} (hE : E.Ok P) {lo : Nat} {R : Ren} {s s' : St} {w : World} {f : Fr} {a : Act} {v : AV} (hR : Rel R s w) (hF : FrOk R s.nx f a) (hlo : lo ≤ s.nx)

include hR in
theorem map_block {b : Nat} {es : List (AV × AV × Nat)} {clk : Nat} (h : s.get b = some (.mp es clk)) :
    w.heap[R.blk b]? = some (.map ⟨es.map (entryC R)⟩ clk) ∧ ∀ x ∈ es, Bnd s.nx x.1 ∧ Bnd s.nx x.2.1 := by
  obtain ⟨x, hx, hr⟩ := hR.live b _ h
  have hb := (hR.bnd b _ h).2
  cases x <;> simp only [ORel] at hr
  exact ⟨by rw [hx, hr.1, hr.2], hb⟩

theorem findX_mem {d : KD} {k u : AV} : ∀ {es : List (AV × AV × Nat)}, findX d k es = some (some u) → ∃ x ∈ es, x.2.1 = u
  | [], h => by
    unfold findX at h
    split at h <;> simp at h
  | e :: es, h => by
    unfold findX at h
    split at h
    · exact ⟨e, by simp, by simpa using h⟩
    · obtain ⟨x, hx, h2⟩ := findX_mem h
      exact ⟨x, by simp [hx], h2⟩
    · simp at h

include hE hR hF in
theorem lookup_ok {t : TypeId} {x k : Operand} {ok : Bool} (h : lookupX t x k ok E lo f s = some (v, s')) : Res P (do pure (.value (← Instr.lookup t (a.eval x) (a.eval k) ok))) lo R s w v s' := by
  unfold lookupX at h
  split at h
  · rename_i kt et hu
    split at h
    · simp at h
    · rename_i m hm
      split at h
      · simp at h
      · rename_i kk hk
        have h1 := hF.ev hm
        have h2 := hF.ev hk
        unfold lookupE at h
        split at h
        · simp at h
        · rename_i d hd
          split at h
          · simp at h
          · rename_i es hes
            cases hf : findX d kk es with
            | none => simp [hf, foundX] at h
            | some r =>
              have hform := findX_form hf
              obtain ⟨G, hG, hGf⟩ := search_ok hE (P := P) (R := R) hd hform w
              obtain ⟨j, hj⟩ := hG.find hf 0
              have hfind := hGf _ _ hj
              have hbnd : ∀ x ∈ es, Bnd s.nx x.1 ∧ Bnd s.nx x.2.1 := by
                unfold entriesOf at hes
                split at hes
                · obtain rfl := Option.some.inj hes; simp
                · split at hes
                  · rename_i es' clk hg
                    obtain rfl := Option.some.inj hes
                    exact (map_block hR hg).2
                  · simp at hes
                · simp at hes
              have hrun : ∀ (z : AV) (is : Bool), (r = some z ∧ is = true ∨ r = none ∧ is = false ∧ ∃ zz, E.zero et = some zz ∧ z = zz) →
                  (Instr.lookup t (a.eval x) (a.eval k) ok).run P w = .ok (if ok then .tuple #[conc R z, .bool is] else conc R z) w := by
                intro z is hz
                have hck := fun em => checkKey_ok hE (P := P) (R := R) hd hform em w
                simp only [Instr.lookup, Sem.run_bind, run_und hE hu, Result.andThen_ok, h1.1, h2.1]
                unfold entriesOf at hes
                split at hes
                · obtain rfl := Option.some.inj hes
                  simp only [List.map_nil] at hfind
                  rcases hz with ⟨rfl, rfl⟩ | ⟨rfl, rfl, zz, hzz, rfl⟩
                  · simp only [conc, Sem.run_bind, Sem.run_pure, Result.andThen_ok, hck, hfind, Option.map_some]
                  · simp only [conc, Sem.run_bind, Sem.run_pure, Result.andThen_ok, hck, hfind, Option.map_none, (run_zero hE R hzz).1]
                · split at hes
                  · rename_i b es' clk hg
                    obtain rfl := Option.some.inj hes
                    have hblk := (map_block hR hg).1
                    rcases hz with ⟨rfl, rfl⟩ | ⟨rfl, rfl, zz, hzz, rfl⟩
                    · simp only [conc, Sem.run_bind, Sem.run_pure, Result.andThen_ok, getMap hblk, hck, hfind, Option.map_some]
                    · simp only [conc, Sem.run_bind, Sem.run_pure, Result.andThen_ok, getMap hblk, hck, hfind, Option.map_none, (run_zero hE R hzz).1]
                  · simp at hes
                · simp at hes
              simp only [hf, foundX] at h
              cases r with
              | some u =>
                obtain ⟨q, hq, rfl⟩ := findX_mem hf
                have hb := (hbnd q hq).2
                simp only [okX] at h
                cases ok
                · obtain ⟨rfl, rfl⟩ := Prod.mk.inj (Option.some.inj h)
                  exact res_val hR (by rw [hrun _ true (.inl ⟨rfl, rfl⟩)]; simp) hb
                · obtain ⟨rfl, rfl⟩ := Prod.mk.inj (Option.some.inj h)
                  exact res_val hR (by rw [hrun _ true (.inl ⟨rfl, rfl⟩)]; simp [conc, concL]) (by simp [Bnd, BndL, hb])
              | none =>
                simp only at h
                split at h
                · rename_i z hz
                  have hb := (run_zero hE (P := P) R hz).2.mono (Nat.zero_le s.nx)
                  simp only [okX] at h
                  cases ok
                  · obtain ⟨rfl, rfl⟩ := Prod.mk.inj (Option.some.inj h)
                    exact res_val hR (by rw [hrun _ false (.inr ⟨rfl, rfl, _, hz, rfl⟩)]; simp) hb
                  · obtain ⟨rfl, rfl⟩ := Prod.mk.inj (Option.some.inj h)
                    exact res_val hR (by rw [hrun _ false (.inr ⟨rfl, rfl, _, hz, rfl⟩)]; simp [conc, concL]) (by simp [Bnd, BndL, hb])
                · simp at h
  · simp at h

theorem heap_setIfInBounds {w : World} {i : Nat} {o : Obj} (h : i < w.heap.size) : w.heap.setIfInBounds i o = w.heap.set i o h := by
  simp [Array.setIfInBounds, h]

include hE hR hF in
theorem mapUpdate_ok {t : TypeId} {x k y : Operand} (h : mapUpdateX t x k y E lo f s = some (v, s')) : Res P (do Instr.mapUpdate t (a.eval x) (a.eval k) (a.eval y); pure .skip) lo R s w v s' := by
  unfold mapUpdateX at h
  split at h
  · rename_i kt et hu
    split at h
    · simp at h
    · rename_i m hm
      split at h
      · simp at h
      · rename_i kk hk
        split at h
        · simp at h
        · rename_i u huv
          have h1 := hF.ev hm
          have h2 := hF.ev hk
          have h3 := hF.ev huv
          unfold updateV at h
          split at h
          · rename_i b
            split at h
            · rename_i d hd
              unfold updateE at h
              split at h
              · simp at h
              · rename_i hlb
                have hlb := Nat.le_of_ble_eq_true ((Bool.and_eq_true _ _).mp hlb).1
                split at h
                · rename_i es clk hg
                  obtain ⟨hblk, hbnd⟩ := map_block hR hg
                  have hlt := hR.lt hg
                  cases hup : updX d kk u clk es with
                  | none => simp [hup, putMap] at h
                  | some r =>
                    obtain ⟨es', n⟩ := r
                    have hform := updX_form hup
                    obtain ⟨G, hG, hGf⟩ := search_ok hE (P := P) (R := R) hd hform w
                    have hU := hG.upd hup
                    cases n with
                    | true =>
                      obtain ⟨e1, e2⟩ := hU.1 rfl
                      have hfind := hGf _ _ (e2 0)
                      simp only [hup, putMap, putK_eq] at h
                      obtain ⟨rfl, rfl⟩ := Prod.mk.inj (Option.some.inj h)
                      have hupd := rel_upd (lo := lo) hR hg hlb (o' := .mp es' (Nat.succ clk)) (x := .map ⟨es'.map (entryC R)⟩ (clk + 1)) rfl (by
                        intro q hq
                        rw [e1, List.mem_append] at hq
                        rcases hq with hq | hq
                        · exact hbnd q hq
                        · simp at hq; subst hq; exact ⟨h2.2, h3.2⟩) (by simp [ORel])
                      refine ⟨R, .skip, _, ?_, .inr ⟨rfl, rfl⟩, hupd.1, hupd.2, by simp [Bnd, BndL]⟩
                      simp only [Instr.mapUpdate, Sem.run_bind, run_und hE hu, Result.andThen_ok, h1.1, h2.1, h3.1, conc, getMap hblk, checkKey_ok hE hd hform, hfind, setMap _ hblk, heap_setIfInBounds hlt, Sem.run_pure]
                      rw [e1]
                      simp [entryC]
                    | false =>
                      obtain ⟨j, e, g1, g2, g3, g4⟩ := hU.2 rfl
                      obtain ⟨q, hq⟩ := g4 0
                      rw [Nat.zero_add] at hq
                      have hfind := hGf _ _ hq
                      simp only [hup, putMap, putK_eq] at h
                      obtain ⟨rfl, rfl⟩ := Prod.mk.inj (Option.some.inj h)
                      have hupd := rel_upd (lo := lo) hR hg hlb (o' := .mp es' clk) (x := .map ⟨es'.map (entryC R)⟩ clk) rfl (by
                        intro z hz
                        rw [g3] at hz
                        rcases List.mem_or_eq_of_mem_set hz with hz | hz
                        · exact hbnd z hz
                        · subst hz; exact ⟨h2.2, h3.2⟩) (by simp [ORel])
                      refine ⟨R, .skip, _, ?_, .inr ⟨rfl, rfl⟩, hupd.1, hupd.2, by simp [Bnd, BndL]⟩
                      have hkey : ((((⟨es.map (entryC R)⟩ : Array MapEntry)[j]?).map (·.key)).getD (conc R kk)) = conc R kk := by
                        simp [g1, entryC, g2]
                      have hstay : (Instr.keyThatStays (conc R kk) (conc R kk)).run P w = .ok (conc R kk) w := by
                        unfold Instr.keyThatStays
                        rw [show (10000 : Nat) = 9999 + 1 from rfl, sameBits_key hform 9999]
                        rfl
                      simp only [Instr.mapUpdate, Sem.run_bind, run_und hE hu, Result.andThen_ok, h1.1, h2.1, h3.1, conc, getMap hblk, checkKey_ok hE hd hform, hfind, hkey, hstay, setMap _ hblk, heap_setIfInBounds hlt, Sem.run_pure]
                      congr 3
                      congr 1
                      apply Array.ext_getElem?
                      intro i
                      rw [g3, Array.getElem?_modify]
                      simp only [List.getElem?_toArray, List.getElem?_map, List.getElem?_set]
                      have hj : j < es.length := (List.getElem?_eq_some_iff.1 g1).1
                      by_cases hi : j = i
                      · subst hi
                        have he : es[j] = e := (List.getElem?_eq_some_iff.1 g1).2
                        simp [hj, he, entryC]
                      · simp [hi]
                · simp at h
            · simp at h
          · simp at h
  · simp at h

include hE hR hF hlo in
theorem range_ok {t : TypeId} {x : Operand} (h : rangeX t x E lo f s = some (v, s')) : Res P (do pure (.value (← Instr.range t (a.eval x)))) lo R s w v s' := by
  have fin : ∀ {sem : Sem Value} (o : AO) (x : Obj), newObjX s o (.ptr s.nx 0) = some (v, s') → OBnd s.nx o → ORel R o x → sem.run P w = .ok (.pointer (some ⟨w.heap.size, 0, none⟩)) { w with heap := w.heap.push x } →
      Res P (do pure (.value (← sem))) lo R s w v s' := by
    intro sem o x h hb hr hs
    obtain ⟨h1, R', h2, h3, h4, h5⟩ := new_obj hR hlo h x hb hr
    simp only at h1 h3 h4 h5
    subst h1
    exact ⟨R', _, _, by simp [hs]; rfl, .inl (by simp [conc, h2]), h3, h4, by simp [Bnd, h5]⟩
  unfold rangeX at h
  split at h
  · simp at h
  · rename_i d hd
    split at h
    · simp at h
    · rename_i p hp
      have h1 := hF.ev hp
      unfold rangeD at h
      split at h
      · split at h
        · rename_i l
          refine fin _ (.stringIter ⟨⟨l⟩⟩ 0) h trivial (by simp [ORel]) ?_
          simp [Instr.range, run_und hE hd, h1.1, conc]
        · simp at h
      · split at h
        · refine fin _ (.mapIter none 0 #[] 0) h (by intro r hr; simp at hr) (by simp [ORel]) ?_
          simp [Instr.range, run_und hE hd, h1.1, conc]
        · rename_i m
          split at h
          · rename_i es clk hg
            have hblk := (map_block hR hg).1
            refine fin _ (.mapIter (some (R.blk m)) clk #[] clk) h (by intro r hr; simp at hr; subst hr; have := h1.2; simpa only [Bnd] using this) (by simp [ORel]) ?_
            simp [Instr.range, run_und hE hd, h1.1, conc, getMap hblk]
          · simp at h
        · simp at h
      · simp at h

include hR hF in
theorem next_ok {x : Operand} {isS : Bool} {ty : TypeId} (h : nextX x isS E lo f s = some (v, s')) : Res P (do pure (.value (← Instr.next (a.eval x) isS ty))) lo R s w v s' := by
  unfold nextX at h
  split at h
  · rename_i b hp
    have h1 := hF.ev hp
    split at h
    · rename_i hlb
      have hlb := Nat.le_of_ble_eq_true hlb
      unfold nextV at h
      split at h
      · rename_i l p hg
        split at h
        · obtain ⟨o, ho, hr⟩ := hR.live b _ hg
          have hlt := hR.lt hg
          cases o <;> simp only [ORel] at hr
          rw [hr.1, hr.2] at ho
          have hget : (getObj (R.blk b)).run P w = .ok (.stringIter ⟨⟨l⟩⟩ p) w := by simp [getObj, Sem.run, ho]
          unfold nextStr at h
          split at h
          · rename_i hpl
            have hpl : p < l.length := Nat.le_of_ble_eq_true hpl
            rw [natK_eq, natK_eq, putK_eq] at h
            obtain ⟨rfl, rfl⟩ := Prod.mk.inj (Option.some.inj h)
            have hset : ∀ o', (setObj (R.blk b) o').run P w = .ok () { w with heap := w.heap.set (R.blk b) o' hlt } := by
              intro o'
              simp [setObj, Sem.run, ho, heap_setIfInBounds hlt]
            have hupd := rel_upd (lo := lo) hR hg hlb (o' := .sit l (Nat.add p (stringAt l p).2)) (x := .stringIter ⟨⟨l⟩⟩ (p + (stringAt l p).2)) rfl trivial (by simp [ORel])
            refine ⟨R, _, _, ?_, .inl rfl, hupd.1, hupd.2, by simp [Bnd, BndL]⟩
            simp only [Instr.next, Sem.run_bind, h1.1, conc, hget, Result.andThen_ok]
            have hsz : (⟨⟨l⟩⟩ : ByteArray).size = l.length := rfl
            rw [if_pos (by rw [hsz]; exact hpl)]
            simp [hset, stringAt, concL, conc, goInt]
          · rename_i hpl
            have hpl : ¬ p < l.length := fun e => by
              have := Nat.ble_eq_true_of_le (Nat.succ_le_of_lt e)
              rw [this] at hpl; simp at hpl
            obtain ⟨rfl, rfl⟩ := Prod.mk.inj (Option.some.inj h)
            refine res_val hR ?_ (by simp [over, Bnd, BndL])
            simp only [Instr.next, Sem.run_bind, h1.1, conc, hget, Result.andThen_ok]
            have hsz : (⟨⟨l⟩⟩ : ByteArray).size = l.length := rfl
            rw [if_neg (by rw [hsz]; exact hpl)]
            simp [over, conc, concL]
        · simp at h
      · rename_i m since seen last hg
        obtain ⟨o, ho, hr⟩ := hR.live b _ hg
        cases o <;> simp only [ORel] at hr
        obtain ⟨rfl, rfl, rfl, rfl⟩ := hr
        split at h
        · simp at h
        · split at h
          · obtain ⟨rfl, rfl⟩ := Prod.mk.inj (Option.some.inj h)
            have hget : ∀ m' c d e, w.heap[R.blk b]? = some (.mapIter m' c d e) → (getObj (R.blk b)).run P w = .ok (.mapIter m' c d e) w := by intro m' c d e hh; simp [getObj, Sem.run, hh]
            refine res_val hR ?_ (by simp [over, Bnd, BndL])
            simp only [Instr.next, Sem.run_bind, h1.1, conc, hget _ _ _ _ ho, Result.andThen_ok]
            simp [over, conc, concL]
          · rename_i m'
            unfold nextMap at h
            split at h
            · rename_i clk hgm
              obtain ⟨rfl, rfl⟩ := Prod.mk.inj (Option.some.inj h)
              have hblk : w.heap[R.blk m']? = some (.map #[] clk) := (map_block hR hgm).1
              have hget : ∀ m' c d e, w.heap[R.blk b]? = some (.mapIter m' c d e) → (getObj (R.blk b)).run P w = .ok (.mapIter m' c d e) w := by intro m' c d e hh; simp [getObj, Sem.run, hh]
              refine res_val hR ?_ (by simp [over, Bnd, BndL])
              simp only [Instr.next, Sem.run_bind, h1.1, conc, hget _ _ _ _ ho, Result.andThen_ok, Option.map_some, getMap hblk]
              have hfil : ∀ q : MapEntry → Bool, Array.filter q (#[] : Array MapEntry) 0 0 = #[] := fun _ => rfl
              simp [over, conc, concL, Question.forced, hfil]
            · simp at h
      · simp at h
    · simp at h
  · simp at h

end
end Go.Vx
set_option linter.unusedSectionVars false
set_option linter.unusedSimpArgs false
set_option linter.unusedVariables false
namespace Go.Vx
open Go.RowKit

/-- A name is given up. -/
theorem rel_drop {lo : Nat} {R : Ren} {s : St} {w : World} (h : Rel R s w) {n : Nat} {o : AO} (hg : s.get n = some o) (hlo : lo ≤ n) :
    Rel R (s.put n none) w ∧ Mv lo R s w R (s.put n none) w := by
  have hl : n < lim := Nat.lt_of_lt_of_le (h.bnd n o hg).1 h.lim
  have hp : ∀ m p, (s.put n none).get m = some p → s.get m = some p := by
    intro m p hm
    rw [St.get_put s n m none hl] at hm
    split at hm
    · simp at hm
    · exact hm
  refine ⟨⟨fun m p hm => h.live m p (hp m p hm), fun m k o1 o2 h1 h2 he => h.inj m k o1 o2 (hp _ _ h1) (hp _ _ h2) he, fun m p hm => h.bnd m p (hp m p hm), h.lim⟩, ?_⟩
  refine ⟨fun _ _ => rfl, fun _ _ => rfl, rfl, Nat.le_refl _, fun m hm => ?_, rfl, rfl, rfl, Nat.le_refl _, fun _ _ _ => rfl, fun m p hlo' hm _ => ⟨m, p, hlo', hp m p hm, rfl⟩⟩
  rw [St.get_put s n m none hl, if_neg (by omega)]

section
variable {E : Env} {P : Program} (hE : E.Ok P) {lo : Nat} {R : Ren} {s s' : St} {w : World} {f : Fr} {a : Act} {v : AV} (hR : Rel R s w) (hF : FrOk R s.nx f a) (hlo : lo ≤ s.nx)

theorem isSlice_ok {x : AV} {base : Option (Nat × Nat)} {len cap : Nat} (h : isSlice x = some (base, len, cap)) :
    conc R x = .slice (base.map fun p => ⟨R.blk p.1, p.2, none⟩) len (R.c cap) ∧ (∀ n, Bnd n x → ∀ p, base = some p → p.1 < n ∧ (cap < big ∨ cap - big < n)) ∧ (base = none → len = 0 ∧ cap = 0 ∧ x = .nils) ∧ (∀ b o, base = some (b, o) → x = .slc b o len cap) := by
  unfold isSlice at h
  split at h
  · obtain ⟨rfl, h2⟩ := Prod.mk.inj (Option.some.inj h)
    obtain ⟨rfl, rfl⟩ := Prod.mk.inj h2
    exact ⟨by simp [conc, Ren.c, big], by simp, fun _ => ⟨rfl, rfl, rfl⟩, by simp⟩
  · obtain ⟨rfl, h2⟩ := Prod.mk.inj (Option.some.inj h)
    obtain ⟨rfl, rfl⟩ := Prod.mk.inj h2
    refine ⟨by simp [conc], fun n hb p hp => ?_, by simp, fun b o hbo => ?_⟩
    · obtain rfl := Option.some.inj hp
      simpa only [Bnd] using hb
    · obtain ⟨rfl, rfl⟩ := Prod.mk.inj (Option.some.inj hbo)
      rfl
  · simp at h

include hR in
theorem appCells_ok {esz n : Nat} {x : AV} {l : List AV} (h : appCells s esz x = some (l, n)) :
    (∀ d, (Builtin.firstCells esz n (conc R x)).run P { w with drawn := d } = .ok ⟨concL R l⟩ { w with drawn := d }) ∧ (∀ d, (Builtin.lenOf (conc R x)).run P { w with drawn := d } = .ok n { w with drawn := d }) ∧ BndL s.nx l ∧ l.length = n * esz ∧ (∀ q : Value, q = conc R x → (Builtin.lenOf q).run P w = .ok n w) := by
  have hd : ∀ d, Rel R s { w with drawn := d } := fun d => hR.drawn d
  unfold appCells at h
  split at h
  · obtain ⟨rfl, rfl⟩ := Prod.mk.inj (Option.some.inj h)
    exact ⟨fun d => by simp [conc, Builtin.firstCells, concL], fun d => by simp [conc, Builtin.lenOf], by simp [BndL], by simp, fun q hq => by subst hq; simp [conc, Builtin.lenOf]⟩
  · rename_i b o len c
    obtain ⟨cs, hcs, hl⟩ := Option.map_eq_some_iff.1 h
    obtain ⟨rfl, rfl⟩ := Prod.mk.inj hl
    have := cellsX_bnd hR hcs
    exact ⟨fun d => by simp only [conc, Builtin.firstCells]; exact run_loadCells (hd d) hcs, fun d => by simp [conc, Builtin.lenOf], this.1, this.2, fun q hq => by subst hq; simp [conc, Builtin.lenOf]⟩
  · rename_i y
    split at h
    · rename_i he
      have he : esz = 1 := Nat.eq_of_beq_eq_true he
      obtain ⟨rfl, rfl⟩ := Prod.mk.inj (Option.some.inj h)
      have e1 : (⟨⟨y⟩⟩ : ByteArray).size = y.length := rfl
      refine ⟨fun d => ?_, fun d => by simp [conc, Builtin.lenOf, e1], byteCells_bnd _ y, by simp [he], fun q hq => by subst hq; simp [conc, Builtin.lenOf, e1]⟩
      simp only [conc, Builtin.firstCells, Sem.run_pure]
      congr 1
      have := byteCells_conc R y
      unfold byteCells at this
      rw [this]
      have h0 : (⟨⟨y⟩⟩ : ByteArray).extract 0 y.length = ⟨⟨y⟩⟩ := by rw [bytes_extract]; simp
      rw [h0]
      apply Array.ext'
      simp
    · simp at h
  · simp at h

/-- What an append comes to, told by the operations that it is made of. -/
structure AppFacts (P : Program) (E : Env) (R : Ren) (s : St) (w : World) (e esz bts : Nat) (new : List AV) (n : Nat) : Prop where
  size : E.size e = some esz
  bytes : E.bytes e = some bts
  pos : 0 < esz
  one : new.all oneA = true
  len : new.length = n * esz
  bnd : BndL s.nx new

include hE hR hlo in
theorem app_ok {e n : Nat} {x : AV} {new : List AV} (h : appX E lo s e x new n = some (v, s')) (hx : Bnd s.nx x) (hnew : BndL s.nx new) (hlen : ∀ esz, E.size e = some esz → new.length = n * esz) :
    ∃ esz bts base len cap z, E.size e = some esz ∧ E.bytes e = some bts ∧ E.zero e = some z ∧ (cellsA z).length = esz ∧ conc R x = .slice base len cap ∧
      ((len + n ≤ cap ∧ ∃ R' w', (match base with | some a => storeCells (a.add (len * esz)) (concL R new) | none => pure ()).run P w = .ok () w' ∧ conc R' v = .slice base (len + n) cap ∧ Rel R' s' w' ∧ Mv lo R s w R' s' w' ∧ Bnd s'.nx v) ∨
       (¬ len + n ≤ cap ∧ Builtin.nextslicecap (len + n) cap * bts ≤ 281474976710656 ∧ ((len + n : Nat) : Int) ≤ 16777216 ∧ ∃ old : Array Value, old.size = len * esz ∧ (∀ d, (Builtin.firstCells esz len (conc R x)).run P { w with drawn := d } = .ok old { w with drawn := d }) ∧
         ∀ (c : Nat) (rest : Array Value), len + n ≤ c → rest.size = (c - (len + n)) * esz → ∃ R', conc R' v = .slice (some ⟨w.heap.size, 0, none⟩) (len + n) c ∧
           Rel R' s' { w with drawn := w.drawn + 1, heap := w.heap.push (.cells (old ++ ⟨concL R new⟩ ++ rest) e) } ∧
             Mv lo R s w R' s' { w with drawn := w.drawn + 1, heap := w.heap.push (.cells (old ++ ⟨concL R new⟩ ++ rest) e) } ∧ Bnd s'.nx v)) := by
  unfold appX at h
  split at h
  · simp at h
  · rename_i esz hsz
    split at h
    · simp at h
    · rename_i bts hbt
      split at h
      · simp at h
      · rename_i base len cap hsl
        split at h
        · simp at h
        · rename_i hc
          simp only [Bool.and_eq_true] at hc
          obtain ⟨⟨hc1, hc2⟩, hc3⟩ := hc
          have hpos : 0 < esz := Nat.le_of_ble_eq_true hc1
          have hz : ∃ z, E.zero e = some z ∧ (cellsA z).length = esz := by
            unfold zeroOk at hc3
            split at hc3
            · rename_i z hz; exact ⟨z, hz, Nat.eq_of_beq_eq_true hc3⟩
            · simp at hc3
          obtain ⟨z, hz1, hz2⟩ := hz
          have hnl := hlen esz hsz
          obtain ⟨i1, i2, i3, i4⟩ := isSlice_ok (R := R) hsl
          refine ⟨esz, bts, base.map fun p => ⟨R.blk p.1, p.2, none⟩, len, R.c cap, z, hsz, hbt, hz1, hz2, i1, ?_⟩
          have hsmall : ∀ {k : Nat}, small (len + n) bts = true → k < len + n → Builtin.nextslicecap (len + n) k * bts ≤ 281474976710656 ∧ ((len + n : Nat) : Int) ≤ 16777216 := by
            intro k hs hk
            unfold small at hs
            simp only [Bool.and_eq_true] at hs
            have h1 := Nat.le_of_ble_eq_true hs.1
            have h2 := Nat.le_of_ble_eq_true hs.2
            have h3 := nextslicecap_le hk
            refine ⟨?_, by omega⟩
            have : Builtin.nextslicecap (len + n) k * bts ≤ 2 * (len + n) * bts := Nat.mul_le_mul_right _ h3
            have h5 : 2 * (len + n) * bts ≤ (len + n) * 16 * bts := Nat.mul_le_mul_right _ (by omega)
            omega
          split at h
          · rename_i hcap
            have hcap : cap < big := Nat.le_of_ble_eq_true hcap
            have hcc : R.c cap = cap := by simp [Ren.c, hcap]
            rw [hcc]
            unfold appKnown at h
            split at h
            · rename_i hle
              have hle := Nat.le_of_ble_eq_true hle
              left
              refine ⟨hle, ?_⟩
              split at h
              · obtain ⟨rfl, rfl⟩ := Prod.mk.inj (Option.some.inj h)
                obtain ⟨e1, e2, e3⟩ := i3 rfl
                subst e1 e2 e3
                have hn0 : n = 0 := by omega
                subst hn0
                exact ⟨R, w, by simp, by simp [conc], hR, Mv.refl _ _ _ _, hx⟩
              · rename_i b o
                cases hst : storeCellsX lo s b (o + len * esz) new with
                | none => simp [hst, slcOf] at h
                | some s1 =>
                  simp only [hst, slcOf] at h
                  obtain ⟨rfl, rfl⟩ := Prod.mk.inj (Option.some.inj h)
                  obtain ⟨w', g1, g2, g3, g4, _⟩ := run_storeX (P := P) hR hst hnew
                  refine ⟨R, w', ?_, by simp [conc, hcc], g2, g3, ?_⟩
                  · simp only [Option.map_some, Addr.add_mk]; exact g1
                  · have := i2 _ hx _ rfl
                    simp only [Bnd, g4]; exact this
            · rename_i hle
              have hle : ¬ len + n ≤ cap := fun e => by rw [Nat.ble_eq_true_of_le e] at hle; simp at hle
              right
              split at h
              · simp at h
              · rename_i old m hold
                split at h
                · rename_i hs
                  obtain ⟨o1, o2, o3, o4, o5⟩ := appCells_ok hR (P := P) hold
                  have hm : m = len := by
                    have := o5 _ rfl
                    rw [i1] at this
                    simp [Builtin.lenOf] at this
                    exact this.symm
                  subst hm
                  obtain ⟨s1, s2⟩ := hsmall (k := cap) hs (by omega)
                  refine ⟨hle, s1, s2, ⟨concL R old⟩, by simp [o4], o1, fun c rest hcge hrs => ?_⟩
                  have hbl : BndL s.nx (old ++ new) := BndL_iff.2 fun q hq => by
                    rcases List.mem_append.1 hq with hq | hq
                    · exact BndL_iff.1 o3 q hq
                    · exact BndL_iff.1 hnew q hq
                  have hrows : (⟨concL R old⟩ : Array Value) ++ ⟨concL R new⟩ ++ rest = ⟨concL R (old ++ new) ++ rest.toList⟩ := by
                    apply Array.ext'
                    simp [concL_append]
                  rw [hrows]
                  exact new_grown (lo := lo) hR hlo h hbl c rest.toList (0, 0) (by
                    rw [List.length_append, o4, hnl, Array.length_toList, hrs, ← Nat.add_mul, ← Nat.add_mul, show m + n + (c - (m + n)) = c by omega]) (free_zero _) { w with drawn := w.drawn + 1 } rfl
                · simp at h
          · rename_i hcap
            have hcap : ¬ cap < big := fun e => by rw [Nat.ble_eq_true_of_le (Nat.succ_le_of_lt e)] at hcap; simp at hcap
            unfold appAny at h
            split at h
            · simp at h
            · rename_i b o
              split at h
              · rename_i hc4
                simp only [Bool.and_eq_true] at hc4
                obtain ⟨⟨hc5, hc6⟩, hs⟩ := hc4
                have hlb := Nat.le_of_ble_eq_true hc5
                have ho : o = 0 := Nat.eq_of_beq_eq_true hc6
                subst ho
                unfold appRow at h
                split at h
                · rename_i l e' cc esz' hg
                  split at h
                  · simp at h
                  · rename_i hc7
                    simp only [Bool.and_eq_true] at hc7
                    obtain ⟨⟨q1, q2⟩, q3⟩ := hc7
                    have q1 : esz' = esz := Nat.eq_of_beq_eq_true q1
                    have q2 : e' = e := Nat.eq_of_beq_eq_true q2
                    have q3 : cap = big + cc := Nat.eq_of_beq_eq_true q3
                    subst q1 q2 q3
                    obtain ⟨ob, hob, hr⟩ := hR.live b _ hg
                    have hlt := hR.lt hg
                    have hcc : R.c (big + cc) = R.cap cc := by
                      have z2 : big + cc - big = cc := by omega
                      simp only [Ren.c]
                      rw [if_neg hcap, z2]
                    rw [hcc]
                    cases ob <;> simp only [ORel] at hr
                    rename_i c0 e0 fz
                    obtain ⟨rfl, r1, r2, r3, r4⟩ := hr
                    have hxe := i4 b 0 rfl
                    subst hxe
                    split at h
                    · rename_i hin
                      have hin := Nat.le_of_ble_eq_true hin
                      left
                      have : len + n ≤ R.cap cc := Nat.le_of_mul_le_mul_right (by omega : (len + n) * esz' ≤ R.cap cc * esz') hpos
                      refine ⟨this, ?_⟩
                      cases hst : storeCellsX lo s b (len * esz') new with
                      | none => simp [hst, slcOf] at h
                      | some s1 =>
                        simp only [hst, slcOf] at h
                        obtain ⟨rfl, rfl⟩ := Prod.mk.inj (Option.some.inj h)
                        obtain ⟨w', g1, g2, g3, g4, _⟩ := run_storeX (P := P) hR hst hnew
                        refine ⟨R, w', ?_, by simp [conc, hcc], g2, g3, ?_⟩
                        · simp only [Option.map_some, Addr.add_mk, Nat.zero_add]; exact g1
                        · have := i2 _ hx _ rfl
                          simp only [Bnd, g4]; exact this
                    · rename_i hin
                      split at h
                      · rename_i hc8
                        simp only [Bool.and_eq_true] at hc8
                        have hl : len * esz' = l.length := Nat.eq_of_beq_eq_true hc8.1
                        rw [putK_eq] at h
                        have hbl : BndL s.nx (l ++ new) := BndL_iff.2 fun q hq => by
                          rcases List.mem_append.1 hq with hq | hq
                          · exact BndL_iff.1 (hR.bnd b _ hg).2.row q hq
                          · exact BndL_iff.1 hnew q hq
                        by_cases hroom : len + n ≤ R.cap cc
                        · left
                          refine ⟨hroom, ?_⟩
                          have hle : (len + n) * esz' ≤ c0.size := by rw [r2]; exact Nat.mul_le_mul_right _ hroom
                          rw [Nat.add_mul] at hle
                          have hrun := run_storeCells (P := P) (R.blk b) (len * esz') _ fz (concL R new) 0 w c0 hlt hob (by simp [hnl]; omega) r4 (by
                            intro q hq
                            rw [concL_map] at hq
                            obtain ⟨y, hy, rfl⟩ := List.mem_map.1 hq
                            exact conc_one (List.all_eq_true.1 hc2 y hy))
                          unfold appNew at h
                          split at h
                          · rename_i hq
                            have hq : s.nx < lim := Nat.le_of_ble_eq_true hq
                            rw [listK_eq, addK_eq] at h
                            obtain ⟨rfl, rfl⟩ := Prod.mk.inj (Option.some.inj h)
                            have hag := R.name_agree s.nx (R.blk b) (R.cap cc)
                            have hren := rel_rename (lo := lo) hR hlo hq hg hlb (R.cap cc) (o' := .row (l ++ new) e' (.gr s.nx esz')) (x := .cells (over' c0 (len * esz' + 0) (concL R new)) e' fz) rfl ⟨hbl.mono (Nat.le_succ _), Nat.lt_succ_self _⟩ (by
                              simp only [ORel]
                              refine ⟨trivial, fun i u hu => ?_, by rw [over'_size]; simpa using r2, by rw [over'_size, List.length_append, hnl, ← hl]; omega, by rw [over'_size]; exact r4⟩
                              rw [over'_get _ _ _ _ (by simp [hnl]; omega)]
                              simp only [concL_length, Nat.add_zero]
                              have hub := conc_agree hag (BndL_get hbl hu)
                              rw [hub]
                              by_cases hi : i < l.length
                              · rw [List.getElem?_append_left hi] at hu
                                rw [if_neg (by omega)]
                                exact r1 i u hu
                              · have hi' := (List.getElem?_eq_some_iff.1 hu).1
                                rw [List.getElem?_append_right (by omega)] at hu
                                rw [List.length_append] at hi'
                                rw [if_pos (by omega), concL_getElem?, hl, hu]
                                rfl)
                            refine ⟨R.name s.nx (R.blk b) (R.cap cc), _, ?_, ?_, hren.1, hren.2, ?_⟩
                            · simp only [Option.map_some, Addr.add_mk, Nat.zero_add]; exact hrun
                            · have z1 : ¬ big + s.nx < big := by omega
                              have z2 : big + s.nx - big = s.nx := by omega
                              simp only [conc, Ren.c, Option.map_some]
                              show Value.slice _ _ (if big + s.nx < big then _ else _) = _
                              rw [if_neg z1]
                              show Value.slice _ _ ((R.name s.nx (R.blk b) (R.cap cc)).cap (big + s.nx - big)) = _
                              rw [z2, Ren.name_cap]
                              have z3 : (R.name s.nx (R.blk b) (R.cap cc)).blk (s.put b none).nx = R.blk b := Ren.name_blk R s.nx _ _
                              rw [z3]
                            · simp only [Bnd]
                              show s.nx < s.nx + 1 ∧ (big + s.nx < big ∨ big + s.nx - big < s.nx + 1)
                              omega
                          · simp at h
                        · right
                          obtain ⟨s1, s2⟩ := hsmall hs (by omega : R.cap cc < len + n)
                          have hrow : cellsX s b 0 (len * esz') = some l := by
                            have : ∀ (q : List AV), takeN q.length q = some q := by
                              intro q
                              induction q with
                              | nil => rfl
                              | cons y q ih => simp [takeN, ih]
                            simp only [cellsX, hg, List.drop_zero, hl, this]
                          refine ⟨hroom, s1, s2, ⟨concL R l⟩, by simp [hl], fun d => by simp only [conc, Builtin.firstCells]; exact run_loadCells (hR.drawn d) hrow, fun c rest hcge hrs => ?_⟩
                          obtain ⟨d1, d2⟩ := rel_drop hR hg hlb
                          have hrows : (⟨concL R l⟩ : Array Value) ++ ⟨concL R new⟩ ++ rest = ⟨concL R (l ++ new) ++ rest.toList⟩ := by
                            apply Array.ext'
                            simp [concL_append]
                          rw [hrows]
                          obtain ⟨R', g1, g2, g3, g4⟩ := new_grown (lo := lo) d1 hlo h hbl c rest.toList (0, 0) (by
                            rw [List.length_append, ← hl, hnl, Array.length_toList, hrs, ← Nat.add_mul, ← Nat.add_mul, show len + n + (c - (len + n)) = c by omega]) (free_zero _) { w with drawn := w.drawn + 1 } rfl
                          exact ⟨R', g1, g2, d2.trans g3, g4⟩
                      · simp at h
                · simp at h
              · simp at h

end
end Go.Vx
