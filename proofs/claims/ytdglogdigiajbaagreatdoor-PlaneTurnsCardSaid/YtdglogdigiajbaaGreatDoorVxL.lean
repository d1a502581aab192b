/-
  A run told in advance, part twelve: lookups, updates, iterators, built-in functions. No condition.
-/
import Derived.Test.YtdglogdigiajbaaGreatDoorVxK
import Derived.Laws.Append
import Derived.Laws.AppendOwn
set_option linter.unusedSectionVars false
set_option linter.unusedSimpArgs false
set_option linter.unusedVariables false
namespace Go.Vx
open Go.RowKit

theorem getMap {P : Program} {w : World} {r : Nat} {es : Array MapEntry} {clock : Nat} (hb : w.heap[r]? = some (.map es clock)) : (getObj r).run P w = .ok (.map es clock) w := by
  simp [getObj, Sem.run, hb]

theorem setMap {P : Program} {w : World} {r : Nat} {es : Array MapEntry} {clock : Nat} (o : Obj) (hb : w.heap[r]? = some (.map es clock)) : (setObj r o).run P w = .ok () { w with heap := w.heap.setIfInBounds r o } := by
  simp [setObj, Sem.run, hb]

section
variable {E : Env} {P : Program} (hE : E.Ok P) {lo : Nat} {R : Ren} {s s' : St} {w : World} {f : Fr} {a : Act} {v : AV} (hR : Rel R s w) (hF : FrOk R s.nx f a) (hlo : lo ≤ s.nx)

include hR in
theorem map_block {b : Nat} {es : List (AV × AV × Nat)} {clk : Nat} (h : s.get b = some (.mp es clk)) :
    w.heap[R.blk b]? = some (.map ⟨es.map (entryC R)⟩ clk) ∧ ∀ x ∈ es, Bnd s.nx x.1 ∧ Bnd s.nx x.2.1 := by
  obtain ⟨x, hx, hr⟩ := hR.live b _ h
  have hb := (hR.bnd b _ h).2
  cases x <;> simp only [ORel] at hr
  exact ⟨by rw [hx, hr.1, hr.2], hb⟩

theorem findX_mem {d : KD} {k u : AV} : ∀ {es : List (AV × AV × Nat)}, findX d k es = some (some u) → ∃ x ∈ es, x.2.1 = u
  | [], h => by
    unfold findX at h
    split at h <;> simp at h
  | e :: es, h => by
    unfold findX at h
    split at h
    · exact ⟨e, by simp, by simpa using h⟩
    · obtain ⟨x, hx, h2⟩ := findX_mem h
      exact ⟨x, by simp [hx], h2⟩
    · simp at h

include hE hR hF in
theorem lookup_ok {t : TypeId} {x k : Operand} {ok : Bool} (h : lookupX t x k ok E lo f s = some (v, s')) : Res P (do pure (.value (← Instr.lookup t (a.eval x) (a.eval k) ok))) lo R s w v s' := by
  unfold lookupX at h
  split at h
  · rename_i kt et hu
    split at h
    · simp at h
    · rename_i m hm
      split at h
      · simp at h
      · rename_i kk hk
        have h1 := hF.ev hm
        have h2 := hF.ev hk
        unfold lookupE at h
        split at h
        · simp at h
        · rename_i d hd
          split at h
          · simp at h
          · rename_i es hes
            cases hf : findX d kk es with
            | none => simp [hf, foundX] at h
            | some r =>
              have hform := findX_form hf
              obtain ⟨G, hG, hGf⟩ := search_ok hE (P := P) (R := R) hd hform w
              obtain ⟨j, hj⟩ := hG.find hf 0
              have hfind := hGf _ _ hj
              have hbnd : ∀ x ∈ es, Bnd s.nx x.1 ∧ Bnd s.nx x.2.1 := by
                unfold entriesOf at hes
                split at hes
                · obtain rfl := Option.some.inj hes; simp
                · split at hes
                  · rename_i es' clk hg
                    obtain rfl := Option.some.inj hes
                    exact (map_block hR hg).2
                  · simp at hes
                · simp at hes
              have hrun : ∀ (z : AV) (is : Bool), (r = some z ∧ is = true ∨ r = none ∧ is = false ∧ ∃ zz, E.zero et = some zz ∧ z = zz) →
                  (Instr.lookup t (a.eval x) (a.eval k) ok).run P w = .ok (if ok then .tuple #[conc R z, .bool is] else conc R z) w := by
                intro z is hz
                have hck := fun em => checkKey_ok hE (P := P) (R := R) hd hform em w
                simp only [Instr.lookup, Sem.run_bind, run_und hE hu, Result.andThen_ok, h1.1, h2.1]
                unfold entriesOf at hes
                split at hes
                · obtain rfl := Option.some.inj hes
                  simp only [List.map_nil] at hfind
                  rcases hz with ⟨rfl, rfl⟩ | ⟨rfl, rfl, zz, hzz, rfl⟩
                  · simp only [conc, Sem.run_bind, Sem.run_pure, Result.andThen_ok, hck, hfind, Option.map_some]
                  · simp only [conc, Sem.run_bind, Sem.run_pure, Result.andThen_ok, hck, hfind, Option.map_none, (run_zero hE R hzz).1]
                · split at hes
                  · rename_i b es' clk hg
                    obtain rfl := Option.some.inj hes
                    have hblk := (map_block hR hg).1
                    rcases hz with ⟨rfl, rfl⟩ | ⟨rfl, rfl, zz, hzz, rfl⟩
                    · simp only [conc, Sem.run_bind, Sem.run_pure, Result.andThen_ok, getMap hblk, hck, hfind, Option.map_some]
                    · simp only [conc, Sem.run_bind, Sem.run_pure, Result.andThen_ok, getMap hblk, hck, hfind, Option.map_none, (run_zero hE R hzz).1]
                  · simp at hes
                · simp at hes
              simp only [hf, foundX] at h
              cases r with
              | some u =>
                obtain ⟨q, hq, rfl⟩ := findX_mem hf
                have hb := (hbnd q hq).2
                simp only [okX] at h
                cases ok
                · obtain ⟨rfl, rfl⟩ := Prod.mk.inj (Option.some.inj h)
                  exact res_val hR (by rw [hrun _ true (.inl ⟨rfl, rfl⟩)]; simp) hb
                · obtain ⟨rfl, rfl⟩ := Prod.mk.inj (Option.some.inj h)
                  exact res_val hR (by rw [hrun _ true (.inl ⟨rfl, rfl⟩)]; simp [conc, concL]) (by simp [Bnd, BndL, hb])
              | none =>
                simp only at h
                split at h
                · rename_i z hz
                  have hb := (run_zero hE (P := P) R hz).2.mono (Nat.zero_le s.nx)
                  simp only [okX] at h
                  cases ok
                  · obtain ⟨rfl, rfl⟩ := Prod.mk.inj (Option.some.inj h)
                    exact res_val hR (by rw [hrun _ false (.inr ⟨rfl, rfl, _, hz, rfl⟩)]; simp) hb
                  · obtain ⟨rfl, rfl⟩ := Prod.mk.inj (Option.some.inj h)
                    exact res_val hR (by rw [hrun _ false (.inr ⟨rfl, rfl, _, hz, rfl⟩)]; simp [conc, concL]) (by simp [Bnd, BndL, hb])
                · simp at h
  · simp at h

theorem heap_setIfInBounds {w : World} {i : Nat} {o : Obj} (h : i < w.heap.size) : w.heap.setIfInBounds i o = w.heap.set i o h := by
  simp [Array.setIfInBounds, h]

include hE hR hF in
theorem mapUpdate_ok {t : TypeId} {x k y : Operand} (h : mapUpdateX t x k y E lo f s = some (v, s')) : Res P (do Instr.mapUpdate t (a.eval x) (a.eval k) (a.eval y); pure .skip) lo R s w v s' := by
  unfold mapUpdateX at h
  split at h
  · rename_i kt et hu
    split at h
    · simp at h
    · rename_i m hm
      split at h
      · simp at h
      · rename_i kk hk
        split at h
        · simp at h
        · rename_i u huv
          have h1 := hF.ev hm
          have h2 := hF.ev hk
          have h3 := hF.ev huv
          unfold updateV at h
          split at h
          · rename_i b
            split at h
            · rename_i d hd
              unfold updateE at h
              split at h
              · simp at h
              · rename_i hlb
                have hlb := Nat.le_of_ble_eq_true ((Bool.and_eq_true _ _).mp hlb).1
                split at h
                · rename_i es clk hg
                  obtain ⟨hblk, hbnd⟩ := map_block hR hg
                  have hlt := hR.lt hg
                  cases hup : updX d kk u clk es with
                  | none => simp [hup, putMap] at h
                  | some r =>
                    obtain ⟨es', n⟩ := r
                    have hform := updX_form hup
                    obtain ⟨G, hG, hGf⟩ := search_ok hE (P := P) (R := R) hd hform w
                    have hU := hG.upd hup
                    cases n with
                    | true =>
                      obtain ⟨e1, e2⟩ := hU.1 rfl
                      have hfind := hGf _ _ (e2 0)
                      simp only [hup, putMap, putK_eq] at h
                      obtain ⟨rfl, rfl⟩ := Prod.mk.inj (Option.some.inj h)
                      have hupd := rel_upd (lo := lo) hR hg hlb (o' := .mp es' (Nat.succ clk)) (x := .map ⟨es'.map (entryC R)⟩ (clk + 1)) rfl (by
                        intro q hq
                        rw [e1, List.mem_append] at hq
                        rcases hq with hq | hq
                        · exact hbnd q hq
                        · simp at hq; subst hq; exact ⟨h2.2, h3.2⟩) (by simp [ORel])
                      refine ⟨R, .skip, _, ?_, .inr ⟨rfl, rfl⟩, hupd.1, hupd.2, by simp [Bnd, BndL]⟩
                      simp only [Instr.mapUpdate, Sem.run_bind, run_und hE hu, Result.andThen_ok, h1.1, h2.1, h3.1, conc, getMap hblk, checkKey_ok hE hd hform, hfind, setMap _ hblk, heap_setIfInBounds hlt, Sem.run_pure]
                      rw [e1]
                      simp [entryC]
                    | false =>
                      obtain ⟨j, e, g1, g2, g3, g4⟩ := hU.2 rfl
                      obtain ⟨q, hq⟩ := g4 0
                      rw [Nat.zero_add] at hq
                      have hfind := hGf _ _ hq
                      simp only [hup, putMap, putK_eq] at h
                      obtain ⟨rfl, rfl⟩ := Prod.mk.inj (Option.some.inj h)
                      have hupd := rel_upd (lo := lo) hR hg hlb (o' := .mp es' clk) (x := .map ⟨es'.map (entryC R)⟩ clk) rfl (by
                        intro z hz
                        rw [g3] at hz
                        rcases List.mem_or_eq_of_mem_set hz with hz | hz
                        · exact hbnd z hz
                        · subst hz; exact ⟨h2.2, h3.2⟩) (by simp [ORel])
                      refine ⟨R, .skip, _, ?_, .inr ⟨rfl, rfl⟩, hupd.1, hupd.2, by simp [Bnd, BndL]⟩
                      have hkey : ((((⟨es.map (entryC R)⟩ : Array MapEntry)[j]?).map (·.key)).getD (conc R kk)) = conc R kk := by
                        simp [g1, entryC, g2]
                      have hstay : (Instr.keyThatStays (conc R kk) (conc R kk)).run P w = .ok (conc R kk) w := by
                        unfold Instr.keyThatStays
                        rw [show (10000 : Nat) = 9999 + 1 from rfl, sameBits_key hform 9999]
                        rfl
                      simp only [Instr.mapUpdate, Sem.run_bind, run_und hE hu, Result.andThen_ok, h1.1, h2.1, h3.1, conc, getMap hblk, checkKey_ok hE hd hform, hfind, hkey, hstay, setMap _ hblk, heap_setIfInBounds hlt, Sem.run_pure]
                      congr 3
                      congr 1
                      apply Array.ext_getElem?
                      intro i
                      rw [g3, Array.getElem?_modify]
                      simp only [List.getElem?_toArray, List.getElem?_map, List.getElem?_set]
                      have hj : j < es.length := (List.getElem?_eq_some_iff.1 g1).1
                      by_cases hi : j = i
                      · subst hi
                        have he : es[j] = e := (List.getElem?_eq_some_iff.1 g1).2
                        simp [hj, he, entryC]
                      · simp [hi]
                · simp at h
            · simp at h
          · simp at h
  · simp at h

include hE hR hF hlo in
theorem range_ok {t : TypeId} {x : Operand} (h : rangeX t x E lo f s = some (v, s')) : Res P (do pure (.value (← Instr.range t (a.eval x)))) lo R s w v s' := by
  have fin : ∀ {sem : Sem Value} (o : AO) (x : Obj), newObjX s o (.ptr s.nx 0) = some (v, s') → OBnd s.nx o → ORel R o x → sem.run P w = .ok (.pointer (some ⟨w.heap.size, 0, none⟩)) { w with heap := w.heap.push x } →
      Res P (do pure (.value (← sem))) lo R s w v s' := by
    intro sem o x h hb hr hs
    obtain ⟨h1, R', h2, h3, h4, h5⟩ := new_obj hR hlo h x hb hr
    simp only at h1 h3 h4 h5
    subst h1
    exact ⟨R', _, _, by simp [hs]; rfl, .inl (by simp [conc, h2]), h3, h4, by simp [Bnd, h5]⟩
  unfold rangeX at h
  split at h
  · simp at h
  · rename_i d hd
    split at h
    · simp at h
    · rename_i p hp
      have h1 := hF.ev hp
      unfold rangeD at h
      split at h
      · split at h
        · rename_i l
          refine fin _ (.stringIter ⟨⟨l⟩⟩ 0) h trivial (by simp [ORel]) ?_
          simp [Instr.range, run_und hE hd, h1.1, conc]
        · simp at h
      · split at h
        · refine fin _ (.mapIter none 0 #[] 0) h (by intro r hr; simp at hr) (by simp [ORel]) ?_
          simp [Instr.range, run_und hE hd, h1.1, conc]
        · rename_i m
          split at h
          · rename_i es clk hg
            have hblk := (map_block hR hg).1
            refine fin _ (.mapIter (some (R.blk m)) clk #[] clk) h (by intro r hr; simp at hr; subst hr; have := h1.2; simpa only [Bnd] using this) (by simp [ORel]) ?_
            simp [Instr.range, run_und hE hd, h1.1, conc, getMap hblk]
          · simp at h
        · simp at h
      · simp at h

include hR hF in
theorem next_ok {x : Operand} {isS : Bool} {ty : TypeId} (h : nextX x isS E lo f s = some (v, s')) : Res P (do pure (.value (← Instr.next (a.eval x) isS ty))) lo R s w v s' := by
  unfold nextX at h
  split at h
  · rename_i b hp
    have h1 := hF.ev hp
    split at h
    · rename_i hlb
      have hlb := Nat.le_of_ble_eq_true hlb
      unfold nextV at h
      split at h
      · rename_i l p hg
        split at h
        · obtain ⟨o, ho, hr⟩ := hR.live b _ hg
          have hlt := hR.lt hg
          cases o <;> simp only [ORel] at hr
          rw [hr.1, hr.2] at ho
          have hget : (getObj (R.blk b)).run P w = .ok (.stringIter ⟨⟨l⟩⟩ p) w := by simp [getObj, Sem.run, ho]
          unfold nextStr at h
          split at h
          · rename_i hpl
            have hpl : p < l.length := Nat.le_of_ble_eq_true hpl
            rw [natK_eq, natK_eq, putK_eq] at h
            obtain ⟨rfl, rfl⟩ := Prod.mk.inj (Option.some.inj h)
            have hset : ∀ o', (setObj (R.blk b) o').run P w = .ok () { w with heap := w.heap.set (R.blk b) o' hlt } := by
              intro o'
              simp [setObj, Sem.run, ho, heap_setIfInBounds hlt]
            have hupd := rel_upd (lo := lo) hR hg hlb (o' := .sit l (Nat.add p (stringAt l p).2)) (x := .stringIter ⟨⟨l⟩⟩ (p + (stringAt l p).2)) rfl trivial (by simp [ORel])
            refine ⟨R, _, _, ?_, .inl rfl, hupd.1, hupd.2, by simp [Bnd, BndL]⟩
            simp only [Instr.next, Sem.run_bind, h1.1, conc, hget, Result.andThen_ok]
            have hsz : (⟨⟨l⟩⟩ : ByteArray).size = l.length := rfl
            rw [if_pos (by rw [hsz]; exact hpl)]
            simp [hset, stringAt, concL, conc, goInt]
          · rename_i hpl
            have hpl : ¬ p < l.length := fun e => by
              have := Nat.ble_eq_true_of_le (Nat.succ_le_of_lt e)
              rw [this] at hpl; simp at hpl
            obtain ⟨rfl, rfl⟩ := Prod.mk.inj (Option.some.inj h)
            refine res_val hR ?_ (by simp [over, Bnd, BndL])
            simp only [Instr.next, Sem.run_bind, h1.1, conc, hget, Result.andThen_ok]
            have hsz : (⟨⟨l⟩⟩ : ByteArray).size = l.length := rfl
            rw [if_neg (by rw [hsz]; exact hpl)]
            simp [over, conc, concL]
        · simp at h
      · rename_i m since seen last hg
        obtain ⟨o, ho, hr⟩ := hR.live b _ hg
        cases o <;> simp only [ORel] at hr
        obtain ⟨rfl, rfl, rfl, rfl⟩ := hr
        split at h
        · simp at h
        · split at h
          · obtain ⟨rfl, rfl⟩ := Prod.mk.inj (Option.some.inj h)
            have hget : ∀ m' c d e, w.heap[R.blk b]? = some (.mapIter m' c d e) → (getObj (R.blk b)).run P w = .ok (.mapIter m' c d e) w := by intro m' c d e hh; simp [getObj, Sem.run, hh]
            refine res_val hR ?_ (by simp [over, Bnd, BndL])
            simp only [Instr.next, Sem.run_bind, h1.1, conc, hget _ _ _ _ ho, Result.andThen_ok]
            simp [over, conc, concL]
          · rename_i m'
            unfold nextMap at h
            split at h
            · rename_i clk hgm
              obtain ⟨rfl, rfl⟩ := Prod.mk.inj (Option.some.inj h)
              have hblk : w.heap[R.blk m']? = some (.map #[] clk) := (map_block hR hgm).1
              have hget : ∀ m' c d e, w.heap[R.blk b]? = some (.mapIter m' c d e) → (getObj (R.blk b)).run P w = .ok (.mapIter m' c d e) w := by intro m' c d e hh; simp [getObj, Sem.run, hh]
              refine res_val hR ?_ (by simp [over, Bnd, BndL])
              simp only [Instr.next, Sem.run_bind, h1.1, conc, hget _ _ _ _ ho, Result.andThen_ok, Option.map_some, getMap hblk]
              have hfil : ∀ q : MapEntry → Bool, Array.filter q (#[] : Array MapEntry) 0 0 = #[] := fun _ => rfl
              simp [over, conc, concL, Question.forced, hfil]
            · simp at h
      · simp at h
    · simp at h
  · simp at h

end
end Go.Vx
