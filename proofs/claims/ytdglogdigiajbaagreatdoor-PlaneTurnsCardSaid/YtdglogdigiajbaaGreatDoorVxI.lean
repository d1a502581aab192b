/-
  A run told in advance, part nine: conversions, slices, maps, iterators. No condition.
-/
import Derived.Test.YtdglogdigiajbaaGreatDoorVxH
import Derived.Laws.BytesString
import Derived.MapKept
import Derived.Lib.Builder
set_option linter.unusedSectionVars false
set_option linter.unusedSimpArgs false
set_option linter.unusedVariables false
namespace Go.Vx
open Go.RowKit

theorem bytesOf_ok {R : Ren} : ∀ {cs : List AV} {l : List UInt8}, bytesOf cs = some l → ∃ ns : List Int, concL R cs = ns.map (Value.int .u8) ∧ l = ns.map fun n => UInt8.ofNat n.toNat
  | [], l, h => by simp [bytesOf] at h; subst h; exact ⟨[], by simp [concL], rfl⟩
  | c :: cs, l, h => by
    unfold bytesOf at h
    split at h
    · rename_i he; simp at he
    · rename_i n r he
      obtain ⟨rfl, rfl⟩ := List.cons.inj he
      split at h
      · rename_i m hm
        obtain rfl := Option.some.inj h
        obtain ⟨ns, h1, rfl⟩ := bytesOf_ok (R := R) hm
        exact ⟨n :: ns, by simp [concL, conc, h1], rfl⟩
      · simp at h
    · simp at h

theorem foldl_push (ns : List Int) : ∀ (r : List UInt8), ns.foldl (fun (r : ByteArray) n => r.push (UInt8.ofNat n.toNat)) ⟨⟨r⟩⟩ = ⟨⟨r ++ ns.map fun n => UInt8.ofNat n.toNat⟩⟩ := by
  induction ns with
  | nil => intro r; simp
  | cons n ns ih =>
    intro r
    simp only [List.foldl_cons, List.map_cons]
    have : (⟨⟨r⟩⟩ : ByteArray).push (UInt8.ofNat n.toNat) = ⟨⟨r ++ [UInt8.ofNat n.toNat]⟩⟩ := by
      simp [ByteArray.push]
    rw [this, ih]
    simp

theorem run_bytes_string {P : Program} {R : Ren} {s : St} {w : World} (hR : Rel R s w) {b o n cap : Nat} {cs : List AV} {l : List UInt8} (hc : cellsX s b o n = some cs) (hl : bytesOf cs = some l) :
    (Conv.bytesToString (.slice (some ⟨R.blk b, o, none⟩) n cap)).run P w = .ok (.string ⟨⟨l⟩⟩) w := by
  obtain ⟨ns, h1, rfl⟩ := bytesOf_ok (R := R) hl
  rw [run_bytesToString w _ n cap ns (by rw [run_loadCells hR hc, h1])]
  have := foldl_push ns []
  rw [show ByteArray.empty = ⟨⟨[]⟩⟩ from rfl, this]
  simp

section
variable {E : Env} {P : Program} (hE : E.Ok P) {lo : Nat} {R : Ren} {s s' : St} {w : World} {f : Fr} {a : Act} {v : AV} (hR : Rel R s w) (hF : FrOk R s.nx f a) (hlo : lo ≤ s.nx)

theorem byteCells_conc (R : Ren) (l : List UInt8) : concL R (byteCells l) = l.map fun b => Value.int .u8 b.toNat := by
  simp [concL_map, byteCells, conc]

theorem byteCells_bnd (n : Nat) (l : List UInt8) : BndL n (byteCells l) := BndL_iff.2 fun v hv => by
  simp only [byteCells, List.mem_map] at hv
  obtain ⟨b, _, rfl⟩ := hv
  simp [Bnd]

/-- A new row that may have more room than is known. -/
theorem new_grown (hR : Rel R s w) (hlo : lo ≤ s.nx) {e esz n : Nat} {l : List AV} {v : AV} {s' : St} (h : appNew s e esz n l = some (v, s')) (hb : BndL s.nx l) (cap : Nat) (rest : List Value) (fz : Nat × Nat)
    (hc : l.length + rest.length = cap * esz) (hf : Free (l.length + rest.length) fz) (w0 : World) (hw0 : w0 = { w with drawn := w0.drawn }) :
    ∃ R', conc R' v = .slice (some ⟨w.heap.size, 0, none⟩) n cap ∧ Rel R' s' { w0 with heap := w.heap.push (.cells ⟨concL R l ++ rest⟩ e fz) } ∧
      Mv lo R s w R' s' { w0 with heap := w.heap.push (.cells ⟨concL R l ++ rest⟩ e fz) } ∧ Bnd s'.nx v := by
  unfold appNew at h
  split at h
  · rename_i hq
    have hq : s.nx < lim := Nat.le_of_ble_eq_true hq
    rw [listK_eq, addK_eq] at h
    obtain ⟨rfl, rfl⟩ := Prod.mk.inj (Option.some.inj h)
    have hag := R.name_agree s.nx w.heap.size cap
    have := rel_new (lo := lo) hR hlo hq (.row l e (.gr s.nx esz)) (.cells ⟨concL R l ++ rest⟩ e fz) cap ⟨hb.mono (Nat.le_succ _), Nat.lt_succ_self _⟩ (by
      simp only [ORel]
      refine ⟨trivial, fun i u hu => ?_, by simp [hc], by simp, by simpa using hf⟩
      have hi : i < l.length := (List.getElem?_eq_some_iff.1 hu).1
      rw [List.getElem?_toArray, List.getElem?_append_left (by simpa using hi), concL_getElem?, hu]
      simp [conc_agree hag (BndL_get hb hu)])
    have e1 : ({ w0 with heap := w.heap.push (.cells ⟨concL R l ++ rest⟩ e fz) } : World) = { ({ w with heap := w.heap.push (.cells ⟨concL R l ++ rest⟩ e fz) } : World) with drawn := w0.drawn } := by
      rw [hw0]
    refine ⟨R.name s.nx w.heap.size cap, ?_, ?_, ?_, ?_⟩
    · simp [conc, Ren.c]
      have : ¬ big + s.nx < big := by omega
      simp [this]
    · rw [e1]; exact this.1.drawn _
    · rw [e1]; exact this.2.trans (Mv.drawn _)
    · simp only [Bnd]
      show s.nx < s.nx + 1 ∧ (big + s.nx < big ∨ big + s.nx - big < s.nx + 1)
      omega
  · simp at h

theorem run_stringToBytes (w : World) (e : TypeId) (l : List UInt8) (cap : Nat) (hcap : cap = (Question.appendCap l.length 0 e).cut (w.tape w.drawn (Question.appendCap l.length 0 e))) (c : Array Value)
    (hc : (⟨⟨l⟩⟩ : ByteArray).data.map (fun b => Value.int .u8 b.toNat) ++ Array.replicate (cap - l.length) (Value.int .u8 0) = c) (hs : c.size = cap) :
    (Conv.stringToBytes e ⟨⟨l⟩⟩).run P w = .ok (.slice (some ⟨w.heap.size, 0, none⟩) l.length cap) { w with drawn := w.drawn + 1, heap := w.heap.push (.cells c e (cap, cap + 1)) } := by
  have h1 : (⟨⟨l⟩⟩ : ByteArray).size = l.length := rfl
  have h2 : (Question.appendCap l.length 0 e).forced = false := rfl
  simp only [Conv.stringToBytes, Sem.run_bind, h1, run_choose, h2, Bool.false_eq_true, if_false, Result.andThen_ok, ← hcap, hc, newRow, run_newObj, Sem.run_pure, markStringish, run_shape]
  have h3 : World.shape? { w with drawn := w.drawn + 1, heap := w.heap.push (.cells c e) } w.heap.size = some (e, c.size) := by simp [World.shape?]
  simp only [h3, run_freeze, Result.andThen_ok, hs]
  congr 1
  simp only [World.freeze]
  rw [if_neg (by simp)]
  congr 1
  apply Array.ext_getElem?
  intro j
  rw [Array.getElem?_modify]
  by_cases hj : w.heap.size = j
  · subst hj; simp
  · rw [if_neg hj, Array.getElem?_push, Array.getElem?_push, if_neg (by omega), if_neg (by omega)]

theorem row_shape (hR : Rel R s w) {b : Nat} {l : List AV} {e : TypeId} {k : RK} (hg : s.get b = some (.row l e k)) : ∃ e' n, w.shape? (R.blk b) = some (e', n) ∧ l.length ≤ n ∧ (writable k = true → e' = e) := by
  obtain ⟨x, hx, hr⟩ := hR.live b _ hg
  have key : ∃ c e' fz, x = .cells c e' fz ∧ l.length ≤ c.size ∧ (writable k = true → e' = e) := by
    cases k <;> cases x <;> simp only [ORel] at hr
    · exact ⟨_, _, _, rfl, by
        rcases Nat.lt_or_ge l.length 1 with h | h
        · omega
        · have hl : l.length - 1 < l.length := by omega
          have := hr.2 (l.length - 1) _ (List.getElem?_eq_getElem hl)
          have := (Array.getElem?_eq_some_iff.1 this).1
          omega, by simp [writable]⟩
    · exact ⟨_, _, _, rfl, by rw [hr.2.1]; simp, fun _ => hr.1.symm⟩
    · exact ⟨_, _, _, rfl, hr.2.2.2.1, fun _ => hr.1.symm⟩
  obtain ⟨c, e', fz, rfl, hc, he⟩ := key
  exact ⟨e', c.size, by simp [World.shape?, hx], hc, he⟩

theorem und_und (hE : E.Ok P) {t : TypeId} {d : TypeDesc} (h : E.und t = some d) : P.underlying t = some d := by
  unfold Env.und at h
  obtain ⟨x, hx, rfl⟩ := Option.map_eq_some_iff.1 h
  exact (hE.ty t x hx).2.1

theorem size_info (hE : E.Ok P) {t : TypeId} {n : Nat} (h : E.size t = some n) : ∃ j, P.info? t = some j ∧ j.size = n := by
  unfold Env.size at h
  obtain ⟨x, hx, rfl⟩ := Option.map_eq_some_iff.1 h
  exact ⟨x.i, (hE.ty t x hx).1, rfl⟩

theorem lies_head {e : TypeId} {count n : Nat} (hc : P.cellsOf e ≠ 0) (hn : n ≤ count) : liesAt P P.depth e count 0 e n = true := by
  have hd : P.depth = (2 * (P.types.size + Made.depth) + 1) + 1 := rfl
  rw [hd]
  simp only [liesAt, Bool.or_eq_true]
  left
  rw [hd]
  simp [rowAt, hc, hn, sameLayout]

theorem runesX_ok (R : Ren) (l : List UInt8) : ∀ n p acc, Conv.runesFrom ⟨⟨l⟩⟩ n p acc = acc ++ (⟨concL R (runesX l n p)⟩ : Array Value)
  | 0, p, acc => by simp [Conv.runesFrom, runesX, concL]
  | n + 1, p, acc => by
    have hs : (⟨⟨l⟩⟩ : ByteArray).size = l.length := rfl
    unfold Conv.runesFrom runesX
    rw [hs]
    by_cases h : p < l.length
    · have hb : Nat.ble (Nat.succ p) l.length = true := Nat.ble_eq_true_of_le h
      rw [if_pos h, hb]
      simp only [natK_eq, concL, conc]
      rw [runesX_ok R l n]
      apply Array.ext'
      simp [stringAt]
    · have hb : Nat.ble (Nat.succ p) l.length = false := by
        cases hh : Nat.ble (Nat.succ p) l.length
        · rfl
        · exact absurd (Nat.le_of_ble_eq_true hh) h
      rw [if_neg h, hb]
      simp [concL]

theorem runesX_bnd (n : Nat) (l : List UInt8) : ∀ m p, BndL n (runesX l m p)
  | 0, p => by simp [runesX, BndL]
  | m + 1, p => by
    unfold runesX
    split
    · simp only [natK_eq, BndL]
      exact ⟨by simp [Bnd], runesX_bnd n l m _⟩
    · simp [BndL]

theorem run_stringToRunes (w : World) (e : TypeId) (l : List UInt8) (m cap : Nat) (rs : Array Value) (hrs : Conv.runesFrom ⟨⟨l⟩⟩ l.length 0 #[] = rs) (hm : rs.size = m) (hcap : cap = (Question.appendCap m 0 e).cut (w.tape w.drawn (Question.appendCap m 0 e))) (c : Array Value)
    (hc : rs ++ Array.replicate (cap - m) (Value.int .i32 0) = c) :
    (Conv.stringToRunes e ⟨⟨l⟩⟩).run P w = .ok (.slice (some ⟨w.heap.size, 0, none⟩) m cap) { w with drawn := w.drawn + 1, heap := w.heap.push (.cells c e) } := by
  have h1 : (⟨⟨l⟩⟩ : ByteArray).size = l.length := rfl
  have h2 : (Question.appendCap m 0 e).forced = false := rfl
  simp only [Conv.stringToRunes, Sem.run_bind, h1, hrs, hm, run_choose, h2, Bool.false_eq_true, if_false, Result.andThen_ok, ← hcap, hc, newRow, run_newObj, Sem.run_pure]

include hE hR hF hlo in
theorem conv_ok {t u : TypeId} {x : Operand} (h : convX t u x E lo f s = some (v, s')) : Res P (do pure (.value (← convert t u (a.eval x)))) lo R s w v s' := by
  unfold convX at h
  split at h
  · simp at h
  · rename_i d hd
    split at h
    · simp at h
    · rename_i d' hd'
      split at h
      · simp at h
      · rename_i p hp
        have h1 := hF.ev hp
        have hc : (convert t u (a.eval x)).run P w = (convert t u (conc R p)).run P w := by rw [h1.1]
        unfold convD at h
        split at h
        · -- to unsafe.Pointer
          unfold convUp at h
          split at h
          · rename_i e
            split at h
            · obtain ⟨rfl, rfl⟩ := Prod.mk.inj (Option.some.inj h)
              refine res_val hR ?_ (by simp [Bnd])
              rw [hc]
              simp [convert, Conv.unsafePointer, run_und hE hd, run_und hE hd', conc]
            · rename_i b o
              split at h
              · rename_i n hn
                split at h
                · rename_i l e' k hg
                  split at h
                  · rename_i ho
                    have ho : o < l.length := Nat.le_of_ble_eq_true ho
                    obtain ⟨rfl, rfl⟩ := Prod.mk.inj (Option.some.inj h)
                    obtain ⟨e2, m, hsh, hm, _⟩ := row_shape hR hg
                    obtain ⟨j, hj, hjs⟩ := size_info hE hn
                    refine res_val hR ?_ h1.2
                    rw [hc]
                    have := Lib.run_to_unsafe (P := P) w ⟨R.blk b, o, none⟩ (und_und hE hd) (und_und hE hd') hj (by omega) hsh (show o < m by omega)
                    simp [conc, this]
                  · simp at h
                · simp at h
              · simp at h
            · simp at h
          · simp at h
        · -- from unsafe.Pointer
          rename_i u'
          unfold convUn at h
          split at h
          · split at h
            · obtain ⟨rfl, rfl⟩ := Prod.mk.inj (Option.some.inj h)
              refine res_val hR ?_ (by simp [Bnd])
              rw [hc]
              simp [convert, Conv.unsafePointer, run_und hE hd, run_und hE hd', conc]
            · rename_i b
              split at h
              · rename_i n hn
                split at h
                · rename_i l e' k hg
                  split at h
                  · rename_i ho
                    simp only [Bool.and_eq_true] at ho
                    have e1 : e' = u' := Nat.eq_of_beq_eq_true ho.1.1
                    have e2 := Nat.le_of_ble_eq_true ho.1.2
                    subst e1
                    obtain ⟨rfl, rfl⟩ := Prod.mk.inj (Option.some.inj h)
                    obtain ⟨e3, m, hsh, hm, he3⟩ := row_shape hR hg
                    rw [he3 ho.2] at hsh
                    obtain ⟨j, hj, hjs⟩ := size_info hE hn
                    have hcell : P.cellsOf e' = n + 1 := by simp [Program.cellsOf, hj, hjs]
                    refine res_val hR ?_ h1.2
                    rw [hc]
                    have := Lib.run_from_unsafe (P := P) w ⟨R.blk b, 0, none⟩ (und_und hE hd) (und_und hE hd') hj hsh (lies_head (by omega) (by
                      rw [hcell]
                      exact (Nat.le_div_iff_mul_le (by omega)).2 (by omega)))
                    simp [conc, this]
                  · simp at h
                · simp at h
              · simp at h
            · simp at h
          · simp at h
        · rename_i k
          unfold convInt at h
          split at h
          · obtain ⟨rfl, rfl⟩ := Prod.mk.inj (Option.some.inj h)
            refine res_val hR ?_ (by simp [Bnd])
            rw [hc]
            simp [convert, run_und hE hd, run_und hE hd', conc, Conv.intToInt, wrapF_eq]
          · simp at h
        · rename_i k
          unfold convFlt at h
          split at h
          · obtain ⟨h2, rfl⟩ := ret1_some h
            have h3 := runV_ok (P := P) R h2
            refine res_val hR ?_ (h3.2.mono (Nat.zero_le _))
            rw [hc]
            simp [convert, run_und hE hd, run_und hE hd', conc, h3.1]
          · obtain ⟨h2, rfl⟩ := ret1_some h
            have h3 := runV_ok (P := P) R h2
            refine res_val hR ?_ (h3.2.mono (Nat.zero_le _))
            rw [hc]
            simp [convert, run_und hE hd, run_und hE hd', conc, h3.1]
          · simp at h
        · unfold convStr at h
          split at h
          · obtain ⟨h2, rfl⟩ := ret1_some h
            have h3 := runV_ok (P := P) R h2
            refine res_val hR ?_ (h3.2.mono (Nat.zero_le _))
            rw [hc]
            simp [convert, run_und hE hd, run_und hE hd', conc, h3.1]
          · obtain ⟨rfl, rfl⟩ := Prod.mk.inj (Option.some.inj h)
            refine res_val hR ?_ (by simp [Bnd])
            rw [hc]
            simp [convert, run_und hE hd, run_und hE hd', conc]
          · split at h
            · rename_i e
              split at h
              · rename_i he
                unfold convBytes at h
                split at h
                · obtain ⟨rfl, rfl⟩ := Prod.mk.inj (Option.some.inj h)
                  refine res_val hR ?_ (by simp [Bnd])
                  rw [hc]
                  simp [convert, run_und hE hd, run_und hE hd', run_und hE he, conc, Conv.bytesToString, ByteArray.empty, ByteArray.emptyWithCapacity]
                  rfl
                · rename_i b o l c
                  split at h
                  · rename_i cs hcs
                    cases hb : bytesOf cs with
                    | none => simp [hb, strOf] at h
                    | some m =>
                      simp only [hb, strOf, Option.some.injEq, Prod.mk.injEq] at h
                      obtain ⟨rfl, rfl⟩ := h
                      refine res_val hR ?_ (by simp [Bnd])
                      rw [hc]
                      simp [convert, run_und hE hd, run_und hE hd', run_und hE he, conc, run_bytes_string hR hcs hb]
                  · simp at h
                · simp at h
              · simp at h
            · simp at h
        · rename_i e
          unfold convSl at h
          split at h
          · rename_i l
            split at h
            · rename_i he
              let q := Question.appendCap l.length 0 e
              let cap := q.cut (w.tape w.drawn q)
              have hcap : l.length ≤ cap := by simp only [cap, q, Question.cut]; omega
              obtain ⟨R', g1, g2, g3, g4⟩ := new_grown hR hlo h (byteCells_bnd _ l) cap (List.replicate (cap - l.length) (.int .u8 0)) (cap, cap + 1)
                (by simp [byteCells]; omega) (by intro i hi; simp [byteCells] at hi; omega) { w with drawn := w.drawn + 1 } rfl
              refine ⟨R', _, _, ?_, .inl rfl, g2, g3, g4⟩
              rw [g1, h1.1]
              have hsz : (⟨concL R (byteCells l) ++ List.replicate (cap - l.length) (.int .u8 0)⟩ : Array Value).size = cap := by simp [byteCells]; omega
              have hcells : (⟨⟨l⟩⟩ : ByteArray).data.map (fun b => Value.int .u8 b.toNat) ++ Array.replicate (cap - l.length) (Value.int .u8 0) = ⟨concL R (byteCells l) ++ List.replicate (cap - l.length) (.int .u8 0)⟩ := by
                rw [byteCells_conc]
                apply Array.ext'
                simp
              have hst := run_stringToBytes (P := P) w e l cap rfl _ hcells hsz
              simp only [convert, Sem.run_bind, run_und hE hd, run_und hE hd', run_und hE he, conc, Result.andThen_ok, hst, Sem.run_pure]
            · rename_i he
              unfold runeNew at h
              let m := (runesX l l.length 0).length
              let q := Question.appendCap m 0 e
              let cap := q.cut (w.tape w.drawn q)
              have hcap : m ≤ cap := by simp only [cap, q, Question.cut]; omega
              obtain ⟨R', g1, g2, g3, g4⟩ := new_grown hR hlo h (runesX_bnd _ l _ _) cap (List.replicate (cap - m) (.int .i32 0)) (0, 0)
                (by simp [m] at hcap ⊢; omega) (by intro i hi; simp) { w with drawn := w.drawn + 1 } rfl
              refine ⟨R', _, _, ?_, .inl rfl, g2, g3, g4⟩
              rw [g1, h1.1]
              have hrs := runesX_ok R l l.length 0 #[]
              rw [Array.empty_append] at hrs
              have hst := run_stringToRunes (P := P) w e l m cap _ hrs (by simp [m]) rfl ⟨concL R (runesX l l.length 0) ++ List.replicate (cap - m) (.int .i32 0)⟩ (by apply Array.ext'; simp)
              simp only [convert, Sem.run_bind, run_und hE hd, run_und hE hd', run_und hE he, conc, Result.andThen_ok, hst, Sem.run_pure]
              rfl
            · simp at h
          · simp at h
        · simp at h

end
end Go.Vx
