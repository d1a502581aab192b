/-
  A run told in advance, part seven: further operations: literals, addresses, parts, conversions. No condition.
-/
import Derived.Test.YtdglogdigiajbaaGreatDoorVxF
set_option linter.unusedSectionVars false
set_option linter.unusedSimpArgs false
set_option linter.unusedVariables false
namespace Go.Vx
open Go.RowKit

theorem intOfX_ok {R : Ren} {v : AV} {n : Nat} (h : intOfX v = some n) : ∃ k, conc R v = .int k (n : Int) := by
  unfold intOfX at h
  split at h
  · rename_i k m
    obtain rfl := Option.some.inj h
    exact ⟨k, rfl⟩
  · simp at h

theorem over_lay {R : Ren} {l : List AV} {o : Nat} {vs : List AV} (h : o + vs.length ≤ l.length) : over' ⟨concL R l⟩ o (concL R vs) = ⟨concL R (layX l o vs)⟩ := by
  apply Array.ext_getElem?
  intro j
  rw [over'_get _ _ _ _ (by simp; omega)]
  simp only [List.getElem?_toArray, concL_getElem?, concL_length]
  rw [layX_get _ _ _ _ h]
  split <;> rfl

theorem foldl_over (off : Nat) : ∀ (vs : List Value) (k : Nat) (c : Array Value), (vs.zipIdx k).foldl (fun cs (x : Value × Nat) => cs.setIfInBounds (off + x.2) x.1) c = over' c (off + k) vs
  | [], _, _ => rfl
  | v :: vs, k, c => by
    simp only [List.zipIdx_cons, List.foldl_cons, over']
    rw [foldl_over off vs (k + 1)]
    rfl

theorem fill_ok {R : Ren} {p : Nat → Option (Nat × Nat)} : ∀ {parts : List (Nat × AV)} {cells l : List AV}, fillX p cells parts = some l →
    Instr.fill p ⟨concL R cells⟩ (parts.map fun q => (q.1, conc R q.2)) = some ⟨concL R l⟩ ∧ (∀ n, BndL n cells → (∀ q ∈ parts, Bnd n q.2) → BndL n l)
  | [], cells, l, h => by simp [fillX] at h; subst h; simp [Instr.fill]
  | (i, v) :: rest, cells, l, h => by
    unfold fillX at h
    split at h
    · simp at h
    · rename_i off size hp
      split at h
      · rename_i hc
        simp only [Bool.and_eq_true] at hc
        have h1 : (cellsA v).length = size := Nat.eq_of_beq_eq_true hc.1
        have h2 : off + size ≤ cells.length := Nat.le_of_ble_eq_true hc.2
        have ih := fill_ok (R := R) h
        refine ⟨?_, fun n hn hq => ih.2 n (BndL_iff.2 fun x hx => ?_) fun q hq' => hq q (by simp [hq'])⟩
        · simp only [List.map_cons, Instr.fill, hp, cells_conc]
          rw [if_neg (by simp [h1]; omega)]
          rw [← ih.1]
          congr 1
          rw [← over_lay (by omega)]
          have := foldl_over off (concL R (cellsA v)) 0 ⟨concL R cells⟩
          rw [Nat.add_zero] at this
          rw [← this]
          simp
        · rcases layX_mem hx with hx | hx
          · exact BndL_iff.1 hn x hx
          · exact BndL_iff.1 (cellsA_bnd (hq (i, v) (by simp))) x hx
      · simp at h

theorem zerosX_get (z : List AV) : ∀ (n j : Nat), j < n * z.length → (zerosX z n)[j]? = z[j % z.length]?
  | 0, j, h => by simp at h
  | n + 1, j, h => by
    unfold zerosX
    by_cases hj : j < z.length
    · rw [List.getElem?_append_left hj, Nat.mod_eq_of_lt hj]
    · rw [List.getElem?_append_right (by omega), zerosX_get z n _ (by rw [Nat.add_mul] at h; omega)]
      congr 1
      rw [← Nat.mod_eq_sub_mod (by omega)]

theorem zerosX_length (z : List AV) (n : Nat) : (zerosX z n).length = n * z.length := by
  induction n with
  | zero => simp [zerosX]
  | succ n ih => simp [zerosX, ih, Nat.add_mul]; omega

theorem zerosX_mem {z : List AV} {n : Nat} {x : AV} (h : x ∈ zerosX z n) : x ∈ z := by
  induction n with
  | zero => simp [zerosX] at h
  | succ n ih =>
    simp only [zerosX, List.mem_append] at h
    exact h.elim id ih

theorem zeros_ok {R : Ren} (z : List AV) (n esz : Nat) (hz : z.length = esz) :
    (Array.range (n * esz)).map (fun i => (⟨concL R z⟩ : Array Value)[i % (⟨concL R z⟩ : Array Value).size]!) = ⟨concL R (zerosX z n)⟩ := by
  apply Array.ext_getElem?
  intro j
  simp only [Array.getElem?_map, List.getElem?_toArray, concL_getElem?]
  by_cases hj : j < n * esz
  · have hpos : 0 < z.length := by
      rcases Nat.eq_zero_or_pos z.length with h0 | h0
      · rw [← hz, h0] at hj; simp at hj
      · exact h0
    rw [zerosX_get z n j (by rw [hz]; exact hj)]
    have hm : j % z.length < z.length := Nat.mod_lt _ hpos
    simp [hj, hm, concL_map]
  · rw [List.getElem?_eq_none (by rw [zerosX_length, hz]; omega)]
    simp [hj]

section
variable {E : Env} {P : Program} (hE : E.Ok P) {lo : Nat} {R : Ren} {s s' : St} {w : World} {f : Fr} {a : Act} {v : AV} (hR : Rel R s w) (hF : FrOk R s.nx f a) (hlo : lo ≤ s.nx)

include hE in
theorem places_ok : ∀ {fs : List Field} {m : List (Nat × Nat)}, placesX E fs = some m → (fs.mapM fun f => do pure (f.offset, ← sizeOf f.type) : Sem (List (Nat × Nat))).run P w = .ok m w
  | [], m, h => by simp [placesX] at h; subst h; simp
  | f :: fs, m, h => by
    unfold placesX at h
    split at h
    · simp at h
    · rename_i n hn
      split at h
      · simp at h
      · rename_i m' hm'
        obtain rfl := Option.some.inj h
        have ih := places_ok hm'
        simp only [bind_pure_comp] at ih
        simp [List.mapM_cons, run_size hE hn, ih]

theorem map_parts {R : Ren} {nx : Nat} {f : Fr} {a : Act} (h : FrOk R nx f a) {ps : Array (Nat × Operand)} {m : List (Nat × AV)} (hm : partsX ps.toList f = some m) :
    (ps.map fun (i, x) => (i, a.eval x)).toList = m.map (fun p => (p.1, conc R p.2)) := by
  have := (h.parts hm).1
  simpa using this

include hE hR hF in
theorem build_ok {t : TypeId} {ps : Array (Nat × Operand)} (h : buildX t ps E lo f s = some (v, s')) :
    Res P (do pure (.value (← Instr.build t (ps.map fun (i, x) => (i, a.eval x))))) lo R s w v s' := by
  unfold buildX at h
  split at h
  · simp at h
  · rename_i d hd
    split at h
    · simp at h
    · rename_i z hz
      split at h
      · simp at h
      · rename_i parts hp
        have h1 := run_zero hE R hz
        have h2 := map_parts hF hp
        have h3 := (hF.parts hp).2
        unfold buildD at h
        split at h
        · rename_i fs
          split at h
          · rename_i m hm
            cases hf : fillX (fun i => m[i]?) (cellsA z) parts with
            | none => simp [hf, aggOf] at h
            | some l =>
              simp only [hf, aggOf, Option.some.injEq, Prod.mk.injEq] at h
              obtain ⟨rfl, rfl⟩ := h
              have h4 := fill_ok (R := R) hf
              refine res_val hR ?_ ?_
              · simp only [Instr.build, Sem.run_bind, h1.1 w, Result.andThen_ok, run_und hE hd, Array.mapM_eq_mapM_toList, Sem.run_map, places_ok hE hm, h2]
                simp only [List.getElem?_toArray, cells_conc, h4.1]
                simp [conc]
              · simp only [Bnd]
                exact h4.2 _ ((cellsA_bnd h1.2).mono (Nat.zero_le _)) h3
          · simp at h
        · rename_i n e
          split at h
          · rename_i k hk
            cases hf : fillX (fun i => some (i * k, k)) (cellsA z) parts with
            | none => simp [hf, aggOf] at h
            | some l =>
              simp only [hf, aggOf, Option.some.injEq, Prod.mk.injEq] at h
              obtain ⟨rfl, rfl⟩ := h
              have h4 := fill_ok (R := R) hf
              refine res_val hR ?_ ?_
              · simp only [Instr.build, Sem.run_bind, h1.1 w, Result.andThen_ok, run_und hE hd, run_size hE hk, h2]
                simp only [cells_conc, h4.1]
                simp [conc]
              · simp only [Bnd]
                exact h4.2 _ ((cellsA_bnd h1.2).mono (Nat.zero_le _)) h3
          · simp at h
        · simp at h

/-- A new slice over a new row of cells. -/
theorem res_slice (hR : Rel R s w) (hlo : lo ≤ s.nx) {l : List AV} {e : TypeId} {n m : Nat} {v : AV} {s' : St} (h : sliceNew s n m (newX s l e) = some (v, s')) (hb : BndL s.nx l) (hm : m < big) {sem : Sem Value}
    (hs : sem.run P w = .ok (.slice (some ⟨w.heap.size, 0, none⟩) n m) { w with heap := w.heap.push (.cells ⟨concL R l⟩ e) }) : Res P (do pure (.value (← sem))) lo R s w v s' := by
  cases hn : newX s l e with
  | none => simp [hn, sliceNew] at h
  | some r =>
    obtain ⟨h1, R', h2, h3, h4, h5⟩ := new_row hR hlo hn hb
    simp only [hn, sliceNew, Option.some.injEq, Prod.mk.injEq] at h
    obtain ⟨rfl, rfl⟩ := h
    refine ⟨R', _, _, by simp [hs]; rfl, .inl ?_, h3, h4, ?_⟩
    · simp [conc, h2, Ren.c, hm]
    · simp only [Bnd, h5]
      exact ⟨by omega, .inl hm⟩

include hE hR hF hlo in
theorem buildSlice_ok {t len : Nat} {ps : Array (Nat × Operand)} (h : buildSliceX t len ps E lo f s = some (v, s')) :
    Res P (do pure (.value (← Instr.buildSlice t len (ps.map fun (i, x) => (i, a.eval x))))) lo R s w v s' := by
  unfold buildSliceX at h
  split at h
  · rename_i e hu
    split at h
    · rename_i parts hp
      unfold buildSliceE at h
      split at h
      · simp at h
      · rename_i n hn
        split at h
        · simp at h
        · rename_i z hz
          split at h
          · simp at h
          · rename_i hc
            simp only [Bool.and_eq_true] at hc
            have hc1 := Nat.le_of_ble_eq_true hc.1.1
            have hc2 : (cellsA z).length = n := Nat.eq_of_beq_eq_true hc.1.2
            split at h
            · rename_i l hl
              have h1 := run_zero hE R hz
              have h2 := map_parts hF hp
              have h3 := (hF.parts hp).2
              have h4 := fill_ok (R := R) hl
              have hb : BndL s.nx l := h4.2 _ (BndL_iff.2 fun x hx => (BndL_iff.1 (cellsA_bnd h1.2) x (zerosX_mem hx)).mono (Nat.zero_le _)) h3
              have hlen : len < big := by
                have := Nat.le_of_ble_eq_true hc.2
                unfold big; omega
              · refine res_slice hR hlo h hb hlen ?_
                have hnot : ¬ 16777216 < len * n := by omega
                have h2' : ps.toList.map (fun x => (x.1, a.eval x.2)) = parts.map (fun p => (p.1, conc R p.2)) := by simpa using h2
                by_cases h0 : len * n = 0
                · have e0 : concL R (zerosX (cellsA z) len) = [] := by
                    apply List.eq_nil_of_length_eq_zero
                    rw [concL_length, zerosX_length, hc2]; exact h0
                  have h5 := h4.1
                  rw [e0] at h5
                  simp [Instr.buildSlice, run_und hE hu, run_size hE hn, h0, h2', h5, newRow, show Array.range 0 = #[] from rfl]
                · have hz1 := zeros_ok (R := R) (cellsA z) len n hc2
                  simp at hz1
                  simp [Instr.buildSlice, run_und hE hu, run_size hE hn, h0, h1.1 w, cells_conc, h2', hz1, h4.1, newRow, hnot]
            · simp at h
    · simp at h
  · simp at h

end
end Go.Vx
