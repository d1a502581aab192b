/-
  A run told in advance, part four: what memory gives to a step that reads or writes named blocks. No condition.
-/
import Derived.Test.YtdglogdigiajbaaGreatDoorVxC
set_option linter.unusedSectionVars false
set_option linter.unusedSimpArgs false
set_option linter.unusedVariables false
namespace Go.Vx
open Go.RowKit

/-- The fields of a struct that are scalars, told by their kinds. -/
def skD : SK → TypeDesc → Prop
  | .s, .string => True
  | .i, .int _ => True
  | .b, .bool => True
  | _, _ => False

structure SkOk (P : Program) (t : TypeId) (d : TypeDesc) (l : List SK) : Prop where
  st : ∃ fs, d = .struct fs ∧ fs.toList.map (·.offset) = List.range l.length ∧ (∀ f ∈ fs.toList, f.name ≠ "_") ∧
    ∀ (i : Nat) (f : Field) (k : SK), fs.toList[i]? = some f → l[i]? = some k → ∃ d, P.underlying f.type = some d ∧ skD k d
  own : P.stoodInHeld t = false
  eg : P.eqGuardType P.depth t = false

/-- What a function without a body that makes unknown bytes comes to. -/
def NzOk (P : Program) (f : FuncId) (e : TypeId) : Prop := ∀ (n : Nat) (w : World), n ≤ 16777216 → ∃ (cs : Array Value) (d : Nat), n ≤ cs.size ∧
  (callFunc f ⟨[.int .i64 (Int.ofNat n)]⟩).run P w = .ok (.value (.slice (some ⟨w.heap.size, 0, none⟩) n cs.size)) { w with drawn := d, heap := w.heap.push (.cells cs e) }

/-- What a function comes to of which only that is told. -/
def SumOk (P : Program) (G : Nat) (f : FuncId) (p : List AV → St → Option (AV × St)) : Prop := (∀ args w, (callFunc f args).run P w = .ok (.enter f args) w) ∧
  ∀ lo args s v s' R w, p args s = some (v, s') → Rel R s w → BndL s.nx args → lo ≤ s.nx → (∀ g, g < G → R.blk g = g ∧ g < s.nx) →
    Calls P f ⟨concL R args⟩ w fun e w' => ∃ R', e = .returned (conc R' v) ∧ Rel R' s' w' ∧ Mv lo R s w R' s' w' ∧ Bnd s'.nx v

structure Env.Ok (E : Env) (P : Program) : Prop where
  ty : ∀ t x, E.ty t = some x → P.info? t = some x.i ∧ P.underlying t = some x.d ∧ ∀ l, x.sk = some l → SkOk P t x.d l
  fn : ∀ f g, E.fn f = some g → P.funcs[f]? = some g
  call : ∀ f g c, E.fn f = some g → g.body = some c → ∀ args w, (callFunc f args).run P w = .ok (.enter f args) w
  ext : ∀ f p, E.ext f = some p → ∀ args v, p args = some v → (∀ n, BndL n args → Bnd n v) ∧ ∀ R w, (callFunc f ⟨concL R args⟩).run P w = .ok (.value (conc R v)) w
  nz : ∀ f e, E.nz f = some e → NzOk P f e
  sum : ∀ f p, E.sum f = some p → SumOk P E.G f p
  mixed : P.follows .mixedOrders = true
  mth : ∀ t m f, E.mth t m = some f → ∀ v w, (method (P.types.size + Made.depth) t v m).run P w = .ok (f, v) w

section
variable {E : Env} {P : Program} (hE : E.Ok P) {R : Ren} {s : St} {w : World}
include hE

theorem run_typeInfo {t : TypeId} {x : TI} (h : E.ty t = some x) : (typeInfo t).run P w = .ok x.i w := by
  simp [typeInfo, (hE.ty t x h).1]

theorem run_und {t : TypeId} {d : TypeDesc} (h : E.und t = some d) : (underlying t).run P w = .ok d w := by
  unfold Env.und at h
  obtain ⟨x, hx, rfl⟩ := Option.map_eq_some_iff.1 h
  simp [underlying, (hE.ty t x hx).2.1]

theorem run_size {t : TypeId} {n : Nat} (h : E.size t = some n) : (sizeOf t).run P w = .ok n w := by
  unfold Env.size at h
  obtain ⟨x, hx, rfl⟩ := Option.map_eq_some_iff.1 h
  simp [sizeOf, run_typeInfo hE hx]

theorem run_bytes {t : TypeId} {n : Nat} (h : E.bytes t = some n) : ∃ i, (∀ w, (typeInfo t).run P w = .ok i w) ∧ i.bytes = n := by
  unfold Env.bytes at h
  obtain ⟨x, hx, rfl⟩ := Option.map_eq_some_iff.1 h
  exact ⟨x.i, fun w => run_typeInfo hE hx, rfl⟩

theorem run_zero {t : TypeId} {z : AV} (R : Ren) (h : E.zero t = some z) : (∀ w, (zeroValue t).run P w = .ok (conc R z) w) ∧ Bnd 0 z := by
  unfold Env.zero at h
  split at h
  · rename_i x hx
    split at h
    · rename_i v hv
      have := quote_ok R h
      refine ⟨fun w => ?_, this.2⟩
      simp [zeroValue, run_typeInfo hE hx, hv, this.1]
    · simp at h
  · simp at h

theorem run_agg {t : TypeId} {b : Bool} (h : E.agg t = some b) : (isAgg t).run P w = .ok b w := by
  unfold Env.agg at h
  split at h
  · rename_i x hx
    have := (hE.ty t x hx).2.1
    simp only [isAgg, Sem.run_bind]
    rw [run_und hE (t := t) (d := x.d) (by simp [Env.und, hx])]
    simp only [Result.andThen_ok]
    split at h <;> simp_all
  · simp at h
end

theorem Addr.add_mk (b o n : Nat) : (⟨b, o, none⟩ : Addr).add n = ⟨b, o + n, none⟩ := by
  unfold Addr.add
  split
  · subst_vars; rfl
  · rfl

theorem Rel.cell {R : Ren} {s : St} {w : World} (h : Rel R s w) {b : Nat} {l : List AV} {e : TypeId} {k : RK} (hg : s.get b = some (.row l e k)) {i : Nat} {v : AV}
    (hv : l[i]? = some v) : w.cell? ⟨R.blk b, i, none⟩ = some (conc R v) := by
  obtain ⟨x, hx, hr⟩ := h.live b _ hg
  cases k <;> cases x <;> simp only [ORel] at hr
  · simp only [World.cell?, hx]
    exact hr.2 i v hv
  · simp only [World.cell?, hx, hr.2.1]
    simp [hv]
  · simp only [World.cell?, hx]
    exact hr.2.1 i v hv

theorem takeN_ok {α : Type} : ∀ {n : Nat} {l m : List α}, takeN n l = some m → m.length = n ∧ ∀ i, i < n → m[i]? = l[i]?
  | 0, l, m, h => by simp [takeN] at h; subst h; simp
  | n + 1, [], m, h => by simp [takeN] at h
  | n + 1, x :: l, m, h => by
    simp only [takeN, Option.map_eq_some_iff] at h
    obtain ⟨k, hk, rfl⟩ := h
    obtain ⟨h1, h2⟩ := takeN_ok hk
    refine ⟨by simp [h1], fun i hi => ?_⟩
    cases i with
    | zero => rfl
    | succ i => simpa using h2 i (by omega)

theorem takeN_mem {α : Type} {n : Nat} {l m : List α} (h : takeN n l = some m) {x : α} (hx : x ∈ m) : x ∈ l := by
  obtain ⟨h1, h2⟩ := takeN_ok h
  obtain ⟨i, hi, rfl⟩ := List.getElem_of_mem hx
  have := h2 i (by omega)
  rw [List.getElem?_eq_getElem hi] at this
  exact List.mem_of_getElem? this.symm

/-- Cells read one by one. -/
theorem run_loadCellsFrom {R : Ren} {s : St} {w : World} {P : Program} (h : Rel R s w) {b o : Nat} {l : List AV} {e : TypeId} {k : RK} (hg : s.get b = some (.row l e k)) :
    ∀ (n i : Nat) (acc : Array Value) (cs : List AV), takeN n (l.drop (o + i)) = some cs →
      (loadCellsFrom ⟨R.blk b, o, none⟩ i n acc).run P w = .ok (acc ++ (⟨concL R cs⟩ : Array Value)) w
  | 0, i, acc, cs, hc => by
    simp [takeN] at hc; subst hc
    simp [loadCellsFrom, concL]
  | n + 1, i, acc, cs, hc => by
    cases hd : l.drop (o + i) with
    | nil => rw [hd] at hc; simp [takeN] at hc
    | cons x r =>
      rw [hd] at hc
      simp only [takeN, Option.map_eq_some_iff] at hc
      obtain ⟨m, hm, rfl⟩ := hc
      have hx : l[o + i]? = some x := by rw [← List.head?_drop, hd]; rfl
      have hr : l.drop (o + (i + 1)) = r := by
        have := congrArg (List.drop 1) hd
        rw [List.drop_drop] at this
        rw [← Nat.add_assoc]; simpa using this
      have ih := run_loadCellsFrom (P := P) h hg (o := o) n (i + 1) (acc.push (conc R x)) m (by rw [hr]; exact hm)
      simp only [loadCellsFrom, Sem.run_bind, run_load, Addr.add_mk, h.cell hg hx, Result.andThen_ok]
      rw [ih]
      congr 1
      apply Array.ext'
      simp [concL]

theorem run_loadCells {R : Ren} {s : St} {w : World} {P : Program} (h : Rel R s w) {b o n : Nat} {cs : List AV} (hc : cellsX s b o n = some cs) :
    (loadCells ⟨R.blk b, o, none⟩ n).run P w = .ok (⟨concL R cs⟩ : Array Value) w := by
  unfold cellsX at hc
  split at hc
  · rename_i l e k hg
    have := run_loadCellsFrom (P := P) h hg (o := o) n 0 #[] cs (by simpa using hc)
    simp only [loadCells]
    rw [this]
    simp
  · simp at hc

theorem cellsX_bnd {R : Ren} {s : St} {w : World} (h : Rel R s w) {b o n : Nat} {cs : List AV} (hc : cellsX s b o n = some cs) : BndL s.nx cs ∧ cs.length = n := by
  unfold cellsX at hc
  split at hc
  · rename_i l e k hg
    have := (h.bnd b _ hg).2.row
    exact ⟨BndL_iff.2 fun v hv => BndL_iff.1 this v (List.mem_of_mem_drop (takeN_mem hc hv)), (takeN_ok hc).1⟩
  · simp at hc

theorem run_loadVar {E : Env} {P : Program} (hE : E.Ok P) {R : Ren} {s : St} {w : World} (h : Rel R s w) {t : TypeId} {b o : Nat} {v : AV} (hv : loadX E s t b o = some v) :
    (loadVar t ⟨R.blk b, o, none⟩).run P w = .ok (conc R v) w ∧ Bnd s.nx v := by
  unfold loadX at hv
  split at hv
  · rename_i ha
    split at hv
    · rename_i n hn
      obtain ⟨cs, hc, rfl⟩ := Option.map_eq_some_iff.1 hv
      simp only [loadVar, Sem.run_bind, run_agg hE ha, Result.andThen_ok, run_size hE hn, run_loadCells h hc, if_true]
      exact ⟨by simp [conc], by simpa [Bnd] using (cellsX_bnd h hc).1⟩
    · simp at hv
  · rename_i ha
    unfold cellX at hv
    split at hv
    · rename_i l e k hg
      simp only [loadVar, Sem.run_bind, run_agg hE ha, Result.andThen_ok]
      rw [if_neg (by simp), run_load, h.cell hg hv]
      exact ⟨rfl, BndL_get (h.bnd b _ hg).2.row hv⟩
    · simp at hv
  · simp at hv

/-- The cells vs, laid over c from k on. -/
def over' (c : Array Value) (k : Nat) : List Value → Array Value
  | [] => c
  | v :: vs => over' (c.setIfInBounds k v) (k + 1) vs

theorem over'_size (vs : List Value) : ∀ (c : Array Value) (k : Nat), (over' c k vs).size = c.size := by
  induction vs with
  | nil => intros; rfl
  | cons v vs ih => intro c k; simp [over', ih]

theorem over'_get (vs : List Value) : ∀ (c : Array Value) (k j : Nat), k + vs.length ≤ c.size →
    (over' c k vs)[j]? = if k ≤ j ∧ j < k + vs.length then vs[j - k]? else c[j]? := by
  induction vs with
  | nil => intro c k j _; simp [over']; omega
  | cons v vs ih =>
    intro c k j hk
    simp only [List.length_cons] at hk
    rw [over', ih _ _ _ (by simp; omega)]
    by_cases h1 : j = k
    · subst h1
      rw [if_neg (by omega), if_pos (by simp), Array.getElem?_setIfInBounds_self_of_lt (by omega)]
      simp
    · by_cases h2 : k + 1 ≤ j ∧ j < k + 1 + vs.length
      · rw [if_pos h2, if_pos (by simp; omega)]
        have : j - k = (j - (k + 1)) + 1 := by omega
        rw [this]; simp
      · rw [if_neg h2, if_neg (by simp; omega)]
        rw [Array.getElem?_setIfInBounds_ne (by omega)]

def isOne (v : Value) : Prop := v.oneCell' = true

theorem conc_one {R : Ren} {v : AV} (h : oneA v = true) : (conc R v).oneCell' = true := by
  cases v <;> simp [oneA] at h <;> simp [conc, Value.oneCell']
  rename_i i
  have := R.cell i
  cases hc : R.opq i <;> simp [hc, isCell] at this ⊢

/-- Cells written one by one into a block that is known. -/
theorem run_storeCells {P : Program} (B o : Nat) (e : TypeId) (fz : Nat × Nat) : ∀ (vs : List Value) (i : Nat) (w : World) (c : Array Value) (hB : B < w.heap.size),
    w.heap[B]? = some (.cells c e fz) → o + i + vs.length ≤ c.size → Free c.size fz → (∀ v ∈ vs, v.oneCell' = true) →
      (storeCells ⟨B, o, none⟩ vs i).run P w = .ok () { w with heap := w.heap.set B (.cells (over' c (o + i) vs) e fz) hB }
  | [], i, w, c, hB, hb, hn, hf, h1 => by
    simp only [storeCells, over', Sem.run_pure]
    congr 1
    have : w.heap.set B (.cells c e fz) hB = w.heap := by
      apply Array.ext_getElem?
      intro j
      by_cases hj : j = B
      · subst hj; simp [hb]
      · rw [Array.getElem?_set_ne hB (by omega)]
    rw [this]
  | v :: vs, i, w, c, hB, hb, hn, hf, h1 => by
    simp only [List.length_cons] at hn
    have hv : v.oneCell' = true := h1 v (by simp)
    have hcell : w.cell? ⟨B, o + i, none⟩ = some (c[o + i]'(by omega)) := by
      simp only [World.cell?, hb]
      simp
    have hfr : w.frozen? ⟨B, o + i, none⟩ = false := by
      simp only [World.frozen?, hb]
      have := hf (o + i) (by omega)
      simpa using this
    have hset : w.setCell ⟨B, o + i, none⟩ v = { w with heap := w.heap.set B (.cells (c.setIfInBounds (o + i) v) e fz) hB } := by
      simp only [World.setCell]
      congr 1
      apply Array.ext_getElem?
      intro j
      rw [Array.getElem?_modify]
      by_cases hj : B = j
      · subst hj
        rw [if_pos rfl, hb]
        simp
      · rw [if_neg hj, Array.getElem?_set_ne hB hj]
    have ih := run_storeCells (P := P) B o e fz vs (i + 1) (w.setCell ⟨B, o + i, none⟩ v) (c.setIfInBounds (o + i) v) (by rw [hset]; simpa using hB)
      (by rw [hset]; simp) (by simp; omega) (by simpa using hf) (fun x hx => h1 x (by simp [hx]))
    simp only [storeCells, Sem.run_bind, Addr.add_mk, run_store P w _ v _ hv, hcell, hfr]
    rw [if_neg (by simp), Result.andThen_ok, ih]
    congr 1
    simp only [hset, over']
    congr 1
    apply Array.ext_getElem?
    intro j
    have e1 : o + (i + 1) = o + i + 1 := by omega
    by_cases hj : B = j
    · subst hj; simp [e1]
    · rw [Array.getElem?_set_ne _ hj, Array.getElem?_set_ne hB hj, Array.getElem?_set_ne hB hj]

theorem layX_get (l : List AV) (o : Nat) (vs : List AV) (j : Nat) (h : o + vs.length ≤ l.length) :
    (layX l o vs)[j]? = if o ≤ j ∧ j < o + vs.length then vs[j - o]? else l[j]? := by
  unfold layX
  by_cases h1 : j < o
  · rw [if_neg (by omega), List.append_assoc, List.getElem?_append_left (by simp; omega), List.getElem?_take, if_pos h1]
  · by_cases h2 : j < o + vs.length
    · rw [if_pos (by omega), List.append_assoc, List.getElem?_append_right (by simp; omega)]
      simp only [List.length_take]
      rw [Nat.min_eq_left (by omega), List.getElem?_append_left (by omega)]
    · rw [if_neg (by omega), List.getElem?_append_right (by simp; omega), List.getElem?_drop]
      congr 1
      simp
      omega

theorem layX_length (l : List AV) (o : Nat) (vs : List AV) (h : o + vs.length ≤ l.length) : (layX l o vs).length = l.length := by
  simp [layX]; omega

theorem layX_mem {l : List AV} {o : Nat} {vs : List AV} {v : AV} (h : v ∈ layX l o vs) : v ∈ l ∨ v ∈ vs := by
  unfold layX at h
  simp only [List.mem_append] at h
  rcases h with (h | h) | h
  · exact .inl (List.mem_of_mem_take h)
  · exact .inr h
  · exact .inl (List.mem_of_mem_drop h)

/-- A store of cells into a named block. -/
theorem run_storeX {P : Program} {R : Ren} {s s' : St} {w : World} (h : Rel R s w) {lo b o : Nat} {vs : List AV} (hs : storeCellsX lo s b o vs = some s') (hb : BndL s.nx vs) :
    ∃ w', (storeCells ⟨R.blk b, o, none⟩ (concL R vs)).run P w = .ok () w' ∧ Rel R s' w' ∧ Mv lo R s w R s' w' ∧ s'.nx = s.nx ∧ (∃ l e k, s.get b = some (.row l e k) ∧ o + vs.length ≤ l.length) := by
  unfold storeCellsX at hs
  split at hs
  · rename_i hlo
    have hlo := Nat.le_of_ble_eq_true ((Bool.and_eq_true _ _).mp hlo).1
    unfold storeRow at hs
    split at hs
    · rename_i l e k hg
      split at hs
      · rename_i hc
        simp only [Bool.and_eq_true] at hc
        obtain ⟨⟨hw, hn⟩, h1⟩ := hc
        have hn := Nat.le_of_ble_eq_true hn
        rw [listK_eq, putK_eq] at hs
        obtain rfl := Option.some.inj hs
        obtain ⟨x, hx, hr⟩ := h.live b _ hg
        have hlt := h.lt hg
        have h1' : ∀ v ∈ concL R vs, v.oneCell' = true := by
          intro v hv
          rw [concL_map] at hv
          obtain ⟨a, ha, rfl⟩ := List.mem_map.1 hv
          exact conc_one (List.all_eq_true.1 h1 a ha)
        have hbl : BndL s.nx (layX l o vs) := BndL_iff.2 fun v hv => by
          rcases layX_mem hv with hv | hv
          · exact BndL_iff.1 (h.bnd b _ hg).2.row v hv
          · exact BndL_iff.1 hb v hv
        cases k <;> cases x <;> simp only [ORel] at hr
        · simp [writable] at hw
        · rename_i c e' fz
          obtain ⟨rfl, hcc, hf⟩ := hr
          have hsz : c.size = l.length := by rw [hcc]; simp
          have hrun := run_storeCells (P := P) (R.blk b) o e fz (concL R vs) 0 w c hlt hx (by simp; omega) hf h1'
          refine ⟨_, hrun, ?_⟩
          have := rel_upd (lo := lo) h hg hlo (o' := .row (layX l o vs) e .ex) (x := .cells (over' c (o + 0) (concL R vs)) e fz) rfl hbl ?_
          · exact ⟨this.1, this.2, rfl, _, _, _, hg, hn⟩
          · simp only [ORel]
            refine ⟨trivial, ?_, by rw [over'_size]; exact hf⟩
            apply Array.ext_getElem?
            intro j
            rw [over'_get _ _ _ _ (by simp; omega), hcc]
            simp only [List.getElem?_toArray, concL_getElem?, concL_length, Nat.add_zero]
            rw [layX_get _ _ _ _ hn]
            split <;> rfl
        · rename_i cc esz c e' fz
          obtain ⟨rfl, hcc, hsz, hll, hf⟩ := hr
          have hrun := run_storeCells (P := P) (R.blk b) o e fz (concL R vs) 0 w c hlt hx (by simp; omega) hf h1'
          refine ⟨_, hrun, ?_⟩
          have := rel_upd (lo := lo) h hg hlo (o' := .row (layX l o vs) e (.gr cc esz)) (x := .cells (over' c (o + 0) (concL R vs)) e fz) rfl ⟨hbl, (h.bnd b _ hg).2.2⟩ ?_
          · exact ⟨this.1, this.2, rfl, _, _, _, hg, hn⟩
          · simp only [ORel]
            refine ⟨trivial, fun j v hv => ?_, by rw [over'_size]; exact hsz, by rw [over'_size, layX_length _ _ _ hn]; exact hll, by rw [over'_size]; exact hf⟩
            rw [over'_get _ _ _ _ (by simp; omega)]
            rw [layX_get _ _ _ _ hn] at hv
            simp only [concL_length, Nat.add_zero]
            split at hv
            · rename_i hj
              rw [if_pos hj, concL_getElem?, hv]; rfl
            · rename_i hj
              rw [if_neg hj]
              exact hcc j v hv
      · simp at hs
    · simp at hs
  · simp at hs

theorem cells_conc {R : Ren} (v : AV) : (conc R v).cells = ⟨concL R (cellsA v)⟩ := by
  cases v <;> simp [conc, cellsA, Value.cells, concL]
  rename_i i
  have := R.cell i
  cases hc : R.opq i <;> simp [hc, isCell] at this ⊢

theorem cellsA_bnd {n : Nat} {v : AV} (h : Bnd n v) : BndL n (cellsA v) := by
  cases v <;> simp [cellsA, BndL, Bnd] at * <;> exact h

/-- A store of a variable. -/
theorem run_storeVar {E : Env} {P : Program} (hE : E.Ok P) {R : Ren} {s s' : St} {w : World} (h : Rel R s w) {lo : Nat} {t : TypeId} {b o : Nat} {v : AV} (hs : storeX E lo s t b o v = some s') (hb : Bnd s.nx v) :
    ∃ w', (storeVar t ⟨R.blk b, o, none⟩ (conc R v)).run P w = .ok () w' ∧ Rel R s' w' ∧ Mv lo R s w R s' w' ∧ s'.nx = s.nx := by
  unfold storeX at hs
  split at hs
  · rename_i n hn
    split at hs
    · rename_i hl
      have hl : (cellsA v).length = n := Nat.eq_of_beq_eq_true hl
      obtain ⟨w', h1, h2, h3, h4, _⟩ := run_storeX (P := P) h hs (cellsA_bnd hb)
      refine ⟨w', ?_, h2, h3, h4⟩
      simp only [storeVar, Sem.run_bind, run_size hE hn, Result.andThen_ok, cells_conc]
      simp [hl, h1]
    · simp at hs
  · simp at hs

end Go.Vx
