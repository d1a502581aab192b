/-
  A run told in advance, part four: what memory gives to a step that reads or writes named blocks. No condition.
-/
import Derived.Test.YtjmebclcmpfdmaaGreatDoorVxC
import Derived.Laws.StructEq
set_option linter.unusedSectionVars false
set_option linter.unusedSimpArgs false
set_option linter.unusedVariables false
namespace Go.Vx
open Go.RowKit

/-- The fields of a struct that are scalars, told by their kinds. -/
def skD : SK → TypeDesc → Prop
  | .s, .string => True
  | .i, .int _ => True
  | .b, .bool => True
  | _, _ => False

structure SkOk (P : Program) (t : TypeId) (d : TypeDesc) (l : List SK) : Prop where
  st : ∃ fs, d = .struct fs ∧ fs.toList.map (·.offset) = List.range l.length ∧ (∀ f ∈ fs.toList, f.name ≠ "_") ∧
    ∀ (i : Nat) (f : Field) (k : SK), fs.toList[i]? = some f → l[i]? = some k → ∃ d, P.underlying f.type = some d ∧ skD k d
  own : P.stoodInHeld t = false
  eg : P.eqGuardType P.depth t = false

/-- What a function without a body that makes unknown bytes comes to. -/
def NzOk (P : Program) (f : FuncId) (e : TypeId) : Prop := ∀ (n : Nat) (w : World), n ≤ 16777216 → ∃ (cs : Array Value) (d : Nat), n ≤ cs.size ∧
  (callFunc f ⟨[.int .i64 (Int.ofNat n)]⟩).run P w = .ok (.value (.slice (some ⟨w.heap.size, 0, none⟩) n cs.size)) { w with drawn := d, heap := w.heap.push (.cells cs e) }

/-- What a function comes to of which only that is told. -/
def SumOk (P : Program) (G : Nat) (f : FuncId) (p : List AV → St → Option (AV × St)) : Prop := (∀ args w, (callFunc f args).run P w = .ok (.enter f args) w) ∧
  ∀ lo args s v s' R w, p args s = some (v, s') → Rel R s w → BndL s.nx args → lo ≤ s.nx → (∀ g, g < G → R.blk g = g ∧ g < s.nx) →
    Calls P f ⟨concL R args⟩ w fun e w' => ∃ R', e = .returned (conc R' v) ∧ Rel R' s' w' ∧ Mv lo R s w R' s' w' ∧ Bnd s'.nx v

structure Env.Ok (E : Env) (P : Program) : Prop where
  ty : ∀ t x, E.ty t = some x → P.info? t = some x.i ∧ P.underlying t = some x.d ∧ ∀ l, x.sk = some l → SkOk P t x.d l
  fn : ∀ f g, E.fn f = some g → P.funcs[f]? = some g
  call : ∀ f g c, E.fn f = some g → g.body = some c → ∀ args w, (callFunc f args).run P w = .ok (.enter f args) w
  ext : ∀ f p, E.ext f = some p → ∀ args v, p args = some v → (∀ n, BndL n args → Bnd n v) ∧ ∀ R w, (callFunc f ⟨concL R args⟩).run P w = .ok (.value (conc R v)) w
  nz : ∀ f e, E.nz f = some e → NzOk P f e
  sum : ∀ f p, E.sum f = some p → SumOk P E.G f p
  mixed : P.follows .mixedOrders = true
  mth : ∀ t m f, E.mth t m = some f → ∀ v w, (method (P.types.size + Made.depth) t v m).run P w = .ok (f, v) w

section
variable {E : Env} {P : Program} (hE : E.Ok P) {R : Ren} {s : St} {w : World}
include hE

theorem run_typeInfo {t : TypeId} {x : TI} (h : E.ty t = some x) : (typeInfo t).run P w = .ok x.i w := by
  simp [typeInfo, (hE.ty t x h).1]

theorem run_und {t : TypeId} {d : TypeDesc} (h : E.und t = some d) : (underlying t).run P w = .ok d w := by
  unfold Env.und at h
  obtain ⟨x, hx, rfl⟩ := Option.map_eq_some_iff.1 h
  simp [underlying, (hE.ty t x hx).2.1]

theorem run_size {t : TypeId} {n : Nat} (h : E.size t = some n) : (sizeOf t).run P w = .ok n w := by
  unfold Env.size at h
  obtain ⟨x, hx, rfl⟩ := Option.map_eq_some_iff.1 h
  simp [sizeOf, run_typeInfo hE hx]

theorem run_bytes {t : TypeId} {n : Nat} (h : E.bytes t = some n) : ∃ i, (∀ w, (typeInfo t).run P w = .ok i w) ∧ i.bytes = n := by
  unfold Env.bytes at h
  obtain ⟨x, hx, rfl⟩ := Option.map_eq_some_iff.1 h
  exact ⟨x.i, fun w => run_typeInfo hE hx, rfl⟩

theorem run_zero {t : TypeId} {z : AV} (R : Ren) (h : E.zero t = some z) : (∀ w, (zeroValue t).run P w = .ok (conc R z) w) ∧ Bnd 0 z := by
  unfold Env.zero at h
  split at h
  · rename_i x hx
    split at h
    · rename_i v hv
      have := quote_ok R h
      refine ⟨fun w => ?_, this.2⟩
      simp [zeroValue, run_typeInfo hE hx, hv, this.1]
    · simp at h
  · simp at h

theorem run_agg {t : TypeId} {b : Bool} (h : E.agg t = some b) : (isAgg t).run P w = .ok b w := by
  unfold Env.agg at h
  split at h
  · rename_i x hx
    have := (hE.ty t x hx).2.1
    simp only [isAgg, Sem.run_bind]
    rw [run_und hE (t := t) (d := x.d) (by simp [Env.und, hx])]
    simp only [Result.andThen_ok]
    split at h <;> simp_all
  · simp at h
end

theorem Addr.add_mk (b o n : Nat) : (⟨b, o, none⟩ : Addr).add n = ⟨b, o + n, none⟩ := by
  unfold Addr.add
  split
  · subst_vars; rfl
  · rfl

theorem Rel.cell {R : Ren} {s : St} {w : World} (h : Rel R s w) {b : Nat} {l : List AV} {e : TypeId} {k : RK} (hg : s.get b = some (.row l e k)) {i : Nat} {v : AV}
    (hv : l[i]? = some v) : w.cell? ⟨R.blk b, i, none⟩ = some (conc R v) := by
  obtain ⟨x, hx, hr⟩ := h.live b _ hg
  cases k <;> cases x <;> simp only [ORel] at hr
  · simp only [World.cell?, hx]
    exact hr.2 i v hv
  · simp only [World.cell?, hx, hr.2.1]
    simp [hv]
  · simp only [World.cell?, hx]
    exact hr.2.1 i v hv

theorem takeN_ok {α : Type} : ∀ {n : Nat} {l m : List α}, takeN n l = some m → m.length = n ∧ ∀ i, i < n → m[i]? = l[i]?
  | 0, l, m, h => by simp [takeN] at h; subst h; simp
  | n + 1, [], m, h => by simp [takeN] at h
  | n + 1, x :: l, m, h => by
    simp only [takeN, Option.map_eq_some_iff] at h
    obtain ⟨k, hk, rfl⟩ := h
    obtain ⟨h1, h2⟩ := takeN_ok hk
    refine ⟨by simp [h1], fun i hi => ?_⟩
    cases i with
    | zero => rfl
    | succ i => simpa using h2 i (by omega)

theorem takeN_mem {α : Type} {n : Nat} {l m : List α} (h : takeN n l = some m) {x : α} (hx : x ∈ m) : x ∈ l := by
  obtain ⟨h1, h2⟩ := takeN_ok h
  obtain ⟨i, hi, rfl⟩ := List.getElem_of_mem hx
  have := h2 i (by omega)
  rw [List.getElem?_eq_getElem hi] at this
  exact List.mem_of_getElem? this.symm

/-- Cells read one by one. -/
theorem run_loadCellsFrom {R : Ren} {s : St} {w : World} {P : Program} (h : Rel R s w) {b o : Nat} {l : List AV} {e : TypeId} {k : RK} (hg : s.get b = some (.row l e k)) :
    ∀ (n i : Nat) (acc : Array Value) (cs : List AV), takeN n (l.drop (o + i)) = some cs →
      (loadCellsFrom ⟨R.blk b, o, none⟩ i n acc).run P w = .ok (acc ++ (⟨concL R cs⟩ : Array Value)) w
  | 0, i, acc, cs, hc => by
    simp [takeN] at hc; subst hc
    simp [loadCellsFrom, concL]
  | n + 1, i, acc, cs, hc => by
    cases hd : l.drop (o + i) with
    | nil => rw [hd] at hc; simp [takeN] at hc
    | cons x r =>
      rw [hd] at hc
      simp only [takeN, Option.map_eq_some_iff] at hc
      obtain ⟨m, hm, rfl⟩ := hc
      have hx : l[o + i]? = some x := by rw [← List.head?_drop, hd]; rfl
      have hr : l.drop (o + (i + 1)) = r := by
        have := congrArg (List.drop 1) hd
        rw [List.drop_drop] at this
        rw [← Nat.add_assoc]; simpa using this
      have ih := run_loadCellsFrom (P := P) h hg (o := o) n (i + 1) (acc.push (conc R x)) m (by rw [hr]; exact hm)
      simp only [loadCellsFrom, Sem.run_bind, run_load, Addr.add_mk, h.cell hg hx, Result.andThen_ok]
      rw [ih]
      congr 1
      apply Array.ext'
      simp [concL]

theorem run_loadCells {R : Ren} {s : St} {w : World} {P : Program} (h : Rel R s w) {b o n : Nat} {cs : List AV} (hc : cellsX s b o n = some cs) :
    (loadCells ⟨R.blk b, o, none⟩ n).run P w = .ok (⟨concL R cs⟩ : Array Value) w := by
  unfold cellsX at hc
  split at hc
  · rename_i l e k hg
    have := run_loadCellsFrom (P := P) h hg (o := o) n 0 #[] cs (by simpa using hc)
    simp only [loadCells]
    rw [this]
    simp
  · simp at hc

theorem cellsX_bnd {R : Ren} {s : St} {w : World} (h : Rel R s w) {b o n : Nat} {cs : List AV} (hc : cellsX s b o n = some cs) : BndL s.nx cs ∧ cs.length = n := by
  unfold cellsX at hc
  split at hc
  · rename_i l e k hg
    have := (h.bnd b _ hg).2.row
    exact ⟨BndL_iff.2 fun v hv => BndL_iff.1 this v (List.mem_of_mem_drop (takeN_mem hc hv)), (takeN_ok hc).1⟩
  · simp at hc

theorem run_loadVar {E : Env} {P : Program} (hE : E.Ok P) {R : Ren} {s : St} {w : World} (h : Rel R s w) {t : TypeId} {b o : Nat} {v : AV} (hv : loadX E s t b o = some v) :
    (loadVar t ⟨R.blk b, o, none⟩).run P w = .ok (conc R v) w ∧ Bnd s.nx v := by
  unfold loadX at hv
  split at hv
  · rename_i ha
    split at hv
    · rename_i n hn
      obtain ⟨cs, hc, rfl⟩ := Option.map_eq_some_iff.1 hv
      simp only [loadVar, Sem.run_bind, run_agg hE ha, Result.andThen_ok, run_size hE hn, run_loadCells h hc, if_true]
      exact ⟨by simp [conc], by simpa [Bnd] using (cellsX_bnd h hc).1⟩
    · simp at hv
  · rename_i ha
    unfold cellX at hv
    split at hv
    · rename_i l e k hg
      simp only [loadVar, Sem.run_bind, run_agg hE ha, Result.andThen_ok]
      rw [if_neg (by simp), run_load, h.cell hg hv]
      exact ⟨rfl, BndL_get (h.bnd b _ hg).2.row hv⟩
    · simp at hv
  · simp at hv

/-- The cells vs, laid over c from k on. -/
def over' (c : Array Value) (k : Nat) : List Value → Array Value
  | [] => c
  | v :: vs => over' (c.setIfInBounds k v) (k + 1) vs

theorem over'_size (vs : List Value) : ∀ (c : Array Value) (k : Nat), (over' c k vs).size = c.size := by
  induction vs with
  | nil => intros; rfl
  | cons v vs ih => intro c k; simp [over', ih]

theorem over'_get (vs : List Value) : ∀ (c : Array Value) (k j : Nat), k + vs.length ≤ c.size →
    (over' c k vs)[j]? = if k ≤ j ∧ j < k + vs.length then vs[j - k]? else c[j]? := by
  induction vs with
  | nil => intro c k j _; simp [over']; omega
  | cons v vs ih =>
    intro c k j hk
    simp only [List.length_cons] at hk
    rw [over', ih _ _ _ (by simp; omega)]
    by_cases h1 : j = k
    · subst h1
      rw [if_neg (by omega), if_pos (by simp), Array.getElem?_setIfInBounds_self_of_lt (by omega)]
      simp
    · by_cases h2 : k + 1 ≤ j ∧ j < k + 1 + vs.length
      · rw [if_pos h2, if_pos (by simp; omega)]
        have : j - k = (j - (k + 1)) + 1 := by omega
        rw [this]; simp
      · rw [if_neg h2, if_neg (by simp; omega)]
        rw [Array.getElem?_setIfInBounds_ne (by omega)]

def isOne (v : Value) : Prop := v.oneCell' = true

theorem conc_one {R : Ren} {v : AV} (h : oneA v = true) : (conc R v).oneCell' = true := by
  cases v <;> simp [oneA] at h <;> simp [conc, Value.oneCell']
  rename_i i
  have := R.cell i
  cases hc : R.opq i <;> simp [hc, isCell] at this ⊢

/-- Cells written one by one into a block that is known. -/
theorem run_storeCells {P : Program} (B o : Nat) (e : TypeId) (fz : Nat × Nat) : ∀ (vs : List Value) (i : Nat) (w : World) (c : Array Value) (hB : B < w.heap.size),
    w.heap[B]? = some (.cells c e fz) → o + i + vs.length ≤ c.size → Free c.size fz → (∀ v ∈ vs, v.oneCell' = true) →
      (storeCells ⟨B, o, none⟩ vs i).run P w = .ok () { w with heap := w.heap.set B (.cells (over' c (o + i) vs) e fz) hB }
  | [], i, w, c, hB, hb, hn, hf, h1 => by
    simp only [storeCells, over', Sem.run_pure]
    congr 1
    have : w.heap.set B (.cells c e fz) hB = w.heap := by
      apply Array.ext_getElem?
      intro j
      by_cases hj : j = B
      · subst hj; simp [hb]
      · rw [Array.getElem?_set_ne hB (by omega)]
    rw [this]
  | v :: vs, i, w, c, hB, hb, hn, hf, h1 => by
    simp only [List.length_cons] at hn
    have hv : v.oneCell' = true := h1 v (by simp)
    have hcell : w.cell? ⟨B, o + i, none⟩ = some (c[o + i]'(by omega)) := by
      simp only [World.cell?, hb]
      simp
    have hfr : w.frozen? ⟨B, o + i, none⟩ = false := by
      simp only [World.frozen?, hb]
      have := hf (o + i) (by omega)
      simpa using this
    have hset : w.setCell ⟨B, o + i, none⟩ v = { w with heap := w.heap.set B (.cells (c.setIfInBounds (o + i) v) e fz) hB } := by
      simp only [World.setCell]
      congr 1
      apply Array.ext_getElem?
      intro j
      rw [Array.getElem?_modify]
      by_cases hj : B = j
      · subst hj
        rw [if_pos rfl, hb]
        simp
      · rw [if_neg hj, Array.getElem?_set_ne hB hj]
    have ih := run_storeCells (P := P) B o e fz vs (i + 1) (w.setCell ⟨B, o + i, none⟩ v) (c.setIfInBounds (o + i) v) (by rw [hset]; simpa using hB)
      (by rw [hset]; simp) (by simp; omega) (by simpa using hf) (fun x hx => h1 x (by simp [hx]))
    simp only [storeCells, Sem.run_bind, Addr.add_mk, run_store P w _ v _ hv, hcell, hfr]
    rw [if_neg (by simp), Result.andThen_ok, ih]
    congr 1
    simp only [hset, over']
    congr 1
    apply Array.ext_getElem?
    intro j
    have e1 : o + (i + 1) = o + i + 1 := by omega
    by_cases hj : B = j
    · subst hj; simp [e1]
    · rw [Array.getElem?_set_ne _ hj, Array.getElem?_set_ne hB hj, Array.getElem?_set_ne hB hj]

theorem layX_get (l : List AV) (o : Nat) (vs : List AV) (j : Nat) (h : o + vs.length ≤ l.length) :
    (layX l o vs)[j]? = if o ≤ j ∧ j < o + vs.length then vs[j - o]? else l[j]? := by
  unfold layX
  by_cases h1 : j < o
  · rw [if_neg (by omega), List.append_assoc, List.getElem?_append_left (by simp; omega), List.getElem?_take, if_pos h1]
  · by_cases h2 : j < o + vs.length
    · rw [if_pos (by omega), List.append_assoc, List.getElem?_append_right (by simp; omega)]
      simp only [List.length_take]
      rw [Nat.min_eq_left (by omega), List.getElem?_append_left (by omega)]
    · rw [if_neg (by omega), List.getElem?_append_right (by simp; omega), List.getElem?_drop]
      congr 1
      simp
      omega

theorem layX_length (l : List AV) (o : Nat) (vs : List AV) (h : o + vs.length ≤ l.length) : (layX l o vs).length = l.length := by
  simp [layX]; omega

theorem layX_mem {l : List AV} {o : Nat} {vs : List AV} {v : AV} (h : v ∈ layX l o vs) : v ∈ l ∨ v ∈ vs := by
  unfold layX at h
  simp only [List.mem_append] at h
  rcases h with (h | h) | h
  · exact .inl (List.mem_of_mem_take h)
  · exact .inr h
  · exact .inl (List.mem_of_mem_drop h)

/-- A store of cells into a named block. -/
theorem run_storeX {P : Program} {R : Ren} {s s' : St} {w : World} (h : Rel R s w) {lo b o : Nat} {vs : List AV} (hs : storeCellsX lo s b o vs = some s') (hb : BndL s.nx vs) :
    ∃ w', (storeCells ⟨R.blk b, o, none⟩ (concL R vs)).run P w = .ok () w' ∧ Rel R s' w' ∧ Mv lo R s w R s' w' ∧ s'.nx = s.nx ∧ (∃ l e k, s.get b = some (.row l e k) ∧ o + vs.length ≤ l.length) := by
  unfold storeCellsX at hs
  split at hs
  · rename_i hlo
    have hlo := Nat.le_of_ble_eq_true ((Bool.and_eq_true _ _).mp hlo).1
    unfold storeRow at hs
    split at hs
    · rename_i l e k hg
      split at hs
      · rename_i hc
        simp only [Bool.and_eq_true] at hc
        obtain ⟨⟨hw, hn⟩, h1⟩ := hc
        have hn := Nat.le_of_ble_eq_true hn
        rw [listK_eq, putK_eq] at hs
        obtain rfl := Option.some.inj hs
        obtain ⟨x, hx, hr⟩ := h.live b _ hg
        have hlt := h.lt hg
        have h1' : ∀ v ∈ concL R vs, v.oneCell' = true := by
          intro v hv
          rw [concL_map] at hv
          obtain ⟨a, ha, rfl⟩ := List.mem_map.1 hv
          exact conc_one (List.all_eq_true.1 h1 a ha)
        have hbl : BndL s.nx (layX l o vs) := BndL_iff.2 fun v hv => by
          rcases layX_mem hv with hv | hv
          · exact BndL_iff.1 (h.bnd b _ hg).2.row v hv
          · exact BndL_iff.1 hb v hv
        cases k <;> cases x <;> simp only [ORel] at hr
        · simp [writable] at hw
        · rename_i c e' fz
          obtain ⟨rfl, hcc, hf⟩ := hr
          have hsz : c.size = l.length := by rw [hcc]; simp
          have hrun := run_storeCells (P := P) (R.blk b) o e fz (concL R vs) 0 w c hlt hx (by simp; omega) hf h1'
          refine ⟨_, hrun, ?_⟩
          have := rel_upd (lo := lo) h hg hlo (o' := .row (layX l o vs) e .ex) (x := .cells (over' c (o + 0) (concL R vs)) e fz) rfl hbl ?_
          · exact ⟨this.1, this.2, rfl, _, _, _, hg, hn⟩
          · simp only [ORel]
            refine ⟨trivial, ?_, by rw [over'_size]; exact hf⟩
            apply Array.ext_getElem?
            intro j
            rw [over'_get _ _ _ _ (by simp; omega), hcc]
            simp only [List.getElem?_toArray, concL_getElem?, concL_length, Nat.add_zero]
            rw [layX_get _ _ _ _ hn]
            split <;> rfl
        · rename_i cc esz c e' fz
          obtain ⟨rfl, hcc, hsz, hll, hf⟩ := hr
          have hrun := run_storeCells (P := P) (R.blk b) o e fz (concL R vs) 0 w c hlt hx (by simp; omega) hf h1'
          refine ⟨_, hrun, ?_⟩
          have := rel_upd (lo := lo) h hg hlo (o' := .row (layX l o vs) e (.gr cc esz)) (x := .cells (over' c (o + 0) (concL R vs)) e fz) rfl ⟨hbl, (h.bnd b _ hg).2.2⟩ ?_
          · exact ⟨this.1, this.2, rfl, _, _, _, hg, hn⟩
          · simp only [ORel]
            refine ⟨trivial, fun j v hv => ?_, by rw [over'_size]; exact hsz, by rw [over'_size, layX_length _ _ _ hn]; exact hll, by rw [over'_size]; exact hf⟩
            rw [over'_get _ _ _ _ (by simp; omega)]
            rw [layX_get _ _ _ _ hn] at hv
            simp only [concL_length, Nat.add_zero]
            split at hv
            · rename_i hj
              rw [if_pos hj, concL_getElem?, hv]; rfl
            · rename_i hj
              rw [if_neg hj]
              exact hcc j v hv
      · simp at hs
    · simp at hs
  · simp at hs

theorem cells_conc {R : Ren} (v : AV) : (conc R v).cells = ⟨concL R (cellsA v)⟩ := by
  cases v <;> simp [conc, cellsA, Value.cells, concL]
  rename_i i
  have := R.cell i
  cases hc : R.opq i <;> simp [hc, isCell] at this ⊢

theorem cellsA_bnd {n : Nat} {v : AV} (h : Bnd n v) : BndL n (cellsA v) := by
  cases v <;> simp [cellsA, BndL, Bnd] at * <;> exact h

/-- A store of a variable. -/
theorem run_storeVar {E : Env} {P : Program} (hE : E.Ok P) {R : Ren} {s s' : St} {w : World} (h : Rel R s w) {lo : Nat} {t : TypeId} {b o : Nat} {v : AV} (hs : storeX E lo s t b o v = some s') (hb : Bnd s.nx v) :
    ∃ w', (storeVar t ⟨R.blk b, o, none⟩ (conc R v)).run P w = .ok () w' ∧ Rel R s' w' ∧ Mv lo R s w R s' w' ∧ s'.nx = s.nx := by
  unfold storeX at hs
  split at hs
  · rename_i n hn
    split at hs
    · rename_i hl
      have hl : (cellsA v).length = n := Nat.eq_of_beq_eq_true hl
      obtain ⟨w', h1, h2, h3, h4, _⟩ := run_storeX (P := P) h hs (cellsA_bnd hb)
      refine ⟨w', ?_, h2, h3, h4⟩
      simp only [storeVar, Sem.run_bind, run_size hE hn, Result.andThen_ok, cells_conc]
      simp [hl, h1]
    · simp at hs
  · simp at hs

end Go.Vx
set_option linter.unusedSectionVars false
set_option linter.unusedSimpArgs false
set_option linter.unusedVariables false
namespace Go.Vx
open Go.RowKit

theorem pureRun_ok {α : Type} {P : Program} : ∀ {x : Sem α} {a : α}, pureRun x = some a → ∀ w, x.run P w = .ok a w
  | .pure b, a, h, w => by simp [pureRun] at h; simp [h]
  | .mark m k, a, h, w => by simp only [pureRun] at h; simp only [Sem.run]; exact pureRun_ok h w
  | .load _ _ _, _, h, _ | .store _ _ _ _, _, h, _ | .new _ _, _, h, _ | .shape _ _, _, h, _ | .freeze _ _ _, _, h, _ | .frozen _ _, _, h, _ | .getObj _ _, _, h, _
  | .setObj _ _ _, _, h, _ | .choose _ _, _, h, _ | .sys _ _, _, h, _ | .program _, _, h, _ | .halt _, _, h, _ => by simp [pureRun] at h

theorem runV_ok {P : Program} {x : Sem Value} {v : AV} (R : Ren) (h : runV x = some v) : (∀ w, x.run P w = .ok (conc R v) w) ∧ Bnd 0 v := by
  unfold runV at h
  split at h
  · rename_i u hu
    have := quote_ok R h
    exact ⟨fun w => by rw [this.1]; exact pureRun_ok hu w, this.2⟩
  · simp at h

theorem kindEq_eq {a b : IntKind} : kindEq a b = true ↔ a = b := by cases a <;> cases b <;> simp [kindEq]

theorem wrap_signed (n a b : Int) (hb : b = 2 * a) (h1 : -a ≤ n) (h2 : n < a) : (if n % b ≥ a then n % b - b else n % b) = n := by
  by_cases h : 0 ≤ n
  · rw [Int.emod_eq_of_lt h (by omega), if_neg (by omega)]
  · have e : n % b = n + b := by
      rw [← Int.add_emod_right, Int.emod_eq_of_lt (by omega) (by omega)]
    rw [e, if_pos (by omega)]
    omega

theorem fits_wrap {k : IntKind} {n : Int} (h : fits k n = true) : k.wrap n = n := by
  have hs : ∀ (q : Nat), (if (true && decide (n % (2 ^ (q + 1) : Int) ≥ (2 ^ q : Int))) = true then n % (2 ^ (q + 1) : Int) - (2 ^ (q + 1) : Int) else n % (2 ^ (q + 1) : Int)) = (if n % (2 ^ (q + 1) : Int) ≥ (2 ^ q : Int) then n % (2 ^ (q + 1) : Int) - (2 ^ (q + 1) : Int) else n % (2 ^ (q + 1) : Int)) := by
    intro q
    by_cases hq : n % (2 ^ (q + 1) : Int) ≥ (2 ^ q : Int) <;> simp [hq]
  have hu : ∀ (q : Nat), (if (false && decide (n % (2 ^ (q + 1) : Int) ≥ (2 ^ q : Int))) = true then n % (2 ^ (q + 1) : Int) - (2 ^ (q + 1) : Int) else n % (2 ^ (q + 1) : Int)) = n % (2 ^ (q + 1) : Int) := by
    intro q
    rfl
  cases k
  case i64 =>
    show (if (true && decide (n % (2 ^ (63 + 1) : Int) ≥ (2 ^ 63 : Int))) = true then n % (2 ^ (63 + 1) : Int) - (2 ^ (63 + 1) : Int) else n % (2 ^ (63 + 1) : Int)) = n
    rw [hs]
    refine wrap_signed n _ _ (by rfl) ?_ ?_ <;> cases n <;> simp only [fits] at h <;> have h := Nat.le_of_ble_eq_true h <;> simp only [Int.ofNat_eq_natCast, Int.negSucc_eq] <;> omega
  case i32 =>
    show (if (true && decide (n % (2 ^ (31 + 1) : Int) ≥ (2 ^ 31 : Int))) = true then n % (2 ^ (31 + 1) : Int) - (2 ^ (31 + 1) : Int) else n % (2 ^ (31 + 1) : Int)) = n
    rw [hs]
    refine wrap_signed n _ _ (by rfl) ?_ ?_ <;> cases n <;> simp only [fits] at h <;> have h := Nat.le_of_ble_eq_true h <;> simp only [Int.ofNat_eq_natCast, Int.negSucc_eq] <;> omega
  case u8 =>
    show (if (false && decide (n % (2 ^ (7 + 1) : Int) ≥ (2 ^ 7 : Int))) = true then n % (2 ^ (7 + 1) : Int) - (2 ^ (7 + 1) : Int) else n % (2 ^ (7 + 1) : Int)) = n
    rw [hu]
    cases n <;> simp only [fits] at h
    · have h := Nat.le_of_ble_eq_true h
      exact Int.emod_eq_of_lt (by simp) (by simp only [Int.ofNat_eq_natCast]; omega)
    · exact absurd h (by simp)
  case u32 =>
    show (if (false && decide (n % (2 ^ (31 + 1) : Int) ≥ (2 ^ 31 : Int))) = true then n % (2 ^ (31 + 1) : Int) - (2 ^ (31 + 1) : Int) else n % (2 ^ (31 + 1) : Int)) = n
    rw [hu]
    cases n <;> simp only [fits] at h
    · have h := Nat.le_of_ble_eq_true h
      exact Int.emod_eq_of_lt (by simp) (by simp only [Int.ofNat_eq_natCast]; omega)
    · exact absurd h (by simp)
  case u64 =>
    show (if (false && decide (n % (2 ^ (63 + 1) : Int) ≥ (2 ^ 63 : Int))) = true then n % (2 ^ (63 + 1) : Int) - (2 ^ (63 + 1) : Int) else n % (2 ^ (63 + 1) : Int)) = n
    rw [hu]
    cases n <;> simp only [fits] at h
    · have h := Nat.le_of_ble_eq_true h
      exact Int.emod_eq_of_lt (by simp) (by simp only [Int.ofNat_eq_natCast]; omega)
    · exact absurd h (by simp)
  all_goals (cases n <;> simp [fits] at h)

theorem wrapF_eq (k : IntKind) (n : Int) : wrapF k n = k.wrap n := by
  unfold wrapF
  split
  · rename_i h; rw [fits_wrap h]
  · rfl

theorem eqI_eq (a b : Int) : eqI a b = (a == b) := by
  cases a <;> cases b <;> simp only [eqI] <;> rw [Bool.eq_iff_iff] <;> simp only [Nat.beq_eq, beq_iff_eq, Int.ofNat_eq_natCast, Int.negSucc_eq, Bool.false_eq_true, false_iff] <;> omega

theorem ltI_eq (a b : Int) : ltI a b = decide (a < b) := by
  cases a <;> cases b <;> simp only [ltI] <;> rw [Bool.eq_iff_iff] <;> simp only [Nat.ble_eq, decide_eq_true_eq, Int.ofNat_eq_natCast, Int.negSucc_eq, Bool.false_eq_true, false_iff, true_iff] <;> omega

theorem eqS_eq : ∀ (a b : List UInt8), eqS a b = (a == b)
  | [], [] => rfl
  | [], _ :: _ => rfl
  | _ :: _, [] => rfl
  | a :: x, b :: y => by
    simp only [eqS]
    by_cases h : a = b
    · subst h
      rw [show Nat.beq a.toNat a.toNat = true by simp]
      simp only [eqS_eq x y]
      simp
    · have : Nat.beq a.toNat b.toNat = false := by
        rw [← Bool.not_eq_true, Nat.beq_eq]
        exact fun e => h (UInt8.toNat_inj.1 e)
      rw [this]
      simp [h]

theorem ltS_eq : ∀ (a b : List UInt8), ltS a b = Op.bytesLess a b
  | [], [] => rfl
  | [], _ :: _ => rfl
  | _ :: _, [] => rfl
  | a :: x, b :: y => by
    simp only [ltS, Op.bytesLess]
    by_cases h1 : a.toNat < b.toNat
    · rw [show Nat.ble (Nat.succ a.toNat) b.toNat = true by rw [Nat.ble_eq]; omega]
      simp [UInt8.lt_iff_toNat_lt, h1]
    · rw [show Nat.ble (Nat.succ a.toNat) b.toNat = false by rw [← Bool.not_eq_true, Nat.ble_eq]; omega]
      by_cases h2 : a = b
      · subst h2
        rw [show Nat.beq a.toNat a.toNat = true by simp]
        simp [ltS_eq x y]
      · have : Nat.beq a.toNat b.toNat = false := by
          rw [← Bool.not_eq_true, Nat.beq_eq]
          exact fun e => h2 (UInt8.toNat_inj.1 e)
        rw [this]
        simp [UInt8.lt_iff_toNat_lt, h1, h2]

theorem less_total : ∀ (a b : List UInt8), (Op.bytesLess a b || a == b) = !Op.bytesLess b a
  | [], [] => rfl
  | [], _ :: _ => rfl
  | _ :: _, [] => rfl
  | a :: x, b :: y => by
    have ih := less_total x y
    simp only [Op.bytesLess]
    by_cases h1 : a.toNat < b.toNat
    · have h3 : ¬ b.toNat < a.toNat := by omega
      have h4 : b ≠ a := fun e => by subst e; omega
      simp [UInt8.lt_iff_toNat_lt, h1, h3, h4]
    · by_cases h2 : b.toNat < a.toNat
      · have h4 : a ≠ b := fun e => by subst e; omega
        simp [UInt8.lt_iff_toNat_lt, h1, h2, h4]
      · have h5 : a = b := UInt8.toNat_inj.1 (by omega)
        subst h5
        simp only [UInt8.lt_irrefl, decide_false, beq_self_eq_true, Bool.true_and, Bool.false_or]
        rw [← ih]
        simp

theorem bytes_toList (a : List UInt8) : (⟨⟨a⟩⟩ : ByteArray).toList = a := by rw [ByteArray.toList_eq]

theorem bytes_append (a b : List UInt8) : (⟨⟨a⟩⟩ : ByteArray) ++ ⟨⟨b⟩⟩ = ⟨⟨a ++ b⟩⟩ := by
  apply ByteArray.ext
  simp [ByteArray.data_append]

theorem binI_ok {P : Program} {op : BinOp} {k : IntKind} {a b : Int} {v : AV} (R : Ren) (ho : op ≠ .shl ∧ op ≠ .shr) (h : binI op k a b = some v) (t : TypeId) (x y : Operand) (w : World) :
    (do eqGuard op t x y (.int k a) (.int k b); binOp op t (.int k a) (.int k b) : Sem Value).run P w = .ok (conc R v) w ∧ Bnd 0 v := by
  have hg : (eqGuard op t x y (.int k a) (.int k b)).run P w = .ok () w := by
    cases op <;> simp [eqGuard]
  simp only [Sem.run_bind, hg, Result.andThen_ok]
  cases op <;> simp only [binI] at h
  case shl => exact absurd rfl ho.1
  case shr => exact absurd rfl ho.2
  case quo => have := runV_ok (P := P) R h; exact ⟨by simpa [binOp] using this.1 w, this.2⟩
  case rem => have := runV_ok (P := P) R h; exact ⟨by simpa [binOp] using this.1 w, this.2⟩
  case and => have := runV_ok (P := P) R h; exact ⟨by simpa [binOp] using this.1 w, this.2⟩
  case or => have := runV_ok (P := P) R h; exact ⟨by simpa [binOp] using this.1 w, this.2⟩
  case xor => have := runV_ok (P := P) R h; exact ⟨by simpa [binOp] using this.1 w, this.2⟩
  case andNot => have := runV_ok (P := P) R h; exact ⟨by simpa [binOp] using this.1 w, this.2⟩
  all_goals (obtain rfl := Option.some.inj h; refine ⟨?_, by simp [Bnd]⟩; simp [binOp, Op.intArith, Op.intCmp, conc, wrapF_eq, eqI_eq, ltI_eq])
  · rfl
  all_goals first
    | (rw [Bool.eq_iff_iff]; simp)
    | skip

theorem binS_ok {P : Program} {op : BinOp} {a b : List UInt8} {v : AV} (R : Ren) (h : binS op a b = some v) (t : TypeId) (x y : Operand) (w : World) :
    (do eqGuard op t x y (.string ⟨⟨a⟩⟩) (.string ⟨⟨b⟩⟩); binOp op t (.string ⟨⟨a⟩⟩) (.string ⟨⟨b⟩⟩) : Sem Value).run P w = .ok (conc R v) w ∧ Bnd 0 v := by
  have hg : (eqGuard op t x y (.string ⟨⟨a⟩⟩) (.string ⟨⟨b⟩⟩)).run P w = .ok () w := by
    cases op <;> simp [eqGuard]
  simp only [Sem.run_bind, hg, Result.andThen_ok]
  have ht := less_total a b
  have ht' := less_total b a
  cases op <;> simp only [binS] at h
  case add =>
    split at h
    · rename_i hl
      have hl := Nat.le_of_ble_eq_true hl
      obtain rfl := Option.some.inj h
      refine ⟨?_, by simp [Bnd]⟩
      simp only [binOp, Op.stringOp]
      rw [if_neg]
      · simp [conc, bytes_append]
      · simp [ByteArray.size, IntKind.max, IntKind.signed, IntKind.bits]; omega
    · simp at h
  all_goals first
    | (simp at h; done)
    | (obtain rfl := Option.some.inj h; refine ⟨?_, by simp [Bnd]⟩; simp only [binOp, Op.stringOp, bytes_toList, conc, eqS_eq, ltS_eq, Sem.run_pure] <;> first | rfl | (rw [ht]; done) | (rw [ht]; simp; done) | (congr 2; rw [ht]; simp; done))

theorem scalarEq_ok {P : Program} {k : SK} {a b : AV} {r : Bool} {R : Ren} (h : scalarEq k a b = some r) {t : TypeId} {d : TypeDesc} (hd : P.underlying t = some d) (hk : skD k d) (n : Nat) (w : World) :
    (Op.equalIn (n + 1) t (conc R a) (conc R b)).run P w = .ok r w := by
  unfold scalarEq at h
  split at h
  · split at h
    · rename_i hkk
      obtain rfl := Option.some.inj h
      obtain rfl := kindEq_eq.1 hkk
      cases d <;> simp [skD] at hk
      rw [conc, conc, run_equalIn_int w n t _ _ _ _ hd, eqI_eq]
    · simp at h
  · obtain rfl := Option.some.inj h
    cases d <;> simp [skD] at hk
    rw [conc, conc, run_equalIn_string w n t _ _ hd, bytes_toList, bytes_toList, eqS_eq]
  · obtain rfl := Option.some.inj h
    cases d <;> simp [skD] at hk
    rw [conc, conc, run_equalIn_bool w n t _ _ hd]
    rename_i p q
    cases p <;> cases q <;> rfl
  · simp at h

theorem scalarsEq_length : ∀ {l : List SK} {a b : List AV} {r : Bool}, scalarsEq l a b = some r → a.length = l.length ∧ b.length = l.length
  | [], [], [], r, _ => by simp
  | [], [], _ :: _, r, h => by simp [scalarsEq] at h
  | [], _ :: _, _, r, h => by simp [scalarsEq] at h
  | _ :: _, [], _, r, h => by simp [scalarsEq] at h
  | _ :: _, _ :: _, [], r, h => by simp [scalarsEq] at h
  | k :: l, x :: a, y :: b, r, h => by
    simp only [scalarsEq] at h
    split at h
    · have := scalarsEq_length h; simp [this]
    · split at h
      · rename_i hq
        have := scalarsEq_length hq; simp [this]
      · simp at h
    · simp at h

/-- A part of one cell. -/
theorem run_part1 {P : Program} {t : TypeId} {d : TypeDesc} {k : SK} (hd : P.underlying t = some d) (hk : skD k d) (cs : Array Value) (i : Nat) (v : Value) (hv : cs[i]? = some v) (w : World) :
    (part t cs i).run P w = .ok v w := by
  cases k <;> cases d <;> simp [skD] at hk <;> simp [part, isAgg, underlying, hd, hv]

theorem eqFields_ok {P : Program} {R : Ren} (n : Nat) (A B : List AV) : ∀ (fs : List Field) (l : List SK) (i : Nat) (a b : List AV) (r : Bool),
    fs.map (·.offset) = List.range' i l.length → (∀ f ∈ fs, f.name ≠ "_") → (∀ (j : Nat) (f : Field) (k : SK), fs[j]? = some f → l[j]? = some k → ∃ d, P.underlying f.type = some d ∧ skD k d) →
    A.drop i = a → B.drop i = b → scalarsEq l a b = some r → ∀ w, (Op.eqFields (n + 1) ⟨concL R A⟩ ⟨concL R B⟩ fs).run P w = .ok r w
  | [], l, i, a, b, r, ho, _, _, ha, hb, h, w => by
    have : l = [] := by
      have := congrArg List.length ho
      simp at this
      exact List.length_eq_zero_iff.1 this.symm
    subst this
    have := scalarsEq_length h
    cases a <;> cases b <;> simp at this
    simp [scalarsEq] at h
    simp [Op.eqFields, h]
  | f :: fs, [], i, a, b, r, ho, _, _, _, _, _, w => by simp at ho
  | f :: fs, k :: l, i, a, b, r, ho, hn, hf, ha, hb, h, w => by
    simp only [List.map_cons, List.length_cons, List.range'_succ, List.cons.injEq] at ho
    obtain ⟨ho1, ho2⟩ := ho
    obtain ⟨d, hd, hk⟩ := hf 0 f k rfl rfl
    cases a with
    | nil => cases b <;> simp [scalarsEq] at h
    | cons x a =>
      cases b with
      | nil => simp [scalarsEq] at h
      | cons y b =>
        have hx : A[i]? = some x := by rw [← List.head?_drop, ha]; rfl
        have hy : B[i]? = some y := by rw [← List.head?_drop, hb]; rfl
        have ha' : A.drop (i + 1) = a := by
          have := congrArg (List.drop 1) ha
          rw [List.drop_drop] at this; simpa using this
        have hb' : B.drop (i + 1) = b := by
          have := congrArg (List.drop 1) hb
          rw [List.drop_drop] at this; simpa using this
        have h1 := run_part1 hd hk (⟨concL R A⟩ : Array Value) i (conc R x) (by simp [hx]) w
        have h2 := run_part1 hd hk (⟨concL R B⟩ : Array Value) i (conc R y) (by simp [hy]) w
        have hname : f.name ≠ "_" := hn f (by simp)
        simp only [scalarsEq] at h
        simp only [Op.eqFields, if_pos hname, Sem.run_bind, ho1, h1, h2, Result.andThen_ok]
        split at h
        · rename_i he
          rw [scalarEq_ok he hd hk n w]
          simp only [Result.andThen_ok, Bool.not_true, Bool.false_eq_true, if_false]
          exact eqFields_ok n A B fs l (i + 1) a b r ho2 (fun g hg => hn g (by simp [hg])) (fun j g kk hj hl => hf (j + 1) g kk (by simpa using hj) (by simpa using hl)) ha' hb' h w
        · rename_i he
          rw [scalarEq_ok he hd hk n w]
          split at h
          · simp at h; simp [h]
          · simp at h
        · simp at h

theorem structEq_ok {P : Program} {R : Ren} {t : TypeId} {d : TypeDesc} {l : List SK} (hd : P.underlying t = some d) (hs : SkOk P t d l) {a b : List AV} {r : Bool} (h : scalarsEq l a b = some r) (n : Nat) (w : World) :
    (Op.equalIn (n + 2) t (.agg ⟨concL R a⟩) (.agg ⟨concL R b⟩)).run P w = .ok r w := by
  obtain ⟨fs, rfl, h1, h2, h3⟩ := hs.st
  have hf : P.fieldsOf t = fs := by simp [Program.fieldsOf, hd]
  rw [run_equalIn_struct w (n + 1) t _ _ (by rw [hf]; exact hd) hs.own, hf]
  exact eqFields_ok n a b fs.toList l 0 a b r (by rw [h1, List.range_eq_range']) h2 h3 (by simp) (by simp) h w

end Go.Vx
set_option linter.unusedSectionVars false
set_option linter.unusedSimpArgs false
set_option linter.unusedVariables false
namespace Go.Vx
open Go.RowKit

/-- The frame fits the slots. -/
structure FrOk (R : Ren) (nx : Nat) (f : Fr) (a : Act) : Prop where
  size : a.tmps.size = f.n
  tmp : ∀ t, t < f.n → a.tmps[t]? = some (conc R ((f.T.get t).getD (.tup [])))
  out : ∀ t, f.n ≤ t → f.T.get t = none
  bnd : ∀ t v, f.T.get t = some v → Bnd nx v
  glob : ∀ g, g < f.G → R.blk g = g ∧ g < nx
  le : f.n ≤ 1024

def Gives (n : Next) (v : Value) : Prop := n = .value v ∨ (n = .skip ∧ v = undef)

/-- What a step comes to. -/
def Res (P : Program) (sem : Sem Next) (lo : Nat) (R : Ren) (s : St) (w : World) (v : AV) (s' : St) : Prop :=
  ∃ R' n w', sem.run P w = .ok n w' ∧ Gives n (conc R' v) ∧ Rel R' s' w' ∧ Mv lo R s w R' s' w' ∧ Bnd s'.nx v

theorem FrOk.ev {R : Ren} {nx : Nat} {f : Fr} {a : Act} (h : FrOk R nx f a) {o : Operand} {v : AV} (hv : evX o f = some v) : a.eval o = conc R v ∧ Bnd nx v := by
  cases o with
  | tmp t =>
    have he : evT t f = some ((f.T.get t).getD (.tup [])) := by
      unfold evT; cases f.T.get t <;> rfl
    rw [show evX (.tmp t) f = evT t f from rfl, he] at hv
    obtain rfl := Option.some.inj hv
    have hb : Bnd nx ((f.T.get t).getD (.tup [])) := by
      cases hg : f.T.get t with
      | none => simp [Bnd, BndL]
      | some v => exact h.bnd t v hg
    refine ⟨?_, hb⟩
    by_cases ht : t < f.n
    · simp [Act.eval, h.tmp t ht]
    · rw [h.out t (Nat.le_of_not_lt ht)]
      have : a.tmps[t]? = none := by rw [Array.getElem?_eq_none_iff, h.size]; exact Nat.le_of_not_lt ht
      simp [Act.eval, this, conc, concL, undef]
  | const c =>
    have hq : quote c = some v := hv
    have := quote_ok R hq
    exact ⟨this.1.symm, this.2.mono (Nat.zero_le _)⟩
  | global g =>
    have hg : (match Nat.ble (Nat.succ g) f.G with | true => some (AV.ptr g 0) | false => none) = some v := hv
    split at hg
    · rename_i hl
      have hl := Nat.le_of_ble_eq_true hl
      obtain rfl := Option.some.inj hg
      have := h.glob g hl
      exact ⟨by simp [Act.eval, conc, this.1], by simpa [Bnd] using this.2⟩
    · simp at hg
  | func g =>
    obtain rfl := Option.some.inj (show some (AV.fn g [] []) = some v from hv)
    exact ⟨by simp [Act.eval, conc, concL], by simp [Bnd, BndL]⟩

theorem FrOk.operands {R : Ren} {nx : Nat} {f : Fr} {a : Act} (h : FrOk R nx f a) : ∀ {l : List Operand} {m : List AV}, operandsX l f = some m → l.map a.eval = concL R m ∧ BndL nx m
  | [], m, hm => by simp [operandsX] at hm; subst hm; simp [concL, BndL]
  | x :: l, m, hm => by
    unfold operandsX at hm
    split at hm
    · simp at hm
    · rename_i v hv
      split at hm
      · simp at hm
      · rename_i m' hm'
        obtain rfl := Option.some.inj hm
        have h1 := h.ev hv
        have h2 := h.operands hm'
        exact ⟨by simp [concL, h1.1, h2.1], h1.2, h2.2⟩

theorem FrOk.operandsA {R : Ren} {nx : Nat} {f : Fr} {a : Act} (h : FrOk R nx f a) {l : Array Operand} {m : List AV} (hm : operandsX l.toList f = some m) : l.map a.eval = ⟨concL R m⟩ ∧ BndL nx m := by
  have := h.operands hm
  refine ⟨?_, this.2⟩
  apply Array.ext'
  simp [this.1]

theorem FrOk.parts {R : Ren} {nx : Nat} {f : Fr} {a : Act} (h : FrOk R nx f a) : ∀ {l : List (Nat × Operand)} {m : List (Nat × AV)}, partsX l f = some m →
    (l.map fun (i, x) => (i, a.eval x)) = m.map (fun p => (p.1, conc R p.2)) ∧ ∀ p ∈ m, Bnd nx p.2
  | [], m, hm => by simp [partsX] at hm; subst hm; simp
  | (i, x) :: l, m, hm => by
    unfold partsX at hm
    split at hm
    · simp at hm
    · rename_i v hv
      split at hm
      · simp at hm
      · rename_i m' hm'
        obtain rfl := Option.some.inj hm
        have h1 := h.ev hv
        have h2 := h.parts hm'
        refine ⟨by simp [h1.1]; simpa using h2.1, fun p hp => ?_⟩
        rcases List.mem_cons.1 hp with rfl | hp
        · exact h1.2
        · exact h2.2 p hp

theorem ret1_some {o : Option AV} {s s' : St} {v : AV} (h : ret1 o s = some (v, s')) : o = some v ∧ s' = s := by
  cases o <;> simp [ret1] at h
  exact ⟨by rw [h.1], h.2.symm⟩

section
variable {P : Program} {lo : Nat} {R : Ren} {s : St} {w : World}

theorem res_pure (hR : Rel R s w) {sem : Sem Next} {v : AV} (h : sem.run P w = .ok (.value (conc R v)) w) (hb : Bnd s.nx v) : Res P sem lo R s w v s :=
  ⟨R, _, w, h, .inl rfl, hR, Mv.refl lo R s w, hb⟩

/-- A step that gives the value of a piece. -/
theorem res_val (hR : Rel R s w) {sem : Sem Value} {v : AV} (h : sem.run P w = .ok (conc R v) w) (hb : Bnd s.nx v) : Res P (do pure (.value (← sem))) lo R s w v s :=
  res_pure hR (by simp [h]) hb

/-- A new row of cells. -/
theorem new_row (hR : Rel R s w) (hlo : lo ≤ s.nx) {l : List AV} {e : TypeId} {r : AV × St} (h : newX s l e = some r) (hb : BndL s.nx l) :
    r.1 = .ptr s.nx 0 ∧ ∃ R', R'.blk s.nx = w.heap.size ∧ Rel R' r.2 { w with heap := w.heap.push (.cells ⟨concL R l⟩ e) } ∧ Mv lo R s w R' r.2 { w with heap := w.heap.push (.cells ⟨concL R l⟩ e) } ∧ r.2.nx = s.nx + 1 := by
  unfold newX at h
  split at h
  · rename_i hr
    have hr : s.nx < lim := Nat.le_of_ble_eq_true hr
    rw [listK_eq, addK_eq] at h
    obtain rfl := Option.some.inj h
    have hag := R.name_agree s.nx w.heap.size 0
    have := rel_new (lo := lo) hR hlo hr (.row l e .ex) (.cells ⟨concL R l⟩ e) 0 (hb.mono (Nat.le_succ _)) (by
      simp only [ORel]
      exact ⟨trivial, by rw [concL_agree hag hb], free_zero _⟩)
    exact ⟨rfl, R.name s.nx w.heap.size 0, by simp, this.1, this.2, rfl⟩
  · simp at h

theorem res_new (hR : Rel R s w) (hlo : lo ≤ s.nx) {l : List AV} {e : TypeId} {v : AV} {s' : St} (h : newX s l e = some (v, s')) (hb : BndL s.nx l) {sem : Sem Value}
    (hs : sem.run P w = .ok (.pointer (some ⟨w.heap.size, 0, none⟩)) { w with heap := w.heap.push (.cells ⟨concL R l⟩ e) }) : Res P (do pure (.value (← sem))) lo R s w v s' := by
  obtain ⟨h1, R', h2, h3, h4, h5⟩ := new_row hR hlo h hb
  simp only at h1 h3 h4 h5
  refine ⟨R', _, _, by simp [hs]; rfl, .inl ?_, h3, h4, ?_⟩
  · rw [h1]; simp [conc, h2]
  · rw [h1]; simp [Bnd, h5]

end

section
variable {E : Env} {P : Program} (hE : E.Ok P) {lo : Nat} {R : Ren} {s s' : St} {w : World} {f : Fr} {a : Act} {v : AV} (hR : Rel R s w) (hF : FrOk R s.nx f a) (hlo : lo ≤ s.nx)

include hR hF in
theorem move_ok {x : Operand} (h : moveX x E lo f s = some (v, s')) : Res P (pure (.value (a.eval x))) lo R s w v s' := by
  obtain ⟨h1, rfl⟩ := ret1_some h
  have := hF.ev h1
  exact res_pure hR (by simp [this.1]) this.2

include hR hF in
theorem pick_ok {c x y : Operand} (h : pickX c x y E lo f s = some (v, s')) : Res P (do pure (.value (if ← asBool (a.eval c) then a.eval x else a.eval y))) lo R s w v s' := by
  unfold pickX pickV at h
  split at h
  · rename_i hc
    obtain ⟨h1, rfl⟩ := ret1_some h
    have := hF.ev h1
    exact res_pure hR (by simp [(hF.ev hc).1, conc, asBool, this.1]) this.2
  · rename_i hc
    obtain ⟨h1, rfl⟩ := ret1_some h
    have := hF.ev h1
    exact res_pure hR (by simp [(hF.ev hc).1, conc, asBool, this.1]) this.2
  · simp at h

include hE hR hlo in
theorem alloc_ok {t : TypeId} (h : allocX t E lo f s = some (v, s')) : Res P (do pure (.value (← Instr.alloc t true (.tuple #[])))) lo R s w v s' := by
  unfold allocX at h
  split at h
  · rename_i z hz
    have := run_zero hE R hz
    refine res_new hR hlo h ((cellsA_bnd this.2).mono (Nat.zero_le _)) ?_
    simp [Instr.alloc, newVar, newRow, this.1 w, cells_conc]
  · simp at h

include hR hF hlo in
theorem box_ok {t : TypeId} {x : Operand} (h : boxX t x E lo f s = some (v, s')) : Res P (do pure (.value (← Instr.box t (a.eval x)))) lo R s w v s' := by
  unfold boxX at h
  split at h
  · rename_i z hz
    have := hF.ev hz
    refine res_new hR hlo h (cellsA_bnd this.2) ?_
    simp [Instr.box, newVar, newRow, this.1, cells_conc]
  · simp at h

include hE hR hF in
theorem load_ok {t : TypeId} {x : Operand} (h : loadO t x E lo f s = some (v, s')) : Res P (do pure (.value (← Instr.loadAt t (a.eval x)))) lo R s w v s' := by
  unfold loadO loadV at h
  split at h
  · rename_i b o hp
    obtain ⟨h1, rfl⟩ := ret1_some h
    have h2 := run_loadVar hE hR h1
    refine res_val hR ?_ h2.2
    simp [Instr.loadAt, Instr.sureAddr, (hF.ev hp).1, conc, h2.1]
  · simp at h

include hE hR hF in
theorem store_ok {t : TypeId} {x y : Operand} (h : storeO t x y E lo f s = some (v, s')) : Res P (do Instr.storeAt t (a.eval x) (a.eval y); pure .skip) lo R s w v s' := by
  unfold storeO storeV at h
  split at h
  · rename_i b o hp
    split at h
    · rename_i u hu
      cases hs : storeX E lo s t b o u with
      | none => simp [hs, skipSt] at h
      | some s1 =>
        simp only [hs, skipSt, Option.some.injEq, Prod.mk.injEq] at h
        obtain ⟨rfl, rfl⟩ := h
        have hu := hF.ev hu
        obtain ⟨w', h1, h2, h3, h4⟩ := run_storeVar hE hR hs hu.2
        refine ⟨R, .skip, w', ?_, .inr ⟨rfl, rfl⟩, h2, h3, by simp [Bnd, BndL]⟩
        simp [Instr.storeAt, Instr.sureAddr, (hF.ev hp).1, hu.1, conc, h1]
    · simp at h
  · simp at h

include hR hF in
theorem nilCheck_ok {x : Operand} (h : nilCheckX x E lo f s = some (v, s')) (g : Sem Next) (hg : ∀ u, a.eval x = u → (∀ b, u = .pointer (some b) → g = pure (.value u)) ∧ (∀ t y, u = .iface t y → g = pure (.value u)) ∧ (∀ n fi ca, u = .func (.func n) fi ca → g = pure (.value u))) :
    Res P g lo R s w v s' := by
  unfold nilCheckX nilOk at h
  split at h
  · rename_i b o hp
    obtain ⟨rfl, rfl⟩ := Prod.mk.inj (Option.some.inj h)
    have h1 := hF.ev hp
    have := (hg _ h1.1).1 _ rfl
    exact res_pure hR (by rw [this]; simp) h1.2
  · rename_i t y hp
    obtain ⟨rfl, rfl⟩ := Prod.mk.inj (Option.some.inj h)
    have h1 := hF.ev hp
    have := (hg _ h1.1).2.1 _ _ rfl
    exact res_pure hR (by rw [this]; simp) h1.2
  · rename_i n fi ca hp
    obtain ⟨rfl, rfl⟩ := Prod.mk.inj (Option.some.inj h)
    have h1 := hF.ev hp
    have := (hg _ h1.1).2.2 _ _ _ rfl
    exact res_pure hR (by rw [this]; simp) h1.2
  · simp at h

theorem same_addr (x : Addr) : (sameAddr x x).run P w = .ok true w := by simp [sameAddr]

include hE in
theorem eqX_ok {t : TypeId} {x y : AV} {r : Bool} (h : eqX E t x y = some r) : (Op.equal t (conc R x) (conc R y)).run P w = .ok r w := by
  have gen : ∀ n, (Op.equalIn (n + 2) t (conc R x) (conc R y)).run P w = .ok r w := by
    intro n
    unfold eqX at h
    split at h <;> rename_i hu
    case h_18 =>
      split at h
      · rename_i q hq
        split at h
        · rename_i l hl
          have := hE.ty t q hq
          have hd : E.und t = some q.d := by simp [Env.und, hq]
          rw [hu] at hd
          have hd := Option.some.inj hd
          rw [conc, conc]
          exact structEq_ok (this.2.1) (this.2.2 l hl) h n w
        · simp at h
      · simp at h
    case h_19 => simp at h
    case h_5 =>
      rename_i e b o c p
      unfold ptrEq at h
      split at h
      · rename_i q hq
        split at h
        · rename_i hc
          obtain rfl := Option.some.inj h
          simp only [Bool.and_eq_true] at hc
          obtain rfl := Nat.eq_of_beq_eq_true hc.1
          obtain rfl := Nat.eq_of_beq_eq_true hc.2
          have := hE.ty e q hq
          simp only [conc]
          simp [Op.equalIn, run_und hE (w := w) hu, sizeOf, typeInfo, this.1, same_addr]
        · simp at h
      · simp at h
    case h_8 =>
      rename_i ms t1 v1 t2 v2
      have hu' := run_und hE (w := w) hu
      by_cases ht : t1 = t2
      · subst ht
        rw [if_pos rfl] at h
        unfold ifcEq at h
        split at h
        · rename_i q hq
          split at h
          · rename_i hcmp
            have hty := hE.ty t1 q hq
            have fin : ∀ k, skD k q.d → scalarEq k v1 v2 = some r → (Op.equalIn (n + 2) t (conc R (.ifc t1 v1)) (conc R (.ifc t1 v2))).run P w = .ok r w := by
              intro k hk hs
              have h1 := scalarEq_ok (P := P) (R := R) hs hty.2.1 hk n w
              rw [Op.equalIn]
              simp [conc, hu', typeInfo, hty.1, hcmp, h1]
            split at h
            · rename_i hd; exact fin .i (by rw [hd]; trivial) h
            · rename_i hd; exact fin .s (by rw [hd]; trivial) h
            · simp at h
          · simp at h
        · simp at h
      · rw [if_neg ht] at h
        obtain rfl := Option.some.inj h
        rw [Op.equalIn]
        simp [conc, hu', ht]
    all_goals
      have hu' := run_und hE (w := w) hu
      rw [Op.equalIn]
      simp only [conc, Sem.run_bind, hu', Result.andThen_ok]
    all_goals first
      | (obtain rfl := Option.some.inj h; simp; done)
      | (rename_i p q; obtain rfl := Option.some.inj h; cases p <;> cases q <;> simp; done)
      | (split at h
         · simp at h
         · rename_i hne; obtain rfl := Option.some.inj h; simp [hne])
  exact gen 9998

include hE in
theorem equal_nil {t : TypeId} {ms : Array (String × TypeId)} (hu : E.und t = some (.interface ms)) : (Op.equal t .nilIface .nilIface).run P w = .ok true w := by
  have gen : ∀ n, (Op.equalIn (n + 1) t .nilIface .nilIface).run P w = .ok true w := by
    intro n
    rw [Op.equalIn]
    simp [run_und hE (w := w) hu]
  exact gen 9999

theorem eqGuard_other {op : BinOp} {t : TypeId} {x y : Operand} {u v : Value} (h : ¬ (u = .nilIface ∧ v = .nilIface)) (h' : ∀ a b, ¬ (u = .agg a ∧ v = .agg b)) : (eqGuard op t x y u v).run P w = .ok () w := by
  cases op <;> cases u <;> first
    | rfl
    | (cases v <;> first
        | rfl
        | (exact absurd ⟨rfl, rfl⟩ h)
        | (exact absurd ⟨rfl, rfl⟩ (h' _ _)))

theorem nilConst_ok {x : Operand} (h : nilConst x = true) : x = .const .nilIface := by
  unfold nilConst at h
  split at h
  · rfl
  · simp at h

include hE in
theorem binEq_ok {t : TypeId} {p q : AV} {r : Bool} (h : eqX E t p q = some r) (op : BinOp) (x y : Operand) :
    (eqGuard op t x y (conc R p) (conc R q)).run P w = .ok () w ∧ binOp .eql t (conc R p) (conc R q) = (do pure (.bool (← Op.equal t (conc R p) (conc R q)))) ∧
    binOp .neq t (conc R p) (conc R q) = (do pure (.bool (!(← Op.equal t (conc R p) (conc R q))))) := by
  unfold eqX at h
  split at h <;> rename_i hu
  case h_18 =>
    split at h
    · rename_i z hz
      split at h
      · rename_i l hl
        have := (hE.ty t z hz).2.2 l hl
        exact ⟨run_eqGuard_agg w op t x y _ _ this.eg, rfl, rfl⟩
      · simp at h
    · simp at h
  case h_19 => simp at h
  all_goals exact ⟨eqGuard_other (by simp [conc]) (by simp [conc]), rfl, rfl⟩

include hE in
theorem binX_ok {op : BinOp} {t : TypeId} {x y : Operand} {p q : AV} (h : binX E op t x y p q = some v) :
    (do eqGuard op t x y (conc R p) (conc R q); binOp op t (conc R p) (conc R q) : Sem Value).run P w = .ok (conc R v) w ∧ Bnd 0 v := by
  unfold binX at h
  split at h
  · -- two integers
    split at h
    · have := runV_ok (P := P) R h
      refine ⟨?_, this.2⟩
      simp only [conc, Sem.run_bind, eqGuard_other (P := P) (w := w) (op := .shl) (t := t) (x := x) (y := y) (u := .int _ _) (v := .int _ _) (by simp) (by simp), Result.andThen_ok]
      exact this.1 w
    · have := runV_ok (P := P) R h
      refine ⟨?_, this.2⟩
      simp only [conc, Sem.run_bind, eqGuard_other (P := P) (w := w) (op := .shr) (t := t) (x := x) (y := y) (u := .int _ _) (v := .int _ _) (by simp) (by simp), Result.andThen_ok]
      exact this.1 w
    · rename_i h1 h2
      split at h
      · rename_i hk
        obtain rfl := kindEq_eq.1 hk
        exact binI_ok (P := P) R ⟨h1, h2⟩ h t x y w
      · simp at h
  · exact binS_ok (P := P) R h t x y w
  · have := runV_ok (P := P) R h
    exact ⟨this.1 w, this.2⟩
  · have := runV_ok (P := P) R h
    exact ⟨this.1 w, this.2⟩
  · split at h
    · rename_i ms hu hc
      obtain rfl := Option.some.inj h
      have hc : x = .const .nilIface ∨ y = .const .nilIface := by
        rcases (Bool.or_eq_true _ _).mp hc with hx | hy
        · exact .inl (nilConst_ok hx)
        · exact .inr (nilConst_ok hy)
      refine ⟨?_, by simp [Bnd]⟩
      rcases hc with rfl | rfl <;> simp [conc, eqGuard, binOp, equal_nil hE hu]
    · rename_i ms hu hc
      obtain rfl := Option.some.inj h
      have hc : x = .const .nilIface ∨ y = .const .nilIface := by
        rcases (Bool.or_eq_true _ _).mp hc with hx | hy
        · exact .inl (nilConst_ok hx)
        · exact .inr (nilConst_ok hy)
      refine ⟨?_, by simp [Bnd]⟩
      rcases hc with rfl | rfl <;> simp [conc, eqGuard, binOp, equal_nil hE hu]
    · simp at h
  · split at h
    · obtain ⟨r, hr, rfl⟩ := Option.map_eq_some_iff.1 h
      have h1 := binEq_ok hE (P := P) (R := R) (w := w) hr .eql x y
      refine ⟨?_, by simp [Bnd]⟩
      simp [h1.1, h1.2.1, eqX_ok hE (P := P) (R := R) (w := w) hr, conc]
    · obtain ⟨r, hr, rfl⟩ := Option.map_eq_some_iff.1 h
      have h1 := binEq_ok hE (P := P) (R := R) (w := w) hr .neq x y
      refine ⟨?_, by simp [Bnd]⟩
      simp [h1.1, h1.2.2, eqX_ok hE (P := P) (R := R) (w := w) hr, conc]
    · simp at h

end
end Go.Vx
set_option linter.unusedSectionVars false
set_option linter.unusedSimpArgs false
set_option linter.unusedVariables false
namespace Go.Vx
open Go.RowKit

theorem intOfX_ok {R : Ren} {v : AV} {n : Nat} (h : intOfX v = some n) : ∃ k, conc R v = .int k (n : Int) := by
  unfold intOfX at h
  split at h
  · rename_i k m
    obtain rfl := Option.some.inj h
    exact ⟨k, rfl⟩
  · simp at h

theorem over_lay {R : Ren} {l : List AV} {o : Nat} {vs : List AV} (h : o + vs.length ≤ l.length) : over' ⟨concL R l⟩ o (concL R vs) = ⟨concL R (layX l o vs)⟩ := by
  apply Array.ext_getElem?
  intro j
  rw [over'_get _ _ _ _ (by simp; omega)]
  simp only [List.getElem?_toArray, concL_getElem?, concL_length]
  rw [layX_get _ _ _ _ h]
  split <;> rfl

theorem foldl_over (off : Nat) : ∀ (vs : List Value) (k : Nat) (c : Array Value), (vs.zipIdx k).foldl (fun cs (x : Value × Nat) => cs.setIfInBounds (off + x.2) x.1) c = over' c (off + k) vs
  | [], _, _ => rfl
  | v :: vs, k, c => by
    simp only [List.zipIdx_cons, List.foldl_cons, over']
    rw [foldl_over off vs (k + 1)]
    rfl

theorem fill_ok {R : Ren} {p : Nat → Option (Nat × Nat)} : ∀ {parts : List (Nat × AV)} {cells l : List AV}, fillX p cells parts = some l →
    Instr.fill p ⟨concL R cells⟩ (parts.map fun q => (q.1, conc R q.2)) = some ⟨concL R l⟩ ∧ (∀ n, BndL n cells → (∀ q ∈ parts, Bnd n q.2) → BndL n l)
  | [], cells, l, h => by simp [fillX] at h; subst h; simp [Instr.fill]
  | (i, v) :: rest, cells, l, h => by
    unfold fillX at h
    split at h
    · simp at h
    · rename_i off size hp
      split at h
      · rename_i hc
        simp only [Bool.and_eq_true] at hc
        have h1 : (cellsA v).length = size := Nat.eq_of_beq_eq_true hc.1
        have h2 : off + size ≤ cells.length := Nat.le_of_ble_eq_true hc.2
        have ih := fill_ok (R := R) h
        refine ⟨?_, fun n hn hq => ih.2 n (BndL_iff.2 fun x hx => ?_) fun q hq' => hq q (by simp [hq'])⟩
        · simp only [List.map_cons, Instr.fill, hp, cells_conc]
          rw [if_neg (by simp [h1]; omega)]
          rw [← ih.1]
          congr 1
          rw [← over_lay (by omega)]
          have := foldl_over off (concL R (cellsA v)) 0 ⟨concL R cells⟩
          rw [Nat.add_zero] at this
          rw [← this]
          simp
        · rcases layX_mem hx with hx | hx
          · exact BndL_iff.1 hn x hx
          · exact BndL_iff.1 (cellsA_bnd (hq (i, v) (by simp))) x hx
      · simp at h

theorem zerosX_get (z : List AV) : ∀ (n j : Nat), j < n * z.length → (zerosX z n)[j]? = z[j % z.length]?
  | 0, j, h => by simp at h
  | n + 1, j, h => by
    unfold zerosX
    by_cases hj : j < z.length
    · rw [List.getElem?_append_left hj, Nat.mod_eq_of_lt hj]
    · rw [List.getElem?_append_right (by omega), zerosX_get z n _ (by rw [Nat.add_mul] at h; omega)]
      congr 1
      rw [← Nat.mod_eq_sub_mod (by omega)]

theorem zerosX_length (z : List AV) (n : Nat) : (zerosX z n).length = n * z.length := by
  induction n with
  | zero => simp [zerosX]
  | succ n ih => simp [zerosX, ih, Nat.add_mul]; omega

theorem zerosX_mem {z : List AV} {n : Nat} {x : AV} (h : x ∈ zerosX z n) : x ∈ z := by
  induction n with
  | zero => simp [zerosX] at h
  | succ n ih =>
    simp only [zerosX, List.mem_append] at h
    exact h.elim id ih

theorem zeros_ok {R : Ren} (z : List AV) (n esz : Nat) (hz : z.length = esz) :
    (Array.range (n * esz)).map (fun i => (⟨concL R z⟩ : Array Value)[i % (⟨concL R z⟩ : Array Value).size]!) = ⟨concL R (zerosX z n)⟩ := by
  apply Array.ext_getElem?
  intro j
  simp only [Array.getElem?_map, List.getElem?_toArray, concL_getElem?]
  by_cases hj : j < n * esz
  · have hpos : 0 < z.length := by
      rcases Nat.eq_zero_or_pos z.length with h0 | h0
      · rw [← hz, h0] at hj; simp at hj
      · exact h0
    rw [zerosX_get z n j (by rw [hz]; exact hj)]
    have hm : j % z.length < z.length := Nat.mod_lt _ hpos
    simp [hj, hm, concL_map]
  · rw [List.getElem?_eq_none (by rw [zerosX_length, hz]; omega)]
    simp [hj]

section
variable {E : Env} {P : Program} (hE : E.Ok P) {lo : Nat} {R : Ren} {s s' : St} {w : World} {f : Fr} {a : Act} {v : AV} (hR : Rel R s w) (hF : FrOk R s.nx f a) (hlo : lo ≤ s.nx)

include hE in
theorem places_ok : ∀ {fs : List Field} {m : List (Nat × Nat)}, placesX E fs = some m → (fs.mapM fun f => do pure (f.offset, ← sizeOf f.type) : Sem (List (Nat × Nat))).run P w = .ok m w
  | [], m, h => by simp [placesX] at h; subst h; simp
  | f :: fs, m, h => by
    unfold placesX at h
    split at h
    · simp at h
    · rename_i n hn
      split at h
      · simp at h
      · rename_i m' hm'
        obtain rfl := Option.some.inj h
        have ih := places_ok hm'
        simp only [bind_pure_comp] at ih
        simp [List.mapM_cons, run_size hE hn, ih]

theorem map_parts {R : Ren} {nx : Nat} {f : Fr} {a : Act} (h : FrOk R nx f a) {ps : Array (Nat × Operand)} {m : List (Nat × AV)} (hm : partsX ps.toList f = some m) :
    (ps.map fun (i, x) => (i, a.eval x)).toList = m.map (fun p => (p.1, conc R p.2)) := by
  have := (h.parts hm).1
  simpa using this

include hE hR hF in
theorem build_ok {t : TypeId} {ps : Array (Nat × Operand)} (h : buildX t ps E lo f s = some (v, s')) :
    Res P (do pure (.value (← Instr.build t (ps.map fun (i, x) => (i, a.eval x))))) lo R s w v s' := by
  unfold buildX at h
  split at h
  · simp at h
  · rename_i d hd
    split at h
    · simp at h
    · rename_i z hz
      split at h
      · simp at h
      · rename_i parts hp
        have h1 := run_zero hE R hz
        have h2 := map_parts hF hp
        have h3 := (hF.parts hp).2
        unfold buildD at h
        split at h
        · rename_i fs
          split at h
          · rename_i m hm
            cases hf : fillX (fun i => m[i]?) (cellsA z) parts with
            | none => simp [hf, aggOf] at h
            | some l =>
              simp only [hf, aggOf, Option.some.injEq, Prod.mk.injEq] at h
              obtain ⟨rfl, rfl⟩ := h
              have h4 := fill_ok (R := R) hf
              refine res_val hR ?_ ?_
              · simp only [Instr.build, Sem.run_bind, h1.1 w, Result.andThen_ok, run_und hE hd, Array.mapM_eq_mapM_toList, Sem.run_map, places_ok hE hm, h2]
                simp only [List.getElem?_toArray, cells_conc, h4.1]
                simp [conc]
              · simp only [Bnd]
                exact h4.2 _ ((cellsA_bnd h1.2).mono (Nat.zero_le _)) h3
          · simp at h
        · rename_i n e
          split at h
          · rename_i k hk
            cases hf : fillX (fun i => some (i * k, k)) (cellsA z) parts with
            | none => simp [hf, aggOf] at h
            | some l =>
              simp only [hf, aggOf, Option.some.injEq, Prod.mk.injEq] at h
              obtain ⟨rfl, rfl⟩ := h
              have h4 := fill_ok (R := R) hf
              refine res_val hR ?_ ?_
              · simp only [Instr.build, Sem.run_bind, h1.1 w, Result.andThen_ok, run_und hE hd, run_size hE hk, h2]
                simp only [cells_conc, h4.1]
                simp [conc]
              · simp only [Bnd]
                exact h4.2 _ ((cellsA_bnd h1.2).mono (Nat.zero_le _)) h3
          · simp at h
        · simp at h

/-- A new slice over a new row of cells. -/
theorem res_slice (hR : Rel R s w) (hlo : lo ≤ s.nx) {l : List AV} {e : TypeId} {n m : Nat} {v : AV} {s' : St} (h : sliceNew s n m (newX s l e) = some (v, s')) (hb : BndL s.nx l) (hm : m < big) {sem : Sem Value}
    (hs : sem.run P w = .ok (.slice (some ⟨w.heap.size, 0, none⟩) n m) { w with heap := w.heap.push (.cells ⟨concL R l⟩ e) }) : Res P (do pure (.value (← sem))) lo R s w v s' := by
  cases hn : newX s l e with
  | none => simp [hn, sliceNew] at h
  | some r =>
    obtain ⟨h1, R', h2, h3, h4, h5⟩ := new_row hR hlo hn hb
    simp only [hn, sliceNew, Option.some.injEq, Prod.mk.injEq] at h
    obtain ⟨rfl, rfl⟩ := h
    refine ⟨R', _, _, by simp [hs]; rfl, .inl ?_, h3, h4, ?_⟩
    · simp [conc, h2, Ren.c, hm]
    · simp only [Bnd, h5]
      exact ⟨by omega, .inl hm⟩

include hE hR hF hlo in
theorem buildSlice_ok {t len : Nat} {ps : Array (Nat × Operand)} (h : buildSliceX t len ps E lo f s = some (v, s')) :
    Res P (do pure (.value (← Instr.buildSlice t len (ps.map fun (i, x) => (i, a.eval x))))) lo R s w v s' := by
  unfold buildSliceX at h
  split at h
  · rename_i e hu
    split at h
    · rename_i parts hp
      unfold buildSliceE at h
      split at h
      · simp at h
      · rename_i n hn
        split at h
        · simp at h
        · rename_i z hz
          split at h
          · simp at h
          · rename_i hc
            simp only [Bool.and_eq_true] at hc
            have hc1 := Nat.le_of_ble_eq_true hc.1.1
            have hc2 : (cellsA z).length = n := Nat.eq_of_beq_eq_true hc.1.2
            split at h
            · rename_i l hl
              have h1 := run_zero hE R hz
              have h2 := map_parts hF hp
              have h3 := (hF.parts hp).2
              have h4 := fill_ok (R := R) hl
              have hb : BndL s.nx l := h4.2 _ (BndL_iff.2 fun x hx => (BndL_iff.1 (cellsA_bnd h1.2) x (zerosX_mem hx)).mono (Nat.zero_le _)) h3
              have hlen : len < big := by
                have := Nat.le_of_ble_eq_true hc.2
                unfold big; omega
              · refine res_slice hR hlo h hb hlen ?_
                have hnot : ¬ 16777216 < len * n := by omega
                have h2' : ps.toList.map (fun x => (x.1, a.eval x.2)) = parts.map (fun p => (p.1, conc R p.2)) := by simpa using h2
                by_cases h0 : len * n = 0
                · have e0 : concL R (zerosX (cellsA z) len) = [] := by
                    apply List.eq_nil_of_length_eq_zero
                    rw [concL_length, zerosX_length, hc2]; exact h0
                  have h5 := h4.1
                  rw [e0] at h5
                  simp [Instr.buildSlice, run_und hE hu, run_size hE hn, h0, h2', h5, newRow, show Array.range 0 = #[] from rfl]
                · have hz1 := zeros_ok (R := R) (cellsA z) len n hc2
                  simp at hz1
                  simp [Instr.buildSlice, run_und hE hu, run_size hE hn, h0, h1.1 w, cells_conc, h2', hz1, h4.1, newRow, hnot]
            · simp at h
    · simp at h
  · simp at h

end
end Go.Vx
