/-
  A run told in advance, part nineteen: drawn regions: what holds where some of the operations are done. No condition.
-/
import Derived.Test.YtdglogdigiajbaaGreatDoorVxR
set_option linter.unusedSectionVars false
set_option linter.unusedSimpArgs false
set_option linter.unusedVariables false
namespace Go.Vx
open Go.RowKit

theorem noName0_bnd {v : AV} (n : Nat) (h : noName0 v = true) : Bnd n v := by
  cases v <;> first | (simp [Bnd]; done) | (simp [noName0] at h)

theorem noNames_bnd {v : AV} (n : Nat) : noNames v = true → Bnd n v := by
  induction v using noNames.induct <;> intro h <;> first
    | (simp_all [noNames, Bnd]; done)
    | (simp only [noNames] at h
       simp only [Bnd]
       exact BndL_iff.2 fun x hx => noName0_bnd n (List.all_eq_true.1 h x hx))

theorem below1_bnd {n : Nat} {v : AV} (h : below1 n v = true) : Bnd n v := by
  unfold below1 at h
  split at h
  · exact Nat.le_of_ble_eq_true h
  · simp only [Bool.and_eq_true, Bool.or_eq_true] at h
    refine ⟨Nat.le_of_ble_eq_true h.1, ?_⟩
    rcases h.2 with h2 | h2
    · exact .inl (Nat.le_of_ble_eq_true h2)
    · exact .inr (Nat.le_of_ble_eq_true h2)
  · exact Nat.le_of_ble_eq_true h
  · exact noNames_bnd n h

theorem belowX_bnd {n : Nat} {v : AV} (h : belowX n v = true) : Bnd n v := by
  unfold belowX at h
  split at h
  · simp only [Bnd]
    exact BndL_iff.2 fun x hx => below1_bnd (List.all_eq_true.1 h x hx)
  · simp only [Bnd]
    exact BndL_iff.2 fun x hx => below1_bnd (List.all_eq_true.1 h x hx)
  · exact below1_bnd h

mutual
/-- The names of a value are such. -/
def BndP (p : Nat → Prop) : AV → Prop
  | .ptr b _ => p b
  | .slc b _ _ c => p b ∧ (c < big ∨ p (c - big))
  | .map b => p b
  | .fn _ a c => BndPL p a ∧ BndPL p c
  | .ifc _ v => BndP p v
  | .agg l => BndPL p l
  | .tup l => BndPL p l
  | _ => True
def BndPL (p : Nat → Prop) : List AV → Prop
  | [] => True
  | v :: l => BndP p v ∧ BndPL p l
end

theorem BndPL_iff {p : Nat → Prop} {l : List AV} : BndPL p l ↔ ∀ v ∈ l, BndP p v := by
  induction l with
  | nil => simp [BndPL]
  | cons v l ih => simp [BndPL, ih]

mutual
theorem Bnd.toP {n : Nat} {p : Nat → Prop} (h : ∀ k, k < n → p k) : ∀ {v : AV}, Bnd n v → BndP p v
  | .ptr b o, hb => by simp only [Bnd, BndP] at *; exact h _ hb
  | .slc b o l c, hb => by simp only [Bnd, BndP] at *; exact ⟨h _ hb.1, hb.2.imp id (h _)⟩
  | .map b, hb => by simp only [Bnd, BndP] at *; exact h _ hb
  | .fn f a c, hb => by simp only [Bnd, BndP] at *; exact ⟨BndL.toP h hb.1, BndL.toP h hb.2⟩
  | .ifc t v, hb => by simp only [Bnd, BndP] at *; exact Bnd.toP h hb
  | .agg l, hb => by simp only [Bnd, BndP] at *; exact BndL.toP h hb
  | .tup l, hb => by simp only [Bnd, BndP] at *; exact BndL.toP h hb
  | .bool _, _ | .int _ _, _ | .flt _ _, _ | .cpx _ _ _, _ | .str _, _ | .nilp, _ | .nils, _ | .nilm, _ | .nilf, _ | .nili, _ | .opq _, _ => by simp [BndP]
theorem BndL.toP {n : Nat} {p : Nat → Prop} (h : ∀ k, k < n → p k) : ∀ {l : List AV}, BndL n l → BndPL p l
  | [], _ => by simp [BndPL]
  | v :: l, hb => by simp only [BndL, BndPL] at *; exact ⟨Bnd.toP h hb.1, BndL.toP h hb.2⟩
end

/-- Two meanings agree on such names. -/
structure AgreeP (p : Nat → Prop) (R R' : Ren) : Prop where
  blk : ∀ i, p i → R'.blk i = R.blk i
  cap : ∀ i, p i → R'.cap i = R.cap i
  opq : R'.opq = R.opq

theorem AgreeP.symm {p : Nat → Prop} {R R' : Ren} (h : AgreeP p R R') : AgreeP p R' R := ⟨fun i hi => (h.blk i hi).symm, fun i hi => (h.cap i hi).symm, h.opq.symm⟩

mutual
theorem conc_agreeP {p : Nat → Prop} {R R' : Ren} (h : AgreeP p R R') : ∀ {v : AV}, BndP p v → conc R' v = conc R v
  | .ptr b o, hb => by simp only [BndP] at hb; simp only [conc, h.blk b hb]
  | .slc b o l c, hb => by
    simp only [BndP] at hb
    simp only [conc, h.blk b hb.1, Ren.c]
    rcases hb.2 with hc | hc
    · rw [if_pos hc, if_pos hc]
    · by_cases hc' : c < big
      · rw [if_pos hc', if_pos hc']
      · rw [if_neg hc', if_neg hc', h.cap _ hc]
  | .map b, hb => by simp only [BndP] at hb; simp only [conc, h.blk b hb]
  | .fn f a c, hb => by simp only [BndP] at hb; simp only [conc, concL_agreeP h hb.1, concL_agreeP h hb.2]
  | .ifc t v, hb => by simp only [BndP] at hb; simp only [conc, conc_agreeP h hb]
  | .agg l, hb => by simp only [BndP] at hb; simp only [conc, concL_agreeP h hb]
  | .tup l, hb => by simp only [BndP] at hb; simp only [conc, concL_agreeP h hb]
  | .opq i, _ => by simp only [conc, h.opq]
  | .bool _, _ | .int _ _, _ | .flt _ _, _ | .cpx _ _ _, _ | .str _, _ | .nilp, _ | .nils, _ | .nilm, _ | .nilf, _ | .nili, _ => by simp [conc]
theorem concL_agreeP {p : Nat → Prop} {R R' : Ren} (h : AgreeP p R R') : ∀ {l : List AV}, BndPL p l → concL R' l = concL R l
  | [], _ => by simp [concL]
  | v :: l, hb => by simp only [BndPL] at hb; simp only [concL, conc_agreeP h hb.1, concL_agreeP h hb.2]
end

def OBndP (p : Nat → Prop) : AO → Prop
  | .row l _ (.gr cc _) => BndPL p l ∧ p cc
  | .row l _ _ => BndPL p l
  | .mp es _ => ∀ x ∈ es, BndP p x.1 ∧ BndP p x.2.1
  | .sit _ _ => True
  | .mit m _ _ _ => ∀ r, m = some r → p r

theorem OBndP.row {p : Nat → Prop} {l : List AV} {e : TypeId} {k : RK} (h : OBndP p (.row l e k)) : BndPL p l := by
  cases k <;> simp only [OBndP] at h <;> first | exact h | exact h.1

theorem ORel.agreeP {p : Nat → Prop} {R R' : Ren} (h : AgreeP p R R') {o : AO} (hb : OBndP p o) {x : Obj} (hr : ORel R o x) : ORel R' o x := by
  cases o with
  | row l e k =>
    have hl : ∀ i v, l[i]? = some v → conc R' v = conc R v := fun i v hv => conc_agreeP h (BndPL_iff.1 hb.row v (List.mem_of_getElem? hv))
    cases k with
    | ro =>
      cases x <;> simp only [ORel] at hr ⊢
      exact ⟨hr.1, fun i v hv => by rw [hl i v hv]; exact hr.2 i v hv⟩
    | ex =>
      cases x <;> simp only [ORel] at hr ⊢
      exact ⟨hr.1, by rw [concL_agreeP h hb.row]; exact hr.2.1, hr.2.2⟩
    | gr cc esz =>
      cases x <;> simp only [ORel] at hr ⊢
      exact ⟨hr.1, fun i v hv => by rw [hl i v hv]; exact hr.2.1 i v hv, by rw [h.cap cc hb.2]; exact hr.2.2.1, hr.2.2.2⟩
  | mp es c =>
    cases x <;> simp only [ORel] at hr ⊢
    refine ⟨?_, hr.2⟩
    rw [hr.1]
    congr 1
    refine List.map_congr_left fun y hy => ?_
    have := hb y hy
    simp [entryC, conc_agreeP h this.1, conc_agreeP h this.2]
  | sit s p => cases x <;> simp only [ORel] at hr ⊢; exact hr
  | mit m s t u =>
    cases x <;> simp only [ORel] at hr ⊢
    refine ⟨?_, hr.2⟩
    rw [hr.1]
    cases m with
    | none => rfl
    | some r => simp [h.blk r (hb r rfl)]

/-- Names that are not the operation's: what an operation leaves of the meaning. -/
structure Off (lo hi : Nat) (R R' : Ren) : Prop where
  blk : ∀ k, k < lo ∨ hi ≤ k → R'.blk k = R.blk k
  cap : ∀ k, k < lo ∨ hi ≤ k → R'.cap k = R.cap k
  opq : R'.opq = R.opq

theorem Off.agree {lo hi n : Nat} {R R' : Ren} (h : Off lo hi R R') (hn : n ≤ lo ∨ hi ≤ lo) : Agree n R R' :=
  ⟨fun k hk => h.blk k (by omega), fun k hk => h.cap k (by omega), h.opq⟩

theorem Off.agreeP {lo hi : Nat} {p : Nat → Prop} {R R' : Ren} (h : Off lo hi R R') (hp : ∀ k, p k → k < lo ∨ hi ≤ k) : AgreeP p R R' :=
  ⟨fun k hk => h.blk k (hp k hk), fun k hk => h.cap k (hp k hk), h.opq⟩

/-- Its own names, and those ahead of the region. -/
def Own (n m : Nat) : Nat → Prop := fun k => k < n ∨ m ≤ k

theorem ownN_ok {n m b : Nat} (h : ownN n m b = true) : Own n m b := by
  unfold ownN at h
  rcases (Bool.or_eq_true _ _).mp h with h | h
  · exact .inl (Nat.le_of_ble_eq_true h)
  · exact .inr (by rw [Nat.eq_of_beq_eq_true h]; exact Nat.le_refl _)

theorem own1_ok {n m : Nat} {v : AV} (h : own1 n m v = true) : BndP (Own n m) v := by
  unfold own1 at h
  split at h
  · exact ownN_ok h
  · simp only [Bool.and_eq_true, Bool.or_eq_true] at h
    exact ⟨ownN_ok h.1, h.2.imp (fun h => Nat.le_of_ble_eq_true h) ownN_ok⟩
  · exact ownN_ok h
  · exact Bnd.toP (n := 0) (fun k hk => by omega) (noNames_bnd 0 h)

theorem ownX_ok {n m : Nat} {v : AV} (h : ownX n m v = true) : BndP (Own n m) v := by
  unfold ownX at h
  split at h
  · simp only [BndP]
    exact BndPL_iff.2 fun x hx => own1_ok (List.all_eq_true.1 h x hx)
  · simp only [BndP]
    exact BndPL_iff.2 fun x hx => own1_ok (List.all_eq_true.1 h x hx)
  · exact own1_ok h

theorem ownO_ok {n m : Nat} {o : AO} (h : ownO n m (some o) = true) : OBndP (Own n m) o := by
  unfold ownO at h
  split at h
  · rename_i l e k heq
    obtain rfl := Option.some.inj heq
    simp only [Bool.and_eq_true] at h
    have hl : BndPL (Own n m) l := BndPL_iff.2 fun x hx => own1_ok (List.all_eq_true.1 h.1 x hx)
    cases k with
    | ro => exact hl
    | ex => exact hl
    | gr cc esz => exact ⟨hl, ownN_ok h.2⟩
  · rename_i c heq
    obtain rfl := Option.some.inj heq
    intro x hx
    simp at hx
  · simp at h
  · rename_i heq; simp at heq

/-- A store turns no other block. -/
theorem storeCellsX_get {lo : Nat} {s s' : St} {b o : Nat} {vs : List AV} (h : storeCellsX lo s b o vs = some s') : ∀ n, n ≠ b → s'.get n = s.get n := by
  unfold storeCellsX at h
  split at h
  · rename_i hc
    have hl : b < lim := Nat.le_of_ble_eq_true ((Bool.and_eq_true _ _).mp hc).2
    unfold storeRow at h
    split at h
    · split at h
      · rw [listK_eq, putK_eq] at h
        obtain rfl := Option.some.inj h
        intro n hn
        rw [St.get_put s b n _ hl, if_neg hn]
      · simp at h
    · simp at h
  · simp at h

theorem updateE_get {d : KD} {lo : Nat} {s s' : St} {b : Nat} {k v u : AV} (h : updateE d lo s b k v = some (u, s')) : ∀ n, n ≠ b → s'.get n = s.get n := by
  unfold updateE at h
  split at h
  · simp at h
  · rename_i hc
    have hl : b < lim := Nat.le_of_ble_eq_true ((Bool.and_eq_true _ _).mp hc).2
    split at h
    · unfold putMap at h
      split at h
      · simp at h
      · rw [putK_eq] at h
        obtain ⟨_, rfl⟩ := Prod.mk.inj (Option.some.inj h)
        intro n hn
        rw [St.get_put s b n _ hl, if_neg hn]
      · rw [putK_eq] at h
        obtain ⟨_, rfl⟩ := Prod.mk.inj (Option.some.inj h)
        intro n hn
        rw [St.get_put s b n _ hl, if_neg hn]
    · simp at h

theorem update_get {t : TypeId} {x k y : Operand} {E : Env} {lo : Nat} {f : Fr} {s s' : St} {v : AV} {c : Nat} (h : mapUpdateX t x k y E lo f s = some (v, s')) (hc : blockOf (evX x f) = some c) : ∀ n, n ≠ c → s'.get n = s.get n := by
  unfold mapUpdateX at h
  split at h
  · split at h
    · simp at h
    · rename_i m hm
      rw [hm] at hc
      split at h
      · simp at h
      · split at h
        · simp at h
        · unfold updateV at h
          split at h
          · obtain rfl := Option.some.inj (show some _ = some c from hc)
            split at h
            · exact updateE_get h
            · simp at h
          · simp at h
  · simp at h

theorem stepX_apart {o : Op} {E : Env} {call : CallX} {lo : Nat} {f : Fr} {s s' : St} {v : AV} {x : Operand} {c : Nat} (h : stepX o E call lo f s = some (v, s')) (hk : kindX o = .touch (some x)) (hc : blockOf (evX x f) = some c) :
    ∀ n, n ≠ c → s'.get n = s.get n := by
  cases o <;> simp only [kindX] at hk <;> try (simp at hk; done)
  case call c =>
    split at hk
    · rename_i b _
      cases b <;> simp [kindB] at hk
    · simp at hk
  case store t y z =>
    have hk := Option.some.inj (DK.touch.inj hk)
    subst hk
    have h : storeV t E lo s (evX y f) (evX z f) = some (v, s') := h
    unfold storeV at h
    split at h
    · rename_i b o hb
      rw [hb] at hc
      obtain rfl := Option.some.inj (show some b = some c from hc)
      split at h
      · rename_i u hu
        cases hs : storeX E lo s t b o u with
        | none => simp [hs, skipSt] at h
        | some s1 =>
          simp only [hs, skipSt, Option.some.injEq, Prod.mk.injEq] at h
          obtain ⟨_, rfl⟩ := h
          unfold storeX at hs
          split at hs
          · split at hs
            · exact storeCellsX_get hs
            · simp at hs
          · simp at hs
      · simp at h
    · simp at h
  case mapUpdate t y k z =>
    have hk := Option.some.inj (DK.touch.inj hk)
    subst hk
    exact update_get h hc
  case insert t y k z =>
    have hk := Option.some.inj (DK.touch.inj hk)
    subst hk
    exact update_get h hc

/-- What holds of the heap where the operations of D are done, κ being the place behind the last wild one. -/
def LD (nn : Nat) (S : Nat → St) (D : Nat → Bool) (κ n : Nat) (o : AO) : Prop :=
  (n < (S κ).nx ∧ (S κ).get n = some o) ∨
  ((S κ).nx ≤ n ∧ ∃ j, j < nn ∧ D j = true ∧ κ ≤ j ∧ (S j).nx ≤ n ∧ n < (S (j + 1)).nx ∧ (S (j + 1)).get n = some o ∧ ¬ ∀ k, (S (j + 1)).get k = (S j).get k)

structure InvR (E : Env) (call : CallX) (lo n0 : Nat) (all : List Oper) (bs : List Nat) (F : Nat → Fr) (S : Nat → St) (M : Nat → Met) (V : Nat → AV) (R0 : Ren) (w0 : World) (a0 : Act)
    (D : Nat → Bool) (R : Ren) (κ : Nat) (a : Act) (w : World) : Prop where
  down : ∀ j, D j = true → j < all.length ∧ ∀ b k, bs[j]? = some b → Nat.testBit b k = true → D k = true
  kap1 : κ = 0 ∨ ∃ u, κ = u + 1 ∧ Wild E call lo all bs F S M V u ∧ D u = true
  kap2 : ∀ u, Wild E call lo all bs F S M V u → D u = true → u < κ
  bd : ∀ t, (t = 0 ∨ ∃ u, t = u + 1 ∧ Wild E call lo all bs F S M V u ∧ D u = true) → ∀ n o, (S t).get n = some o → n < (S t).nx ∧ OBnd (S t).nx o
  xb : ∀ j, D j = true → ¬ Wild E call lo all bs F S M V j → (¬ ∀ k, (S (j + 1)).get k = (S j).get k) → ∀ n o, (S j).nx ≤ n → n < (S (j + 1)).nx → (S (j + 1)).get n = some o → OBnd (S (j + 1)).nx o ∧ ∀ i b, i < j → (S i).nx < (S (i + 1)).nx → bs[j]? = some b → Nat.testBit b i = true ∨ OBndP (Own n0 (S j).nx) o
  vb : ∀ j, D j = true → Bnd (S (j + 1)).nx (V j) ∧ ∀ i b, i < j → (S i).nx < (S (i + 1)).nx → bs[j]? = some b → Nat.testBit b i = true ∨ BndP (Own n0 (S j).nx) (V j)
  live : ∀ n o, LD all.length S D κ n o → ∃ x, w.heap[R.blk n]? = some x ∧ ORel R o x
  inj : ∀ n m o o', LD all.length S D κ n o → LD all.length S D κ m o' → R.blk n = R.blk m → n = m
  blk : ∀ n, n < n0 ∨ (S all.length).nx ≤ n → R.blk n = R0.blk n
  cap : ∀ n, n < n0 ∨ (S all.length).nx ≤ n → R.cap n = R0.cap n
  opq : R.opq = R0.opq
  keep : ∀ n o, n < lo → (LD all.length S D κ n o ↔ (S 0).get n = some o)
  os : w.os = w0.os
  tape : w.tape = w0.tape
  output : w.output = w0.output
  size : w0.heap.size ≤ w.heap.size
  frame : ∀ b, b < w0.heap.size → (∀ n o, lo ≤ n → (S 0).get n = some o → R0.blk n ≠ b) → w.heap[b]? = w0.heap[b]?
  back : ∀ n o, lo ≤ n → LD all.length S D κ n o → R.blk n < w0.heap.size → ∃ m o', lo ≤ m ∧ (S 0).get m = some o' ∧ R0.blk m = R.blk n
  tsz : a.tmps.size = (F 0).n
  tmp : ∀ t, t < (F 0).n → a.tmps[t]? = some (conc R (slotD all D V (F 0) t all.length))
  defers : a.defers = a0.defers

section
variable {E : Env} {call : CallX} {lo n0 : Nat} {all : List Oper} {bs : List Nat} {F : Nat → Fr} {S : Nat → St} {M : Nat → Met} {V : Nat → AV} {R0 : Ren} {w0 : World} {a0 : Act}
variable {D : Nat → Bool} {R : Ren} {κ : Nat} {a : Act} {w : World}
variable (C : Cn E call lo n0 all bs F S M V) (I : InvR E call lo n0 all bs F S M V R0 w0 a0 D R κ a w)

include C I in
theorem InvR.undone {i j b : Nat} (hDi : D i = false) (hDj : D j = true) (hb : bs[j]? = some b) : Nat.testBit b i = false := by
  cases h : Nat.testBit b i with
  | false => rfl
  | true => have := (I.down j hDj).2 b i hb h; rw [hDi] at this; simp at this

include C I in
theorem InvR.good {t : Nat} (h : t = 0 ∨ ∃ u, t = u + 1 ∧ Wild E call lo all bs F S M V u ∧ D u = true) : t ≤ all.length := by
  rcases h with rfl | ⟨u, rfl, _, hD⟩
  · exact Nat.zero_le _
  · have := (I.down u hD).1; omega

include C I in
/-- An operation that has made names, not done yet, has no wild one done behind it. -/
theorem InvR.late {i : Nat} (hi : i < all.length) (hDi : D i = false) (hlt : (S i).nx < (S (i + 1)).nx) : κ ≤ i := by
  rcases I.kap1 with rfl | ⟨u, rfl, hW, hDu⟩
  · exact Nat.zero_le _
  · have hu := (I.down u hDu).1
    by_cases h : u < i
    · omega
    · have hne : u ≠ i := fun e => by rw [e] at hDu; rw [hDi] at hDu; simp at hDu
      obtain ⟨o, b, g, w', ho, hb, hg, hwant, hrm, _⟩ := hW
      have := land_sub hrm (C.marked (t := i) (i := u) (by omega) (by omega) hlt)
      rw [I.undone C hDi hDu hb] at this
      simp at this

include C I in
/-- What a step that looks at everything sees is what there is. -/
theorem InvR.sees {i b : Nat} (hi : i < all.length) (hDi : D i = false) (hb : bs[i]? = some b) (hpre : ∀ k, Nat.testBit b k = true → D k = true) (hrm : Nat.land (M i).rm b = (M i).rm) (hwm : Nat.land (M i).wm b = (M i).wm)
    (htm : Nat.testBit (M (i + 1)).tm i = true) :
    κ ≤ i ∧ (∀ n, n < (S κ).nx → (S i).get n = (S κ).get n) ∧ ∀ n o, (S i).get n = some o → n < (S i).nx ∧ LD all.length S D κ n o ∧ OBnd (S i).nx o := by
  have hκ : κ ≤ i := by
    rcases I.kap1 with rfl | ⟨u, rfl, hW, hDu⟩
    · exact Nat.zero_le _
    · have hu := (I.down u hDu).1
      by_cases h : u < i
      · omega
      · have hne : u ≠ i := fun e => by rw [e] at hDu; rw [hDi] at hDu; simp at hDu
        obtain ⟨o, b', g, w', ho, hb', hg, hwant, hrm', hwm', htm', _⟩ := hW
        have h1 := (C.mono (i := i + 1) (j := u) (by omega) (by omega)).2.2.1 i htm
        have := land_sub htm' h1
        rw [I.undone C hDi hDu hb'] at this
        simp at this
  have hnw : ∀ t, κ ≤ t → t < i → ¬ Wild E call lo all bs F S M V t := by
    intro t h1 h2 hW
    have := hpre t (land_sub hwm (C.wilded h2 (by omega) hW).1)
    have := I.kap2 t hW this
    omega
  have hbd := I.bd κ I.kap1
  obtain ⟨c1, c2, c3⟩ := C.chain (fun n o h => (hbd n o h).1) hκ (by omega) hnw
  refine ⟨hκ, c1, fun n o h => ?_⟩
  have hmono := (C.mono (i := κ) (j := i) hκ (by omega)).1
  by_cases hn : n < (S κ).nx
  · have h' := h
    rw [c1 n hn] at h
    exact ⟨c2 n o h', .inl ⟨hn, h⟩, (hbd n o h).2.mono hmono⟩
  · obtain ⟨j, j1, j2, j3, j4, j5, j6⟩ := c3 n o h (by omega)
    have hDj := hpre j (land_sub hrm (C.marked j2 (by omega) (by omega)))
    have hm2 := (C.mono (i := j + 1) (j := i) (by omega) (by omega)).1
    exact ⟨c2 n o h, .inr ⟨by omega, j, by omega, hDj, j1, j3, j4, j5, j6⟩, (I.xb j hDj (hnw j j1 j2) j6 n o j3 j4 j5).1.mono hm2⟩

theorem keepC {c : Nat} {p : Nat} : ∀ {q : Nat}, p ≤ q → (∀ t, p ≤ t → t < q → (S (t + 1)).get c = (S t).get c) → (S q).get c = (S p).get c
  | 0, h, _ => by have : p = 0 := by omega
                  subst this; rfl
  | q + 1, h, hk => by
    by_cases e : p = q + 1
    · subst e; rfl
    · rw [hk q (by omega) (by omega)]
      exact keepC (by omega) fun t h1 h2 => hk t h1 (by omega)

theorem findRange {c p : Nat} : ∀ {q : Nat}, p ≤ q → (S p).nx ≤ c → c < (S q).nx → ∃ t, p ≤ t ∧ t < q ∧ (S t).nx ≤ c ∧ c < (S (t + 1)).nx
  | 0, h, h1, h2 => by have : p = 0 := by omega
                       subst this; omega
  | q + 1, h, h1, h2 => by
    by_cases e : p = q + 1
    · subst e; omega
    · by_cases hq : c < (S q).nx
      · obtain ⟨t, t1, t2, t3⟩ := findRange (by omega) h1 hq
        exact ⟨t, t1, by omega, t3⟩
      · exact ⟨q, by omega, by omega, by omega, h2⟩

include I in
theorem InvR.lastWild : ∀ i, ∃ κ', κ' ≤ i ∧ (κ' = 0 ∨ ∃ u, κ' = u + 1 ∧ Wild E call lo all bs F S M V u ∧ D u = true) ∧ ∀ t, κ' ≤ t → t < i → Wild E call lo all bs F S M V t → D t = false
  | 0 => ⟨0, Nat.le_refl _, .inl rfl, fun t _ h => by omega⟩
  | i + 1 => by
    obtain ⟨κ', h1, h2, h3⟩ := InvR.lastWild i
    by_cases hw : Wild E call lo all bs F S M V i ∧ D i = true
    · exact ⟨i + 1, Nat.le_refl _, .inr ⟨i, rfl, hw⟩, fun t ht1 ht2 => by omega⟩
    · refine ⟨κ', by omega, h2, fun t t1 t2 hW => ?_⟩
      by_cases e : t = i
      · subst e
        cases hD : D t with
        | false => rfl
        | true => exact absurd ⟨hW, hD⟩ hw
      · exact h3 t t1 (by omega) hW

theorem apartX_ne {c : Nat} {w : Option Nat} (h : apartX c w = true) : ∃ d, w = some d ∧ c ≠ d := by
  unfold apartX at h
  split at h
  · rename_i d
    split at h
    · simp at h
    · rename_i hne
      exact ⟨d, rfl, fun e => by rw [e] at hne; simp at hne⟩
  · simp at h

include C I in
/-- What a step that looks at one block sees is what there is. -/
theorem InvR.reads {i b c : Nat} {ob : AO} (hi : i < all.length) (hDi : D i = false) (hb : bs[i]? = some b) (hpre : ∀ k, Nat.testBit b k = true → D k = true) (hr : readOk b c (M i).wl = true)
    (hc0 : c < n0 ∨ (Nat.land (M i).rm b = (M i).rm ∧ c < (S i).nx)) (hrl : (i, c) ∈ (M (i + 1)).rl) (hnw : ¬ Wild E call lo all bs F S M V i) (hget : (S i).get c = some ob) :
    LD all.length S D κ c ob ∧ OBnd (S i).nx ob ∧ c < (S i).nx := by
  obtain ⟨κ', k1, k2, k3⟩ := I.lastWild i
  have hbd := I.bd κ' k2
  have hκ'l := I.good C k2
  have hcn : c < (S i).nx := by
    rcases hc0 with h | h
    · have := C.nx_n0 (j := i) (by omega); omega
    · exact h.2
  -- a wild operation that is told ahead of i and not done leaves c alone
  have ahead : ∀ t, t < i → Wild E call lo all bs F S M V t → D t = false → (S (t + 1)).get c = (S t).get c := by
    intro t h1 hW hD
    obtain ⟨o, b', g, w', ho, hb', hg, hwant, hrm', hwm', htm', hwo, hst, hk, hn, hl, hm⟩ := hW
    have hwl : (t, w') ∈ (M i).wl := (C.mono (i := t + 1) (j := i) (by omega) (by omega)).2.2.2.2.2 _ (by rw [hm]; exact List.mem_cons_self)
    have := List.all_eq_true.1 hr _ hwl
    simp only [Bool.or_eq_true] at this
    rcases this with h | h
    · have := hpre t h; rw [hD] at this; simp at this
    · obtain ⟨d, rfl, hne⟩ := apartX_ne h
      obtain ⟨x, hx1, hx2⟩ := hk d rfl
      exact stepX_apart hst hx1 hx2 c hne
  have behind : ∀ t, i < t → t < all.length → Wild E call lo all bs F S M V t → D t = true → (S (t + 1)).get c = (S t).get c := by
    intro t h1 h2 hW hD
    obtain ⟨o, b', g, w', ho, hb', hg, hwant, hrm', hwm', htm', hwo, hst, hk, hn, hl, hm⟩ := hW
    have hrl' : (i, c) ∈ (M t).rl := (C.mono (i := i + 1) (j := t) (by omega) (by omega)).2.2.2.2.1 _ hrl
    have := List.all_eq_true.1 hwo _ hrl'
    simp only [Bool.or_eq_true] at this
    rcases this with h | h
    · rw [I.undone C hDi hD hb'] at h; simp at h
    · obtain ⟨d, rfl, hne⟩ := apartX_ne h
      obtain ⟨x, hx1, hx2⟩ := hk d rfl
      exact stepX_apart hst hx1 hx2 c hne
  -- from a place p up to κ nothing turns c
  have upto : ∀ p, κ' ≤ p → p ≤ κ → c < (S p).nx → (S κ).get c = (S p).get c := by
    intro p hp1 hp2 hcp
    have hκl := I.good C I.kap1
    refine keepC hp2 fun t t1 t2 => ?_
    by_cases hW : Wild E call lo all bs F S M V t
    · rcases Nat.lt_trichotomy t i with h | h | h
      · exact ahead t h hW (k3 t (by omega) h hW)
      · subst h; exact absurd hW hnw
      · have hDt : D t = true := by
          rcases I.kap1 with h0 | ⟨u, hu, hWu, hDu⟩
          · omega
          · by_cases e : t = u
            · rw [e]; exact hDu
            · obtain ⟨o, b', g, w', ho, hb', hg, hwant, hrm', hwm', _⟩ := hWu
              exact (I.down u hDu).2 b' t hb' (land_sub hwm' (C.wilded (t := t) (i := u) (by omega) (by omega) hW).1)
        exact behind t h (by omega) hW hDt
    · have hm := (C.mono (i := p) (j := t) t1 (by omega)).1
      exact (C.tame (by omega) hW).2.2.1 c (by omega)
  by_cases hcase : c < (S κ').nx
  · have e1 : (S i).get c = (S κ').get c := by
      refine keepC k1 fun t t1 t2 => ?_
      by_cases hW : Wild E call lo all bs F S M V t
      · exact ahead t t2 hW (k3 t t1 t2 hW)
      · have hm := (C.mono (i := κ') (j := t) t1 (by omega)).1
        exact (C.tame (by omega) hW).2.2.1 c (by omega)
    have hκκ : κ' ≤ κ := by
      rcases k2 with h | ⟨u, hu, hWu, hDu⟩
      · omega
      · have := I.kap2 u hWu hDu; omega
    have e2 := upto κ' (Nat.le_refl _) hκκ hcase
    have hm := (C.mono (i := κ') (j := i) k1 (by omega)).1
    have hm2 := (C.mono (i := κ') (j := κ) hκκ (I.good C I.kap1)).1
    rw [e1] at hget
    exact ⟨.inl ⟨by omega, by rw [e2]; exact hget⟩, (hbd c ob hget).2.mono hm, hcn⟩
  · have hn0 : ¬ c < n0 := fun h => hcase (by have := C.nx_n0 (j := κ') hκ'l; omega)
    have hrm : Nat.land (M i).rm b = (M i).rm := by
      rcases hc0 with h | h
      · exact absurd h hn0
      · exact h.1
    obtain ⟨t, t1, t2, t3, t4⟩ := findRange (S := S) k1 (by omega : (S κ').nx ≤ c) hcn
    have hDt := hpre t (land_sub hrm (C.marked t2 (by omega) (by omega)))
    have hWt : ¬ Wild E call lo all bs F S M V t := fun hW => by
      have := k3 t t1 t2 hW; rw [hDt] at this; simp at this
    have e1 : (S i).get c = (S (t + 1)).get c := by
      refine keepC (by omega) fun u u1 u2 => ?_
      by_cases hW : Wild E call lo all bs F S M V u
      · exact ahead u u2 hW (k3 u (by omega) u2 hW)
      · have hm := (C.mono (i := t + 1) (j := u) u1 (by omega)).1
        exact (C.tame (by omega) hW).2.2.1 c (by omega)
    rw [e1] at hget
    have hdiff : ¬ ∀ k, (S (t + 1)).get k = (S t).get k := by
      intro hs
      rw [hs c] at hget
      have e3 : (S t).get c = (S κ').get c := by
        refine keepC t1 fun u u1 u2 => ?_
        by_cases hW : Wild E call lo all bs F S M V u
        · exact ahead u (by omega) hW (k3 u u1 (by omega) hW)
        · have hm := (C.mono (i := u + 1) (j := t) (by omega) (by omega)).1
          exact (C.tame (by omega) hW).2.2.1 c (by omega)
      rw [e3] at hget
      exact hcase (hbd c ob hget).1
    have hm := (C.mono (i := t + 1) (j := i) (by omega) (by omega)).1
    refine ⟨?_, (I.xb t hDt hWt hdiff c ob t3 t4 hget).1.mono hm, hcn⟩
    by_cases hκt : κ ≤ t
    · have hm2 := (C.mono (i := κ) (j := t) hκt (by omega)).1
      exact .inr ⟨by omega, t, by omega, hDt, hκt, t3, t4, hget, hdiff⟩
    · have e2 := upto (t + 1) (by omega) (by omega) t4
      have hm2 := (C.mono (i := t + 1) (j := κ) (by omega) (I.good C I.kap1)).1
      exact .inl ⟨by omega, by rw [e2]; exact hget⟩

end
end Go.Vx
