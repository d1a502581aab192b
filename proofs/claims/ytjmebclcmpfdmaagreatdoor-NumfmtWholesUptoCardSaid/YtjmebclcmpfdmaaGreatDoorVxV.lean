/-
  A run told in advance, part nineteen: drawn regions: what holds where some of the operations are done. No condition.
-/
import Derived.Test.YtjmebclcmpfdmaaGreatDoorVxR
set_option linter.unusedSectionVars false
set_option linter.unusedSimpArgs false
set_option linter.unusedVariables false
namespace Go.Vx
open Go.RowKit

theorem noName0_bnd {v : AV} (n : Nat) (h : noName0 v = true) : Bnd n v := by
  cases v <;> first | (simp [Bnd]; done) | (simp [noName0] at h)

theorem noNames_bnd {v : AV} (n : Nat) : noNames v = true → Bnd n v := by
  induction v using noNames.induct <;> intro h <;> first
    | (simp_all [noNames, Bnd]; done)
    | (simp only [noNames] at h
       simp only [Bnd]
       exact BndL_iff.2 fun x hx => noName0_bnd n (List.all_eq_true.1 h x hx))

theorem below1_bnd {n : Nat} {v : AV} (h : below1 n v = true) : Bnd n v := by
  unfold below1 at h
  split at h
  · exact Nat.le_of_ble_eq_true h
  · simp only [Bool.and_eq_true, Bool.or_eq_true] at h
    refine ⟨Nat.le_of_ble_eq_true h.1, ?_⟩
    rcases h.2 with h2 | h2
    · exact .inl (Nat.le_of_ble_eq_true h2)
    · exact .inr (Nat.le_of_ble_eq_true h2)
  · exact Nat.le_of_ble_eq_true h
  · exact noNames_bnd n h

theorem belowX_bnd {n : Nat} {v : AV} (h : belowX n v = true) : Bnd n v := by
  unfold belowX at h
  split at h
  · simp only [Bnd]
    exact BndL_iff.2 fun x hx => below1_bnd (List.all_eq_true.1 h x hx)
  · simp only [Bnd]
    exact BndL_iff.2 fun x hx => below1_bnd (List.all_eq_true.1 h x hx)
  · exact below1_bnd h

mutual
/-- The names of a value are such. -/
def BndP (p : Nat → Prop) : AV → Prop
  | .ptr b _ => p b
  | .slc b _ _ c => p b ∧ (c < big ∨ p (c - big))
  | .map b => p b
  | .fn _ a c => BndPL p a ∧ BndPL p c
  | .ifc _ v => BndP p v
  | .agg l => BndPL p l
  | .tup l => BndPL p l
  | _ => True
def BndPL (p : Nat → Prop) : List AV → Prop
  | [] => True
  | v :: l => BndP p v ∧ BndPL p l
end

theorem BndPL_iff {p : Nat → Prop} {l : List AV} : BndPL p l ↔ ∀ v ∈ l, BndP p v := by
  induction l with
  | nil => simp [BndPL]
  | cons v l ih => simp [BndPL, ih]

mutual
theorem Bnd.toP {n : Nat} {p : Nat → Prop} (h : ∀ k, k < n → p k) : ∀ {v : AV}, Bnd n v → BndP p v
  | .ptr b o, hb => by simp only [Bnd, BndP] at *; exact h _ hb
  | .slc b o l c, hb => by simp only [Bnd, BndP] at *; exact ⟨h _ hb.1, hb.2.imp id (h _)⟩
  | .map b, hb => by simp only [Bnd, BndP] at *; exact h _ hb
  | .fn f a c, hb => by simp only [Bnd, BndP] at *; exact ⟨BndL.toP h hb.1, BndL.toP h hb.2⟩
  | .ifc t v, hb => by simp only [Bnd, BndP] at *; exact Bnd.toP h hb
  | .agg l, hb => by simp only [Bnd, BndP] at *; exact BndL.toP h hb
  | .tup l, hb => by simp only [Bnd, BndP] at *; exact BndL.toP h hb
  | .bool _, _ | .int _ _, _ | .flt _ _, _ | .cpx _ _ _, _ | .str _, _ | .nilp, _ | .nils, _ | .nilm, _ | .nilf, _ | .nili, _ | .opq _, _ => by simp [BndP]
theorem BndL.toP {n : Nat} {p : Nat → Prop} (h : ∀ k, k < n → p k) : ∀ {l : List AV}, BndL n l → BndPL p l
  | [], _ => by simp [BndPL]
  | v :: l, hb => by simp only [BndL, BndPL] at *; exact ⟨Bnd.toP h hb.1, BndL.toP h hb.2⟩
end

/-- Two meanings agree on such names. -/
structure AgreeP (p : Nat → Prop) (R R' : Ren) : Prop where
  blk : ∀ i, p i → R'.blk i = R.blk i
  cap : ∀ i, p i → R'.cap i = R.cap i
  opq : R'.opq = R.opq

theorem AgreeP.symm {p : Nat → Prop} {R R' : Ren} (h : AgreeP p R R') : AgreeP p R' R := ⟨fun i hi => (h.blk i hi).symm, fun i hi => (h.cap i hi).symm, h.opq.symm⟩

mutual
theorem conc_agreeP {p : Nat → Prop} {R R' : Ren} (h : AgreeP p R R') : ∀ {v : AV}, BndP p v → conc R' v = conc R v
  | .ptr b o, hb => by simp only [BndP] at hb; simp only [conc, h.blk b hb]
  | .slc b o l c, hb => by
    simp only [BndP] at hb
    simp only [conc, h.blk b hb.1, Ren.c]
    rcases hb.2 with hc | hc
    · rw [if_pos hc, if_pos hc]
    · by_cases hc' : c < big
      · rw [if_pos hc', if_pos hc']
      · rw [if_neg hc', if_neg hc', h.cap _ hc]
  | .map b, hb => by simp only [BndP] at hb; simp only [conc, h.blk b hb]
  | .fn f a c, hb => by simp only [BndP] at hb; simp only [conc, concL_agreeP h hb.1, concL_agreeP h hb.2]
  | .ifc t v, hb => by simp only [BndP] at hb; simp only [conc, conc_agreeP h hb]
  | .agg l, hb => by simp only [BndP] at hb; simp only [conc, concL_agreeP h hb]
  | .tup l, hb => by simp only [BndP] at hb; simp only [conc, concL_agreeP h hb]
  | .opq i, _ => by simp only [conc, h.opq]
  | .bool _, _ | .int _ _, _ | .flt _ _, _ | .cpx _ _ _, _ | .str _, _ | .nilp, _ | .nils, _ | .nilm, _ | .nilf, _ | .nili, _ => by simp [conc]
theorem concL_agreeP {p : Nat → Prop} {R R' : Ren} (h : AgreeP p R R') : ∀ {l : List AV}, BndPL p l → concL R' l = concL R l
  | [], _ => by simp [concL]
  | v :: l, hb => by simp only [BndPL] at hb; simp only [concL, conc_agreeP h hb.1, concL_agreeP h hb.2]
end

def OBndP (p : Nat → Prop) : AO → Prop
  | .row l _ (.gr cc _) => BndPL p l ∧ p cc
  | .row l _ _ => BndPL p l
  | .mp es _ => ∀ x ∈ es, BndP p x.1 ∧ BndP p x.2.1
  | .sit _ _ => True
  | .mit m _ _ _ => ∀ r, m = some r → p r

theorem OBndP.row {p : Nat → Prop} {l : List AV} {e : TypeId} {k : RK} (h : OBndP p (.row l e k)) : BndPL p l := by
  cases k <;> simp only [OBndP] at h <;> first | exact h | exact h.1

theorem ORel.agreeP {p : Nat → Prop} {R R' : Ren} (h : AgreeP p R R') {o : AO} (hb : OBndP p o) {x : Obj} (hr : ORel R o x) : ORel R' o x := by
  cases o with
  | row l e k =>
    have hl : ∀ i v, l[i]? = some v → conc R' v = conc R v := fun i v hv => conc_agreeP h (BndPL_iff.1 hb.row v (List.mem_of_getElem? hv))
    cases k with
    | ro =>
      cases x <;> simp only [ORel] at hr ⊢
      exact ⟨hr.1, fun i v hv => by rw [hl i v hv]; exact hr.2 i v hv⟩
    | ex =>
      cases x <;> simp only [ORel] at hr ⊢
      exact ⟨hr.1, by rw [concL_agreeP h hb.row]; exact hr.2.1, hr.2.2⟩
    | gr cc esz =>
      cases x <;> simp only [ORel] at hr ⊢
      exact ⟨hr.1, fun i v hv => by rw [hl i v hv]; exact hr.2.1 i v hv, by rw [h.cap cc hb.2]; exact hr.2.2.1, hr.2.2.2⟩
  | mp es c =>
    cases x <;> simp only [ORel] at hr ⊢
    refine ⟨?_, hr.2⟩
    rw [hr.1]
    congr 1
    refine List.map_congr_left fun y hy => ?_
    have := hb y hy
    simp [entryC, conc_agreeP h this.1, conc_agreeP h this.2]
  | sit s p => cases x <;> simp only [ORel] at hr ⊢; exact hr
  | mit m s t u =>
    cases x <;> simp only [ORel] at hr ⊢
    refine ⟨?_, hr.2⟩
    rw [hr.1]
    cases m with
    | none => rfl
    | some r => simp [h.blk r (hb r rfl)]

/-- Names that are not the operation's: what an operation leaves of the meaning. -/
structure Off (lo hi : Nat) (R R' : Ren) : Prop where
  blk : ∀ k, k < lo ∨ hi ≤ k → R'.blk k = R.blk k
  cap : ∀ k, k < lo ∨ hi ≤ k → R'.cap k = R.cap k
  opq : R'.opq = R.opq

theorem Off.agree {lo hi n : Nat} {R R' : Ren} (h : Off lo hi R R') (hn : n ≤ lo ∨ hi ≤ lo) : Agree n R R' :=
  ⟨fun k hk => h.blk k (by omega), fun k hk => h.cap k (by omega), h.opq⟩

theorem Off.agreeP {lo hi : Nat} {p : Nat → Prop} {R R' : Ren} (h : Off lo hi R R') (hp : ∀ k, p k → k < lo ∨ hi ≤ k) : AgreeP p R R' :=
  ⟨fun k hk => h.blk k (hp k hk), fun k hk => h.cap k (hp k hk), h.opq⟩

/-- Its own names, and those ahead of the region. -/
def Own (n m : Nat) : Nat → Prop := fun k => k < n ∨ m ≤ k

theorem ownN_ok {n m b : Nat} (h : ownN n m b = true) : Own n m b := by
  unfold ownN at h
  rcases (Bool.or_eq_true _ _).mp h with h | h
  · exact .inl (Nat.le_of_ble_eq_true h)
  · exact .inr (by rw [Nat.eq_of_beq_eq_true h]; exact Nat.le_refl _)

theorem own1_ok {n m : Nat} {v : AV} (h : own1 n m v = true) : BndP (Own n m) v := by
  unfold own1 at h
  split at h
  · exact ownN_ok h
  · simp only [Bool.and_eq_true, Bool.or_eq_true] at h
    exact ⟨ownN_ok h.1, h.2.imp (fun h => Nat.le_of_ble_eq_true h) ownN_ok⟩
  · exact ownN_ok h
  · exact Bnd.toP (n := 0) (fun k hk => by omega) (noNames_bnd 0 h)

theorem ownX_ok {n m : Nat} {v : AV} (h : ownX n m v = true) : BndP (Own n m) v := by
  unfold ownX at h
  split at h
  · simp only [BndP]
    exact BndPL_iff.2 fun x hx => own1_ok (List.all_eq_true.1 h x hx)
  · simp only [BndP]
    exact BndPL_iff.2 fun x hx => own1_ok (List.all_eq_true.1 h x hx)
  · exact own1_ok h

theorem ownO_ok {n m : Nat} {o : AO} (h : ownO n m (some o) = true) : OBndP (Own n m) o := by
  unfold ownO at h
  split at h
  · rename_i l e k heq
    obtain rfl := Option.some.inj heq
    simp only [Bool.and_eq_true] at h
    have hl : BndPL (Own n m) l := BndPL_iff.2 fun x hx => own1_ok (List.all_eq_true.1 h.1 x hx)
    cases k with
    | ro => exact hl
    | ex => exact hl
    | gr cc esz => exact ⟨hl, ownN_ok h.2⟩
  · rename_i c heq
    obtain rfl := Option.some.inj heq
    intro x hx
    simp at hx
  · simp at h
  · rename_i heq; simp at heq

/-- A store turns no other block. -/
theorem storeCellsX_get {lo : Nat} {s s' : St} {b o : Nat} {vs : List AV} (h : storeCellsX lo s b o vs = some s') : ∀ n, n ≠ b → s'.get n = s.get n := by
  unfold storeCellsX at h
  split at h
  · rename_i hc
    have hl : b < lim := Nat.le_of_ble_eq_true ((Bool.and_eq_true _ _).mp hc).2
    unfold storeRow at h
    split at h
    · split at h
      · rw [listK_eq, putK_eq] at h
        obtain rfl := Option.some.inj h
        intro n hn
        rw [St.get_put s b n _ hl, if_neg hn]
      · simp at h
    · simp at h
  · simp at h

theorem updateE_get {d : KD} {lo : Nat} {s s' : St} {b : Nat} {k v u : AV} (h : updateE d lo s b k v = some (u, s')) : ∀ n, n ≠ b → s'.get n = s.get n := by
  unfold updateE at h
  split at h
  · simp at h
  · rename_i hc
    have hl : b < lim := Nat.le_of_ble_eq_true ((Bool.and_eq_true _ _).mp hc).2
    split at h
    · unfold putMap at h
      split at h
      · simp at h
      · rw [putK_eq] at h
        obtain ⟨_, rfl⟩ := Prod.mk.inj (Option.some.inj h)
        intro n hn
        rw [St.get_put s b n _ hl, if_neg hn]
      · rw [putK_eq] at h
        obtain ⟨_, rfl⟩ := Prod.mk.inj (Option.some.inj h)
        intro n hn
        rw [St.get_put s b n _ hl, if_neg hn]
    · simp at h

theorem update_get {t : TypeId} {x k y : Operand} {E : Env} {lo : Nat} {f : Fr} {s s' : St} {v : AV} {c : Nat} (h : mapUpdateX t x k y E lo f s = some (v, s')) (hc : blockOf (evX x f) = some c) : ∀ n, n ≠ c → s'.get n = s.get n := by
  unfold mapUpdateX at h
  split at h
  · split at h
    · simp at h
    · rename_i m hm
      rw [hm] at hc
      split at h
      · simp at h
      · split at h
        · simp at h
        · unfold updateV at h
          split at h
          · obtain rfl := Option.some.inj (show some _ = some c from hc)
            split at h
            · exact updateE_get h
            · simp at h
          · simp at h
  · simp at h

theorem stepX_apart {o : Op} {E : Env} {call : CallX} {lo : Nat} {f : Fr} {s s' : St} {v : AV} {x : Operand} {c : Nat} (h : stepX o E call lo f s = some (v, s')) (hk : kindX o = .touch (some x)) (hc : blockOf (evX x f) = some c) :
    ∀ n, n ≠ c → s'.get n = s.get n := by
  cases o <;> simp only [kindX] at hk <;> try (simp at hk; done)
  case call c =>
    split at hk
    · rename_i b _
      cases b <;> simp [kindB] at hk
    · simp at hk
  case store t y z =>
    have hk := Option.some.inj (DK.touch.inj hk)
    subst hk
    have h : storeV t E lo s (evX y f) (evX z f) = some (v, s') := h
    unfold storeV at h
    split at h
    · rename_i b o hb
      rw [hb] at hc
      obtain rfl := Option.some.inj (show some b = some c from hc)
      split at h
      · rename_i u hu
        cases hs : storeX E lo s t b o u with
        | none => simp [hs, skipSt] at h
        | some s1 =>
          simp only [hs, skipSt, Option.some.injEq, Prod.mk.injEq] at h
          obtain ⟨_, rfl⟩ := h
          unfold storeX at hs
          split at hs
          · split at hs
            · exact storeCellsX_get hs
            · simp at hs
          · simp at hs
      · simp at h
    · simp at h
  case mapUpdate t y k z =>
    have hk := Option.some.inj (DK.touch.inj hk)
    subst hk
    exact update_get h hc
  case insert t y k z =>
    have hk := Option.some.inj (DK.touch.inj hk)
    subst hk
    exact update_get h hc

/-- What holds of the heap where the operations of D are done, κ being the place behind the last wild one. -/
def LD (nn : Nat) (S : Nat → St) (D : Nat → Bool) (κ n : Nat) (o : AO) : Prop :=
  (n < (S κ).nx ∧ (S κ).get n = some o) ∨
  ((S κ).nx ≤ n ∧ ∃ j, j < nn ∧ D j = true ∧ κ ≤ j ∧ (S j).nx ≤ n ∧ n < (S (j + 1)).nx ∧ (S (j + 1)).get n = some o ∧ ¬ ∀ k, (S (j + 1)).get k = (S j).get k)

structure InvR (E : Env) (call : CallX) (lo n0 : Nat) (all : List Oper) (bs : List Nat) (F : Nat → Fr) (S : Nat → St) (M : Nat → Met) (V : Nat → AV) (R0 : Ren) (w0 : World) (a0 : Act)
    (D : Nat → Bool) (R : Ren) (κ : Nat) (a : Act) (w : World) : Prop where
  down : ∀ j, D j = true → j < all.length ∧ ∀ b k, bs[j]? = some b → Nat.testBit b k = true → D k = true
  kap1 : κ = 0 ∨ ∃ u, κ = u + 1 ∧ Wild E call lo all bs F S M V u ∧ D u = true
  kap2 : ∀ u, Wild E call lo all bs F S M V u → D u = true → u < κ
  bd : ∀ t, (t = 0 ∨ ∃ u, t = u + 1 ∧ Wild E call lo all bs F S M V u ∧ D u = true) → ∀ n o, (S t).get n = some o → n < (S t).nx ∧ OBnd (S t).nx o
  xb : ∀ j, D j = true → ¬ Wild E call lo all bs F S M V j → (¬ ∀ k, (S (j + 1)).get k = (S j).get k) → ∀ n o, (S j).nx ≤ n → n < (S (j + 1)).nx → (S (j + 1)).get n = some o → OBnd (S (j + 1)).nx o ∧ ∀ i b, i < j → (S i).nx < (S (i + 1)).nx → bs[j]? = some b → Nat.testBit b i = true ∨ OBndP (Own n0 (S j).nx) o
  vb : ∀ j, D j = true → Bnd (S (j + 1)).nx (V j) ∧ ∀ i b, i < j → (S i).nx < (S (i + 1)).nx → bs[j]? = some b → Nat.testBit b i = true ∨ BndP (Own n0 (S j).nx) (V j)
  live : ∀ n o, LD all.length S D κ n o → ∃ x, w.heap[R.blk n]? = some x ∧ ORel R o x
  inj : ∀ n m o o', LD all.length S D κ n o → LD all.length S D κ m o' → R.blk n = R.blk m → n = m
  blk : ∀ n, n < n0 ∨ (S all.length).nx ≤ n → R.blk n = R0.blk n
  cap : ∀ n, n < n0 ∨ (S all.length).nx ≤ n → R.cap n = R0.cap n
  opq : R.opq = R0.opq
  keep : ∀ n o, n < lo → (LD all.length S D κ n o ↔ (S 0).get n = some o)
  os : w.os = w0.os
  tape : w.tape = w0.tape
  output : w.output = w0.output
  size : w0.heap.size ≤ w.heap.size
  frame : ∀ b, b < w0.heap.size → (∀ n o, lo ≤ n → (S 0).get n = some o → R0.blk n ≠ b) → w.heap[b]? = w0.heap[b]?
  back : ∀ n o, lo ≤ n → LD all.length S D κ n o → R.blk n < w0.heap.size → ∃ m o', lo ≤ m ∧ (S 0).get m = some o' ∧ R0.blk m = R.blk n
  tsz : a.tmps.size = (F 0).n
  tmp : ∀ t, t < (F 0).n → a.tmps[t]? = some (conc R (slotD all D V (F 0) t all.length))
  defers : a.defers = a0.defers

section
variable {E : Env} {call : CallX} {lo n0 : Nat} {all : List Oper} {bs : List Nat} {F : Nat → Fr} {S : Nat → St} {M : Nat → Met} {V : Nat → AV} {R0 : Ren} {w0 : World} {a0 : Act}
variable {D : Nat → Bool} {R : Ren} {κ : Nat} {a : Act} {w : World}
variable (C : Cn E call lo n0 all bs F S M V) (I : InvR E call lo n0 all bs F S M V R0 w0 a0 D R κ a w)

include C I in
theorem InvR.undone {i j b : Nat} (hDi : D i = false) (hDj : D j = true) (hb : bs[j]? = some b) : Nat.testBit b i = false := by
  cases h : Nat.testBit b i with
  | false => rfl
  | true => have := (I.down j hDj).2 b i hb h; rw [hDi] at this; simp at this

include C I in
theorem InvR.good {t : Nat} (h : t = 0 ∨ ∃ u, t = u + 1 ∧ Wild E call lo all bs F S M V u ∧ D u = true) : t ≤ all.length := by
  rcases h with rfl | ⟨u, rfl, _, hD⟩
  · exact Nat.zero_le _
  · have := (I.down u hD).1; omega

include C I in
/-- An operation that has made names, not done yet, has no wild one done behind it. -/
theorem InvR.late {i : Nat} (hi : i < all.length) (hDi : D i = false) (hlt : (S i).nx < (S (i + 1)).nx) : κ ≤ i := by
  rcases I.kap1 with rfl | ⟨u, rfl, hW, hDu⟩
  · exact Nat.zero_le _
  · have hu := (I.down u hDu).1
    by_cases h : u < i
    · omega
    · have hne : u ≠ i := fun e => by rw [e] at hDu; rw [hDi] at hDu; simp at hDu
      obtain ⟨o, b, g, w', ho, hb, hg, hwant, hrm, _⟩ := hW
      have := land_sub hrm (C.marked (t := i) (i := u) (by omega) (by omega) hlt)
      rw [I.undone C hDi hDu hb] at this
      simp at this

include C I in
/-- What a step that looks at everything sees is what there is. -/
theorem InvR.sees {i b : Nat} (hi : i < all.length) (hDi : D i = false) (hb : bs[i]? = some b) (hpre : ∀ k, Nat.testBit b k = true → D k = true) (hrm : Nat.land (M i).rm b = (M i).rm) (hwm : Nat.land (M i).wm b = (M i).wm)
    (htm : Nat.testBit (M (i + 1)).tm i = true) :
    κ ≤ i ∧ (∀ n, n < (S κ).nx → (S i).get n = (S κ).get n) ∧ ∀ n o, (S i).get n = some o → n < (S i).nx ∧ LD all.length S D κ n o ∧ OBnd (S i).nx o := by
  have hκ : κ ≤ i := by
    rcases I.kap1 with rfl | ⟨u, rfl, hW, hDu⟩
    · exact Nat.zero_le _
    · have hu := (I.down u hDu).1
      by_cases h : u < i
      · omega
      · have hne : u ≠ i := fun e => by rw [e] at hDu; rw [hDi] at hDu; simp at hDu
        obtain ⟨o, b', g, w', ho, hb', hg, hwant, hrm', hwm', htm', _⟩ := hW
        have h1 := (C.mono (i := i + 1) (j := u) (by omega) (by omega)).2.2.1 i htm
        have := land_sub htm' h1
        rw [I.undone C hDi hDu hb'] at this
        simp at this
  have hnw : ∀ t, κ ≤ t → t < i → ¬ Wild E call lo all bs F S M V t := by
    intro t h1 h2 hW
    have := hpre t (land_sub hwm (C.wilded h2 (by omega) hW).1)
    have := I.kap2 t hW this
    omega
  have hbd := I.bd κ I.kap1
  obtain ⟨c1, c2, c3⟩ := C.chain (fun n o h => (hbd n o h).1) hκ (by omega) hnw
  refine ⟨hκ, c1, fun n o h => ?_⟩
  have hmono := (C.mono (i := κ) (j := i) hκ (by omega)).1
  by_cases hn : n < (S κ).nx
  · have h' := h
    rw [c1 n hn] at h
    exact ⟨c2 n o h', .inl ⟨hn, h⟩, (hbd n o h).2.mono hmono⟩
  · obtain ⟨j, j1, j2, j3, j4, j5, j6⟩ := c3 n o h (by omega)
    have hDj := hpre j (land_sub hrm (C.marked j2 (by omega) (by omega)))
    have hm2 := (C.mono (i := j + 1) (j := i) (by omega) (by omega)).1
    exact ⟨c2 n o h, .inr ⟨by omega, j, by omega, hDj, j1, j3, j4, j5, j6⟩, (I.xb j hDj (hnw j j1 j2) j6 n o j3 j4 j5).1.mono hm2⟩

theorem keepC {c : Nat} {p : Nat} : ∀ {q : Nat}, p ≤ q → (∀ t, p ≤ t → t < q → (S (t + 1)).get c = (S t).get c) → (S q).get c = (S p).get c
  | 0, h, _ => by have : p = 0 := by omega
                  subst this; rfl
  | q + 1, h, hk => by
    by_cases e : p = q + 1
    · subst e; rfl
    · rw [hk q (by omega) (by omega)]
      exact keepC (by omega) fun t h1 h2 => hk t h1 (by omega)

theorem findRange {c p : Nat} : ∀ {q : Nat}, p ≤ q → (S p).nx ≤ c → c < (S q).nx → ∃ t, p ≤ t ∧ t < q ∧ (S t).nx ≤ c ∧ c < (S (t + 1)).nx
  | 0, h, h1, h2 => by have : p = 0 := by omega
                       subst this; omega
  | q + 1, h, h1, h2 => by
    by_cases e : p = q + 1
    · subst e; omega
    · by_cases hq : c < (S q).nx
      · obtain ⟨t, t1, t2, t3⟩ := findRange (by omega) h1 hq
        exact ⟨t, t1, by omega, t3⟩
      · exact ⟨q, by omega, by omega, by omega, h2⟩

include I in
theorem InvR.lastWild : ∀ i, ∃ κ', κ' ≤ i ∧ (κ' = 0 ∨ ∃ u, κ' = u + 1 ∧ Wild E call lo all bs F S M V u ∧ D u = true) ∧ ∀ t, κ' ≤ t → t < i → Wild E call lo all bs F S M V t → D t = false
  | 0 => ⟨0, Nat.le_refl _, .inl rfl, fun t _ h => by omega⟩
  | i + 1 => by
    obtain ⟨κ', h1, h2, h3⟩ := InvR.lastWild i
    by_cases hw : Wild E call lo all bs F S M V i ∧ D i = true
    · exact ⟨i + 1, Nat.le_refl _, .inr ⟨i, rfl, hw⟩, fun t ht1 ht2 => by omega⟩
    · refine ⟨κ', by omega, h2, fun t t1 t2 hW => ?_⟩
      by_cases e : t = i
      · subst e
        cases hD : D t with
        | false => rfl
        | true => exact absurd ⟨hW, hD⟩ hw
      · exact h3 t t1 (by omega) hW

theorem apartX_ne {c : Nat} {w : Option Nat} (h : apartX c w = true) : ∃ d, w = some d ∧ c ≠ d := by
  unfold apartX at h
  split at h
  · rename_i d
    split at h
    · simp at h
    · rename_i hne
      exact ⟨d, rfl, fun e => by rw [e] at hne; simp at hne⟩
  · simp at h

include C I in
/-- What a step that looks at one block sees is what there is. -/
theorem InvR.reads {i b c : Nat} {ob : AO} (hi : i < all.length) (hDi : D i = false) (hb : bs[i]? = some b) (hpre : ∀ k, Nat.testBit b k = true → D k = true) (hr : readOk b c (M i).wl = true)
    (hc0 : c < n0 ∨ (Nat.land (M i).rm b = (M i).rm ∧ c < (S i).nx)) (hrl : (i, c) ∈ (M (i + 1)).rl) (hnw : ¬ Wild E call lo all bs F S M V i) (hget : (S i).get c = some ob) :
    LD all.length S D κ c ob ∧ OBnd (S i).nx ob ∧ c < (S i).nx := by
  obtain ⟨κ', k1, k2, k3⟩ := I.lastWild i
  have hbd := I.bd κ' k2
  have hκ'l := I.good C k2
  have hcn : c < (S i).nx := by
    rcases hc0 with h | h
    · have := C.nx_n0 (j := i) (by omega); omega
    · exact h.2
  -- a wild operation that is told ahead of i and not done leaves c alone
  have ahead : ∀ t, t < i → Wild E call lo all bs F S M V t → D t = false → (S (t + 1)).get c = (S t).get c := by
    intro t h1 hW hD
    obtain ⟨o, b', g, w', ho, hb', hg, hwant, hrm', hwm', htm', hwo, hst, hk, hn, hl, hm⟩ := hW
    have hwl : (t, w') ∈ (M i).wl := (C.mono (i := t + 1) (j := i) (by omega) (by omega)).2.2.2.2.2 _ (by rw [hm]; exact List.mem_cons_self)
    have := List.all_eq_true.1 hr _ hwl
    simp only [Bool.or_eq_true] at this
    rcases this with h | h
    · have := hpre t h; rw [hD] at this; simp at this
    · obtain ⟨d, rfl, hne⟩ := apartX_ne h
      obtain ⟨x, hx1, hx2⟩ := hk d rfl
      exact stepX_apart hst hx1 hx2 c hne
  have behind : ∀ t, i < t → t < all.length → Wild E call lo all bs F S M V t → D t = true → (S (t + 1)).get c = (S t).get c := by
    intro t h1 h2 hW hD
    obtain ⟨o, b', g, w', ho, hb', hg, hwant, hrm', hwm', htm', hwo, hst, hk, hn, hl, hm⟩ := hW
    have hrl' : (i, c) ∈ (M t).rl := (C.mono (i := i + 1) (j := t) (by omega) (by omega)).2.2.2.2.1 _ hrl
    have := List.all_eq_true.1 hwo _ hrl'
    simp only [Bool.or_eq_true] at this
    rcases this with h | h
    · rw [I.undone C hDi hD hb'] at h; simp at h
    · obtain ⟨d, rfl, hne⟩ := apartX_ne h
      obtain ⟨x, hx1, hx2⟩ := hk d rfl
      exact stepX_apart hst hx1 hx2 c hne
  -- from a place p up to κ nothing turns c
  have upto : ∀ p, κ' ≤ p → p ≤ κ → c < (S p).nx → (S κ).get c = (S p).get c := by
    intro p hp1 hp2 hcp
    have hκl := I.good C I.kap1
    refine keepC hp2 fun t t1 t2 => ?_
    by_cases hW : Wild E call lo all bs F S M V t
    · rcases Nat.lt_trichotomy t i with h | h | h
      · exact ahead t h hW (k3 t (by omega) h hW)
      · subst h; exact absurd hW hnw
      · have hDt : D t = true := by
          rcases I.kap1 with h0 | ⟨u, hu, hWu, hDu⟩
          · omega
          · by_cases e : t = u
            · rw [e]; exact hDu
            · obtain ⟨o, b', g, w', ho, hb', hg, hwant, hrm', hwm', _⟩ := hWu
              exact (I.down u hDu).2 b' t hb' (land_sub hwm' (C.wilded (t := t) (i := u) (by omega) (by omega) hW).1)
        exact behind t h (by omega) hW hDt
    · have hm := (C.mono (i := p) (j := t) t1 (by omega)).1
      exact (C.tame (by omega) hW).2.2.1 c (by omega)
  by_cases hcase : c < (S κ').nx
  · have e1 : (S i).get c = (S κ').get c := by
      refine keepC k1 fun t t1 t2 => ?_
      by_cases hW : Wild E call lo all bs F S M V t
      · exact ahead t t2 hW (k3 t t1 t2 hW)
      · have hm := (C.mono (i := κ') (j := t) t1 (by omega)).1
        exact (C.tame (by omega) hW).2.2.1 c (by omega)
    have hκκ : κ' ≤ κ := by
      rcases k2 with h | ⟨u, hu, hWu, hDu⟩
      · omega
      · have := I.kap2 u hWu hDu; omega
    have e2 := upto κ' (Nat.le_refl _) hκκ hcase
    have hm := (C.mono (i := κ') (j := i) k1 (by omega)).1
    have hm2 := (C.mono (i := κ') (j := κ) hκκ (I.good C I.kap1)).1
    rw [e1] at hget
    exact ⟨.inl ⟨by omega, by rw [e2]; exact hget⟩, (hbd c ob hget).2.mono hm, hcn⟩
  · have hn0 : ¬ c < n0 := fun h => hcase (by have := C.nx_n0 (j := κ') hκ'l; omega)
    have hrm : Nat.land (M i).rm b = (M i).rm := by
      rcases hc0 with h | h
      · exact absurd h hn0
      · exact h.1
    obtain ⟨t, t1, t2, t3, t4⟩ := findRange (S := S) k1 (by omega : (S κ').nx ≤ c) hcn
    have hDt := hpre t (land_sub hrm (C.marked t2 (by omega) (by omega)))
    have hWt : ¬ Wild E call lo all bs F S M V t := fun hW => by
      have := k3 t t1 t2 hW; rw [hDt] at this; simp at this
    have e1 : (S i).get c = (S (t + 1)).get c := by
      refine keepC (by omega) fun u u1 u2 => ?_
      by_cases hW : Wild E call lo all bs F S M V u
      · exact ahead u u2 hW (k3 u (by omega) u2 hW)
      · have hm := (C.mono (i := t + 1) (j := u) u1 (by omega)).1
        exact (C.tame (by omega) hW).2.2.1 c (by omega)
    rw [e1] at hget
    have hdiff : ¬ ∀ k, (S (t + 1)).get k = (S t).get k := by
      intro hs
      rw [hs c] at hget
      have e3 : (S t).get c = (S κ').get c := by
        refine keepC t1 fun u u1 u2 => ?_
        by_cases hW : Wild E call lo all bs F S M V u
        · exact ahead u (by omega) hW (k3 u u1 (by omega) hW)
        · have hm := (C.mono (i := u + 1) (j := t) (by omega) (by omega)).1
          exact (C.tame (by omega) hW).2.2.1 c (by omega)
      rw [e3] at hget
      exact hcase (hbd c ob hget).1
    have hm := (C.mono (i := t + 1) (j := i) (by omega) (by omega)).1
    refine ⟨?_, (I.xb t hDt hWt hdiff c ob t3 t4 hget).1.mono hm, hcn⟩
    by_cases hκt : κ ≤ t
    · have hm2 := (C.mono (i := κ) (j := t) hκt (by omega)).1
      exact .inr ⟨by omega, t, by omega, hDt, hκt, t3, t4, hget, hdiff⟩
    · have e2 := upto (t + 1) (by omega) (by omega) t4
      have hm2 := (C.mono (i := t + 1) (j := κ) (by omega) (I.good C I.kap1)).1
      exact .inl ⟨by omega, by rw [e2]; exact hget⟩

end
end Go.Vx
set_option linter.unusedSectionVars false
set_option linter.unusedSimpArgs false
set_option linter.unusedVariables false
namespace Go.Vx
open Go.RowKit

theorem dstIs_true {o : Option Oper} {t : Nat} (h : dstIs o t = true) : ∃ x, o = some x ∧ x.dst = some t := by
  unfold dstIs at h
  split at h
  · rename_i x
    split at h
    · rename_i d hd
      have : d = t := Nat.eq_of_beq_eq_true h
      subst this
      exact ⟨x, rfl, hd⟩
    · simp at h
  · simp at h

theorem dstIs_some {x : Oper} {t : Nat} (h : x.dst = some t) : dstIs (some x) t = true := by
  unfold dstIs
  simp [h]

theorem meet1 {all : List Oper} {x y : Oper} {t : Nat} (h : x.dst = some t) (ht : t ∈ readsOf all y) : meetX all x y = true := by
  have h1 : (readsOf all y).any (Nat.beq t) = true := List.any_eq_true.2 ⟨t, ht, by simp⟩
  unfold meetX
  simp [h, h1]

theorem meet2 {all : List Oper} {x y : Oper} {t : Nat} (h : y.dst = some t) (ht : t ∈ readsOf all x) : meetX all x y = true := by
  have h1 : (readsOf all x).any (Nat.beq t) = true := List.any_eq_true.2 ⟨t, ht, by simp⟩
  unfold meetX
  simp [h, h1]

theorem meet3 {all : List Oper} {x y : Oper} {t : Nat} (h : x.dst = some t) (h' : y.dst = some t) : meetX all x y = true := by
  unfold meetX
  simp [h, h']

theorem slot_from {all : List Oper} {D : Nat → Bool} {V : Nat → AV} {f : Fr} {t : Nat} : ∀ n, slotD all D V f t n = (f.T.get t).getD (.tup []) ∨ ∃ j, j < n ∧ D j = true ∧ dstIs all[j]? t = true ∧ slotD all D V f t n = V j
  | 0 => .inl rfl
  | n + 1 => by
    unfold slotD
    cases h : D n && dstIs all[n]? t with
    | true =>
      simp only [Bool.and_eq_true] at h
      exact .inr ⟨n, by omega, h.1, h.2, rfl⟩
    | false =>
      rcases slot_from (all := all) (D := D) (V := V) (f := f) (t := t) n with h1 | ⟨j, h1, h2, h3, h4⟩
      · exact .inl h1
      · exact .inr ⟨j, by omega, h2, h3, h4⟩

def also (i : Nat) (D : Nat → Bool) : Nat → Bool := fun j => decide (j = i) || D j

theorem also_self (i : Nat) (D : Nat → Bool) : also i D i = true := by simp [also]
theorem also_old {i j : Nat} {D : Nat → Bool} (h : D j = true) : also i D j = true := by simp [also, h]
theorem also_cases {i j : Nat} {D : Nat → Bool} (h : also i D j = true) : j = i ∨ D j = true := by simpa [also] using h
theorem also_ne {i j : Nat} {D : Nat → Bool} (h : j ≠ i) : also i D j = D j := by simp [also, h]

section
variable {E : Env} {call : CallX} {lo n0 : Nat} {all : List Oper} {bs : List Nat} {F : Nat → Fr} {S : Nat → St} {M : Nat → Met} {V : Nat → AV} {R0 : Ren} {w0 : World} {a0 : Act}
variable {D : Nat → Bool} {R : Ren} {κ : Nat} {a : Act} {w : World}
variable (C : Cn E call lo n0 all bs F S M V) (I : InvR E call lo n0 all bs F S M V R0 w0 a0 D R κ a w)
variable {i : Nat} {o : Oper} {b : Nat} (ho : all[i]? = some o) (hb : bs[i]? = some b) (hDi : D i = false) (hpre : ∀ k, Nat.testBit b k = true → D k = true)

theorem lt_of_get (ho : all[i]? = some o) : i < all.length := (List.getElem?_eq_some_iff.1 ho).1

include C I ho hb hDi hpre in
/-- What an operation reads in the slots is what was told. -/
theorem InvR.slot_read {t : Nat} (ht : t ∈ readsOf all o) : slotD all D V (F 0) t all.length = slotD all (fun _ => true) V (F 0) t i ∧ ∀ j, j < i → dstIs all[j]? t = true → D j = true := by
  have hi := lt_of_get ho
  have hbefore : ∀ j, j < i → dstIs all[j]? t = true → D j = true := by
    intro j hj hd
    obtain ⟨x, hx, hxd⟩ := dstIs_true hd
    exact hpre j (C.slots j i x o b hj hx ho hb (meet1 hxd ht))
  refine ⟨?_, hbefore⟩
  rw [slotD_cut (i := i) (by omega) (fun j h1 h2 h3 => ?_)]
  · exact slotD_congr fun j hj hd => by rw [hbefore j hj hd]
  · cases hd : dstIs all[j]? t with
    | false => rfl
    | true =>
      exfalso
      obtain ⟨x, hx, hxd⟩ := dstIs_true hd
      by_cases e : j = i
      · subst e; rw [hDi] at h3; simp at h3
      · obtain ⟨_, b', _, hb'⟩ := C.at (i := j) h2
        have := C.slots i j o x b' (by omega) ho hx hb' (meet2 hxd ht)
        rw [I.undone C hDi h3 hb'] at this
        simp at this

include C I in
/-- What the slots hold does not hang on what an operation not done yet makes. -/
theorem InvR.slot_agree (hi : i < all.length) (hDi : D i = false) (hf0 : ∀ t v, (F 0).T.get t = some v → Bnd n0 v) {R' : Ren} (hoff : Off (S i).nx (S (i + 1)).nx R R') (t : Nat) :
    conc R' (slotD all D V (F 0) t all.length) = conc R (slotD all D V (F 0) t all.length) := by
  have hag : ∀ n, n ≤ (S i).nx ∨ (S (i + 1)).nx ≤ (S i).nx → Agree n R R' := fun n hn => hoff.agree hn
  have hn0 := C.nx_n0 (j := i) (by omega)
  rcases slot_from (all := all) (D := D) (V := V) (f := F 0) (t := t) all.length with h | ⟨j, h1, h2, h3, h4⟩
  · rw [h]
    cases hg : (F 0).T.get t with
    | none => simp [conc, concL]
    | some v => exact conc_agree (hag n0 (.inl hn0)) (hf0 t v hg)
  · rw [h4]
    have hv := I.vb j h2
    by_cases hji : j < i
    · exact conc_agree (hag _ (.inl (C.mono (i := j + 1) (j := i) hji (by omega)).1)) hv.1
    · have hne : j ≠ i := fun e => by rw [e] at h2; rw [hDi] at h2; simp at h2
      by_cases hr : (S i).nx < (S (i + 1)).nx
      · obtain ⟨_, b', _, hb'⟩ := C.at (i := j) h1
        rcases hv.2 i b' (by omega) hr hb' with h5 | h5
        · rw [I.undone C hDi h2 hb'] at h5; simp at h5
        · have hm := (C.mono (i := i + 1) (j := j) (by omega) (by omega)).1
          exact conc_agreeP (hoff.agreeP (p := Own n0 (S j).nx) fun k hk => by unfold Own at hk; omega) h5
      · exact conc_agree (hag _ (.inr (by omega))) hv.1

include C I ho hb hDi in
/-- The slots behind the operation. -/
theorem InvR.slots_next (hf0 : ∀ t v, (F 0).T.get t = some v → Bnd n0 v) {R' : Ren} (hag : Off (S i).nx (S (i + 1)).nx R R') (v' : Value) (hv' : v' = conc R' (V i)) :
    (a.put o.dst v').tmps.size = (F 0).n ∧ ∀ t, t < (F 0).n → (a.put o.dst v').tmps[t]? = some (conc R' (slotD all (also i D) V (F 0) t all.length)) := by
  have hi := lt_of_get ho
  have old : ∀ t, o.dst ≠ some t → slotD all (also i D) V (F 0) t all.length = slotD all D V (F 0) t all.length := by
    intro t ht
    refine slotD_congr fun j hj hd => also_ne fun e => ?_
    subst e
    obtain ⟨x, hx, hxd⟩ := dstIs_true hd
    rw [ho] at hx
    obtain rfl := Option.some.inj hx
    exact ht hxd
  have new : ∀ t, o.dst = some t → slotD all (also i D) V (F 0) t all.length = V i := by
    intro t ht
    rw [slotD_cut (i := i + 1) (by omega) (fun j h1 h2 h3 => ?_)]
    · unfold slotD
      rw [also_self, ho, dstIs_some ht]
      rfl
    · cases hd : dstIs all[j]? t with
      | false => rfl
      | true =>
        exfalso
        obtain ⟨x, hx, hxd⟩ := dstIs_true hd
        obtain ⟨_, b', _, hb'⟩ := C.at (i := j) h2
        have h3 : D j = true := by
          rcases also_cases h3 with e | e
          · omega
          · exact e
        have := C.slots i j o x b' (by omega) ho hx hb' (meet3 ht hxd)
        rw [I.undone C hDi h3 hb'] at this
        simp at this
  cases hd : o.dst with
  | none =>
    refine ⟨I.tsz, fun t ht => ?_⟩
    rw [old t (by rw [hd]; simp), I.slot_agree C hi hDi hf0 hag t]
    exact I.tmp t ht
  | some d =>
    refine ⟨by simp [Act.put, I.tsz], fun t ht => ?_⟩
    simp only [Act.put]
    by_cases e : d = t
    · subst e
      rw [new d hd, Array.getElem?_setIfInBounds_self_of_lt (by rw [I.tsz]; exact ht), hv']
    · rw [old t (by rw [hd]; simpa using e), I.slot_agree C hi hDi hf0 hag t, Array.getElem?_setIfInBounds_ne e]
      exact I.tmp t ht

include C I ho hb hDi hpre in
/-- Behind an operation that has written nothing that was there. -/
theorem InvR.next_tame (hf0 : ∀ t v, (F 0).T.get t = some v → Bnd n0 v) (hW : ¬ Wild E call lo all bs F S M V i) {R' : Ren} {w' : World} {p r : St} (hrel : Rel R' r w') (hmv : Mv (S i).nx R p w R' r w') (hpn : p.nx = (S i).nx)
    (hp : ∀ n ob, p.get n = some ob → n < (S i).nx) (hrn : (S (i + 1)).nx = r.nx) (hgk : (∀ k, (S (i + 1)).get k = if (S i).nx ≤ k ∧ k < r.nx then r.get k else (S i).get k) ∨ ∀ k, (S (i + 1)).get k = (S i).get k)
    (hv : Bnd r.nx (V i)) (hfl : ∀ t, t < i → (S t).nx < (S (t + 1)).nx → Nat.testBit b t = true ∨ (BndP (Own n0 (S i).nx) (V i) ∧ ∀ n ob, (S i).nx ≤ n → n < r.nx → r.get n = some ob → OBndP (Own n0 (S i).nx) ob)) (v' : Value) (hv' : v' = conc R' (V i)) :
    InvR E call lo n0 all bs F S M V R0 w0 a0 (also i D) R' κ (a.put o.dst v') w' := by
  have hi := lt_of_get ho
  have hoff : Off (S i).nx (S (i + 1)).nx R R' := by
    refine ⟨fun k hk => hmv.blk k ?_, fun k hk => hmv.cap k ?_, hmv.opq⟩ <;> (rw [hpn, ← hrn]; exact hk)
  have hag : ∀ n, n ≤ (S i).nx ∨ (S (i + 1)).nx ≤ (S i).nx → Agree n R R' := fun n hn => hoff.agree hn
  have hsl := I.slots_next C ho hb hDi hf0 hoff v' hv'
  have hframe : ∀ bb, bb < w.heap.size → w'.heap[bb]? = w.heap[bb]? := fun bb hbb => hmv.frame bb hbb fun n ob h1 h2 _ => by
    have := hp n ob h2; omega
  -- what holds: as before, or new
  have split : ∀ n ob, LD all.length S (also i D) κ n ob → LD all.length S D κ n ob ∨ (κ ≤ i ∧ (S i).nx ≤ n ∧ n < (S (i + 1)).nx ∧ r.get n = some ob) := by
    intro n ob h
    rcases h with h | ⟨h1, j, h2, h3, h4, h5, h6, h7, h8⟩
    · exact .inl (.inl h)
    · rcases also_cases h3 with e | e
      · subst e
        right
        refine ⟨h4, h5, h6, ?_⟩
        rcases hgk with hgk | hgk
        · rw [hgk n, if_pos (by rw [← hrn]; exact ⟨h5, h6⟩)] at h7
          exact h7
        · exact absurd hgk h8
      · exact .inl (.inr ⟨h1, j, h2, e, h4, h5, h6, h7, h8⟩)
  have keepD : ∀ n ob, LD all.length S D κ n ob → LD all.length S (also i D) κ n ob := by
    intro n ob h
    rcases h with h | ⟨h1, j, h2, h3, h4⟩
    · exact .inl h
    · exact .inr ⟨h1, j, h2, also_old h3, h4⟩
  have oldblk : ∀ n ob, LD all.length S D κ n ob → R'.blk n = R.blk n ∧ ∀ x, ORel R ob x → ORel R' ob x := by
    intro n ob h
    have viaM : ∀ m, OBnd m ob → (m ≤ (S i).nx ∨ (S (i + 1)).nx ≤ (S i).nx) → ∀ x, ORel R ob x → ORel R' ob x := fun m h1 h2 x hx => hx.agree (hag m h2) h1
    by_cases hr : (S i).nx < (S (i + 1)).nx
    · have hκ := I.late C hi hDi hr
      rcases h with ⟨h1, h2⟩ | ⟨h1, j, h2, h3, h4, h5, h6, h7, h8⟩
      · have hm := (C.mono (i := κ) (j := i) hκ (by omega)).1
        exact ⟨hmv.blk n (.inl (by omega)), viaM (S κ).nx (I.bd κ I.kap1 n ob h2).2 (.inl hm)⟩
      · have hne : j ≠ i := fun e => by rw [e] at h3; rw [hDi] at h3; simp at h3
        have hnw : ¬ Wild E call lo all bs F S M V j := fun hW => by have := I.kap2 j hW h3; omega
        by_cases hji : j < i
        · have hm := (C.mono (i := j + 1) (j := i) hji (by omega)).1
          exact ⟨hmv.blk n (.inl (by omega)), viaM (S (j + 1)).nx (I.xb j h3 hnw h8 n ob h5 h6 h7).1 (.inl hm)⟩
        · obtain ⟨_, b', _, hb'⟩ := C.at (i := j) h2
          rcases (I.xb j h3 hnw h8 n ob h5 h6 h7).2 i b' (by omega) hr hb' with h9 | h9
          · rw [I.undone C hDi h3 hb'] at h9
            simp at h9
          · have hm := (C.mono (i := i + 1) (j := j) (by omega) (by omega)).1
            exact ⟨hoff.blk n (.inr (by omega)), fun x hx => hx.agreeP (hoff.agreeP (p := Own n0 (S j).nx) fun k hk => by have := C.nx_n0 (j := i) (by omega); unfold Own at hk; omega) h9⟩
    · have hm1 : (S (i + 1)).nx ≤ (S i).nx := by omega
      refine ⟨hmv.blk n (by omega), ?_⟩
      rcases h with ⟨h1, h2⟩ | ⟨h1, j, h2, h3, h4, h5, h6, h7, h8⟩
      · exact viaM _ (I.bd κ I.kap1 n ob h2).2 (.inr hm1)
      · have hnw : ¬ Wild E call lo all bs F S M V j := fun hW => by have := I.kap2 j hW h3; omega
        exact viaM _ (I.xb j h3 hnw h8 n ob h5 h6 h7).1 (.inr hm1)
  have oldlt : ∀ n ob, LD all.length S D κ n ob → R.blk n < w.heap.size := by
    intro n ob h
    obtain ⟨x, hx, _⟩ := I.live n ob h
    exact (Array.getElem?_eq_some_iff.1 hx).1
  have newge : ∀ n ob, (S i).nx ≤ n → r.get n = some ob → w.heap.size ≤ R'.blk n := by
    intro n ob h1 h2
    rcases Nat.lt_or_ge (R'.blk n) w.heap.size with h | h
    · obtain ⟨m, ob', g1, g2, g3⟩ := hmv.back n ob h1 h2 h
      have := hp m ob' g2
      omega
    · exact h
  have hn0 := C.nx_n0 (j := i) (by omega)
  have hloi : lo ≤ (S i).nx := Nat.le_trans C.lo_le hn0
  refine {
    down := fun j hj => ?_
    kap1 := I.kap1.imp id fun ⟨u, h1, h2, h3⟩ => ⟨u, h1, h2, also_old h3⟩
    kap2 := fun u hu hD => ?_
    bd := fun t ht => I.bd t (ht.imp id fun ⟨u, h1, h2, h3⟩ => ⟨u, h1, h2, (also_cases h3).elim (fun e => absurd (e ▸ h2) hW) id⟩)
    xb := fun j hD hnW hdiff n ob h1 h2 h3 => ?_
    vb := fun j hD => ?_
    live := fun n ob h => ?_
    inj := fun n m ob ob' h1 h2 he => ?_
    blk := fun n hn => ?_
    cap := fun n hn => ?_
    opq := hmv.opq.trans I.opq
    keep := fun n ob hn => ?_
    os := hmv.os.trans I.os
    tape := hmv.tape.trans I.tape
    output := hmv.output.trans I.output
    size := Nat.le_trans I.size hmv.size
    frame := fun bb h1 h2 => ?_
    back := fun n ob h1 h2 h3 => ?_
    tsz := hsl.1
    tmp := hsl.2
    defers := ?_ }
  · rcases also_cases hj with e | e
    · subst e
      refine ⟨hi, fun b' k hb' hk => ?_⟩
      rw [hb] at hb'
      obtain rfl := Option.some.inj hb'
      exact also_old (hpre k hk)
    · exact ⟨(I.down j e).1, fun b' k hb' hk => also_old ((I.down j e).2 b' k hb' hk)⟩
  · rcases also_cases hD with e | e
    · subst e; exact absurd hu hW
    · exact I.kap2 u hu e
  · rcases also_cases hD with e | e
    · subst e
      rcases hgk with hgk | hgk
      · rw [hgk n, if_pos (by rw [← hrn]; exact ⟨h1, h2⟩)] at h3
        refine ⟨by rw [hrn]; exact (hrel.bnd n ob h3).2, fun t b' h5 h6 hb' => ?_⟩
        rw [hb] at hb'
        obtain rfl := Option.some.inj hb'
        exact (hfl t h5 h6).imp id fun q => q.2 n ob h1 (by omega) h3
      · exact absurd hgk hdiff
    · exact I.xb j e hnW hdiff n ob h1 h2 h3
  · rcases also_cases hD with e | e
    · subst e
      refine ⟨by rw [hrn]; exact hv, fun t b' h1 h2 hb' => ?_⟩
      rw [hb] at hb'
      obtain rfl := Option.some.inj hb'
      exact (hfl t h1 h2).imp id fun q => q.1
    · exact I.vb j e
  · rcases split n ob h with h | ⟨h1, h2, h3, h4⟩
    · obtain ⟨x, hx, hr⟩ := I.live n ob h
      obtain ⟨e, hm⟩ := oldblk n ob h
      refine ⟨x, ?_, hm x hr⟩
      rw [e, hframe _ (oldlt n ob h)]
      exact hx
    · exact hrel.live n ob h4
  · rcases split n ob h1 with h1 | ⟨_, h1, _, h1'⟩ <;> rcases split m ob' h2 with h2 | ⟨_, h2, _, h2'⟩
    · rw [(oldblk n ob h1).1, (oldblk m ob' h2).1] at he
      exact I.inj n m ob ob' h1 h2 he
    · have g1 := newge m ob' h2 h2'
      have g2 := oldlt n ob h1
      rw [(oldblk n ob h1).1] at he
      omega
    · have g1 := newge n ob h1 h1'
      have g2 := oldlt m ob' h2
      rw [(oldblk m ob' h2).1] at he
      omega
    · exact hrel.inj n m ob ob' h1' h2' he
  · have hm := (C.mono (i := i + 1) (j := all.length) (by omega) (Nat.le_refl _)).1
    rw [hmv.blk n (by rw [hpn, ← hrn]; omega)]
    exact I.blk n hn
  · have hm := (C.mono (i := i + 1) (j := all.length) (by omega) (Nat.le_refl _)).1
    rw [hmv.cap n (by rw [hpn, ← hrn]; omega)]
    exact I.cap n hn
  · rw [← I.keep n ob hn]
    refine ⟨fun h => ?_, keepD n ob⟩
    rcases split n ob h with h | ⟨_, h1, _⟩
    · exact h
    · omega
  · rw [hframe bb (Nat.lt_of_lt_of_le h1 I.size)]
    exact I.frame bb h1 h2
  · rcases split n ob h2 with h | ⟨_, g1, _, g2⟩
    · rw [(oldblk n ob h).1] at h3 ⊢
      exact I.back n ob h1 h h3
    · have := newge n ob g1 g2
      have := I.size
      omega
  · rw [← I.defers]
    cases o.dst <;> rfl

end
end Go.Vx
set_option linter.unusedSectionVars false
set_option linter.unusedSimpArgs false
set_option linter.unusedVariables false
namespace Go.Vx
open Go.RowKit

section
variable {E : Env} {call : CallX} {lo n0 : Nat} {all : List Oper} {bs : List Nat} {F : Nat → Fr} {S : Nat → St} {M : Nat → Met} {V : Nat → AV} {R0 : Ren} {w0 : World} {a0 : Act}
variable {D : Nat → Bool} {R : Ren} {κ : Nat} {a : Act} {w : World}
variable (C : Cn E call lo n0 all bs F S M V) (I : InvR E call lo n0 all bs F S M V R0 w0 a0 D R κ a w)
variable {i : Nat} {o : Oper} {b : Nat} (ho : all[i]? = some o) (hb : bs[i]? = some b) (hDi : D i = false) (hpre : ∀ k, Nat.testBit b k = true → D k = true)

include C I ho hb hDi hpre in
/-- Behind an operation that has written what was there. -/
theorem InvR.next_wild (hf0 : ∀ t v, (F 0).T.get t = some v → Bnd n0 v) (hW : Wild E call lo all bs F S M V i) {R' : Ren} {w' : World} (hrel : Rel R' (S (i + 1)) w') (hmv : Mv lo R (S i) w R' (S (i + 1)) w')
    (hv : Bnd (S (i + 1)).nx (V i)) (v' : Value) (hv' : v' = conc R' (V i)) :
    InvR E call lo n0 all bs F S M V R0 w0 a0 (also i D) R' (i + 1) (a.put o.dst v') w' := by
  have hi := lt_of_get ho
  obtain ⟨o', b', g, wr, ho', hb', hg, hwant, hrm, hwm, htm, hwo, hst, hk, hn, hl, hm⟩ := id hW
  rw [hb] at hb'
  obtain rfl := Option.some.inj hb'
  have hsee := I.sees C hi hDi hb hpre hrm hwm (C.wildM hW).2.2.2.2.2.2.2.2.1
  obtain ⟨hκ, hsame, hsees⟩ := hsee
  have hoff : Off (S i).nx (S (i + 1)).nx R R' := ⟨fun k hk => hmv.blk k hk, fun k hk => hmv.cap k hk, hmv.opq⟩
  have hag : ∀ n, n ≤ (S i).nx ∨ (S (i + 1)).nx ≤ (S i).nx → Agree n R R' := fun n hn => hoff.agree hn
  have hsl := I.slots_next C ho hb hDi hf0 hoff v' hv'
  have hn0 := C.nx_n0 (j := i) (by omega)
  have hloi : lo ≤ (S i).nx := Nat.le_trans C.lo_le hn0
  have hκi := (C.mono (i := κ) (j := i) hκ (by omega)).1
  have hloκ : lo ≤ (S κ).nx := Nat.le_trans C.lo_le (C.nx_n0 (I.good C I.kap1))
  have split : ∀ n ob, LD all.length S (also i D) (i + 1) n ob → (n < (S (i + 1)).nx ∧ (S (i + 1)).get n = some ob) ∨ ((S (i + 1)).nx ≤ n ∧ LD all.length S D κ n ob ∧ R'.blk n = R.blk n ∧ ORel R' ob = ORel R ob ∧ w'.heap[R.blk n]? = w.heap[R.blk n]?) := by
    intro n ob h
    rcases h with h | ⟨h1, j, h2, h3, h4, h5, h6, h7, h8⟩
    · exact .inl h
    · right
      have hDj : D j = true := by
        rcases also_cases h3 with e | e
        · omega
        · exact e
      have hLD : LD all.length S D κ n ob := .inr ⟨by omega, j, h2, hDj, by omega, h5, h6, h7, h8⟩
      have hnw : ¬ Wild E call lo all bs F S M V j := fun hWj => by have := I.kap2 j hWj hDj; omega
      obtain ⟨x, hx, hr⟩ := I.live n ob hLD
      have hlt := (Array.getElem?_eq_some_iff.1 hx).1
      refine ⟨h1, hLD, hmv.blk n (.inr h1), ?_, ?_⟩
      · have hob := I.xb j hDj hnw h8 n ob h5 h6 h7
        funext y
        rcases Nat.lt_or_ge (S i).nx (S (i + 1)).nx with hr2 | hr2
        · obtain ⟨_, b', _, hb'⟩ := C.at (i := j) h2
          rcases hob.2 i b' (by omega) hr2 hb' with h9 | h9
          · rw [I.undone C hDi hDj hb'] at h9
            simp at h9
          · have hm := (C.mono (i := i + 1) (j := j) (by omega) (by omega)).1
            have hA := hoff.agreeP (p := Own n0 (S j).nx) fun k hk => by unfold Own at hk; omega
            exact propext ⟨fun hh => hh.agreeP hA.symm h9, fun hh => hh.agreeP hA h9⟩
        · have hA := hag (S (j + 1)).nx (.inr hr2)
          refine propext ⟨fun hh => ?_, fun hh => hh.agree hA hob.1⟩
          have hA' : Agree (S (j + 1)).nx R' R := ⟨fun k hk => (hA.blk k hk).symm, fun k hk => (hA.cap k hk).symm, hA.opq.symm⟩
          exact hh.agree hA' hob.1
      · refine hmv.frame _ hlt fun n' ob' g1 g2 g3 => ?_
        obtain ⟨q1, q2, q3⟩ := hsees n' ob' g2
        have := I.inj n' n ob' ob q2 hLD g3
        omega
  refine {
    down := fun j hj => ?_
    kap1 := .inr ⟨i, rfl, hW, also_self i D⟩
    kap2 := fun u hu hD => ?_
    bd := fun t ht n ob h => ?_
    xb := fun j hD hnW hdiff n ob h1 h2 h3 => ?_
    vb := fun j hD => ?_
    live := fun n ob h => ?_
    inj := fun n m ob ob' h1 h2 he => ?_
    blk := fun n hn => ?_
    cap := fun n hn => ?_
    opq := hmv.opq.trans I.opq
    keep := fun n ob hn => ?_
    os := hmv.os.trans I.os
    tape := hmv.tape.trans I.tape
    output := hmv.output.trans I.output
    size := Nat.le_trans I.size hmv.size
    frame := fun bb h1 h2 => ?_
    back := fun n ob h1 h2 h3 => ?_
    tsz := hsl.1
    tmp := hsl.2
    defers := ?_ }
  · rcases also_cases hj with e | e
    · subst e
      refine ⟨hi, fun b' k hb' hk => ?_⟩
      rw [hb] at hb'
      obtain rfl := Option.some.inj hb'
      exact also_old (hpre k hk)
    · exact ⟨(I.down j e).1, fun b' k hb' hk => also_old ((I.down j e).2 b' k hb' hk)⟩
  · rcases also_cases hD with e | e
    · omega
    · have := I.kap2 u hu e; omega
  · rcases ht with e | ⟨u, h1, h2, h3⟩
    · exact I.bd t (.inl e) n ob h
    · rcases also_cases h3 with e | e
      · subst e; subst h1
        exact hrel.bnd n ob h
      · exact I.bd t (.inr ⟨u, h1, h2, e⟩) n ob h
  · rcases also_cases hD with e | e
    · subst e; exact absurd hW hnW
    · exact I.xb j e hnW hdiff n ob h1 h2 h3
  · rcases also_cases hD with e | e
    · subst e
      refine ⟨hv, fun t b' h1 h2 hb' => .inl ?_⟩
      rw [hb] at hb'
      obtain rfl := Option.some.inj hb'
      exact land_sub hrm (C.marked h1 (by omega) h2)
    · exact I.vb j e
  · rcases split n ob h with ⟨h1, h2⟩ | ⟨h1, h2, h3, h4, h5⟩
    · exact hrel.live n ob h2
    · obtain ⟨x, hx, hr⟩ := I.live n ob h2
      exact ⟨x, by rw [h3, h5]; exact hx, by rw [h4]; exact hr⟩
  · have cross : ∀ n m ob ob', n < (S (i + 1)).nx → (S (i + 1)).get n = some ob → (S (i + 1)).nx ≤ m → LD all.length S D κ m ob' → R'.blk m = R.blk m → R'.blk n = R'.blk m → False := by
      intro n m ob ob' p1 p2 q1 q2 q3 he
      obtain ⟨x, hx, _⟩ := I.live m ob' q2
      have hlt := (Array.getElem?_eq_some_iff.1 hx).1
      by_cases hln : lo ≤ n
      · obtain ⟨m', ob2, g1, g2, g3⟩ := hmv.back n ob hln p2 (by omega)
        obtain ⟨z1, z2, z3⟩ := hsees m' ob2 g2
        have := I.inj m' m ob2 ob' z2 q2 (by omega)
        omega
      · have hk := hmv.keep n (by omega)
        rw [hk] at p2
        obtain ⟨z1, z2, z3⟩ := hsees n ob p2
        have hbn := hmv.blk n (.inl z1)
        have := I.inj n m ob ob' z2 q2 (by omega)
        omega
    rcases split n ob h1 with ⟨p1, p2⟩ | ⟨p1, p2, p3, _⟩ <;> rcases split m ob' h2 with ⟨q1, q2⟩ | ⟨q1, q2, q3, _⟩
    · exact hrel.inj n m ob ob' p2 q2 he
    · exact absurd (cross n m ob ob' p1 p2 q1 q2 q3 he) id
    · exact absurd (cross m n ob' ob q1 q2 p1 p2 p3 he.symm) id
    · rw [p3, q3] at he
      exact I.inj n m ob ob' p2 q2 he
  · have hm := (C.mono (i := i + 1) (j := all.length) (by omega) (Nat.le_refl _)).1
    rw [hmv.blk n (by omega)]
    exact I.blk n hn
  · have hm := (C.mono (i := i + 1) (j := all.length) (by omega) (Nat.le_refl _)).1
    rw [hmv.cap n (by omega)]
    exact I.cap n hn
  · rw [← I.keep n ob hn]
    have e1 : (S (i + 1)).get n = (S κ).get n := (hmv.keep n hn).trans (hsame n (by omega))
    constructor
    · intro h
      rcases h with ⟨_, h2⟩ | ⟨h1, _⟩
      · exact .inl ⟨by omega, by rw [← e1]; exact h2⟩
      · omega
    · intro h
      rcases h with ⟨_, h2⟩ | ⟨h1, _⟩
      · exact .inl ⟨by omega, by rw [e1]; exact h2⟩
      · omega
  · rw [hmv.frame bb (Nat.lt_of_lt_of_le h1 I.size) fun n ob g1 g2 g3 => ?_]
    · exact I.frame bb h1 h2
    · obtain ⟨z1, z2, z3⟩ := hsees n ob g2
      obtain ⟨m, ob', k1, k2, k3⟩ := I.back n ob g1 z2 (by omega)
      exact h2 m ob' k1 k2 (by omega)
  · rcases split n ob h2 with ⟨p1, p2⟩ | ⟨p1, p2, p3, _⟩
    · obtain ⟨m, ob', g1, g2, g3⟩ := hmv.back n ob h1 p2 (Nat.lt_of_lt_of_le h3 I.size)
      obtain ⟨z1, z2, z3⟩ := hsees m ob' g2
      obtain ⟨m', ob2, k1, k2, k3⟩ := I.back m ob' g1 z2 (by omega)
      exact ⟨m', ob2, k1, k2, by omega⟩
    · rw [p3] at h3 ⊢
      exact I.back n ob h1 p2 h3
  · rw [← I.defers]
    cases o.dst <;> rfl

/-- The frame that an operation reads fits. -/
theorem frame_read {P : Program} {ops : Array Oper} (hall : all = ops.toList) {g : Fr} (C : Cn E call lo n0 all bs F S M V) (I : InvR E call lo n0 all bs F S M V R0 w0 a0 D R κ a w) (ho : all[i]? = some o) (hb : bs[i]? = some b) (hDi : D i = false)
    (hpre : ∀ k, Nat.testBit b k = true → D k = true) (hf0 : ∀ t v, (F 0).T.get t = some v → Bnd n0 v) (hglob : ∀ x, x < (F 0).G → R0.blk x = x ∧ x < n0) (hg : Restr all o (F i) g) :
    ∃ a2 : Act, FrOk R (S i).nx g a2 ∧ (∀ x ∈ o.op.operands, a.eval x = a2.eval x) ∧ Region.wanted o (yielded ops a.tmps) = wantX g all o := by
  have hi := lt_of_get ho
  obtain ⟨f1, f2, f3, f4⟩ := C.frames (i := i) (by omega)
  have hn0 := C.nx_n0 (j := i) (by omega)
  have hval : ∀ t, t ∈ readsOf all o → a.tmps[t]? = if t < (F 0).n then some (conc R (((F i).T.get t).getD (.tup []))) else none := by
    intro t ht
    by_cases h : t < (F 0).n
    · rw [if_pos h, I.tmp t h, (I.slot_read C ho hb hDi hpre ht).1, ← f4 t]
    · rw [if_neg h]
      exact Array.getElem?_eq_none_iff.2 (by rw [I.tsz]; omega)
  let a2 : Act := { a with tmps := a.tmps.mapIdx fun t v => if t ∈ readsOf all o then v else undef }
  have ha2 : ∀ t, t ∈ readsOf all o → a2.tmps[t]? = a.tmps[t]? := by
    intro t ht
    simp only [a2, Array.getElem?_mapIdx, if_pos ht]
    cases a.tmps[t]? <;> rfl
  have hF : FrOk R (S i).nx g a2 := by
    refine ⟨by simp only [a2, Array.size_mapIdx]; rw [I.tsz, hg.n, f1], fun t ht => ?_, fun t ht => ?_, fun t v hv => ?_, fun x hx => ?_, by rw [hg.n, f1]; exact C.f0⟩
    · rw [hg.n, f1] at ht
      rw [hg.get t]
      by_cases hr : t ∈ readsOf all o
      · rw [ha2 t hr, hval t hr, if_pos ht, if_pos hr]
      · rw [if_neg hr]
        simp only [a2, Array.getElem?_mapIdx, if_neg hr]
        have : t < a.tmps.size := by rw [I.tsz]; exact ht
        rw [Array.getElem?_eq_getElem this]
        simp [conc, concL, undef]
    · rw [hg.n, f1] at ht
      rw [hg.get t]
      split
      · exact f3 t ht
      · rfl
    · rw [hg.get t] at hv
      split at hv
      · rename_i hr
        have hsl := I.slot_read C ho hb hDi hpre hr
        have e : v = slotD all (fun _ => true) V (F 0) t i := by rw [← f4 t, hv]; rfl
        rcases slot_from (all := all) (D := fun _ => true) (V := V) (f := F 0) (t := t) i with h | ⟨j, h1, _, h3, h4⟩
        · rw [h] at e
          cases hg0 : (F 0).T.get t with
          | none => rw [hg0] at e; subst e; simp [Bnd, BndL]
          | some u => rw [hg0] at e; subst e; exact (hf0 t _ hg0).mono hn0
        · rw [h4] at e
          subst e
          exact (I.vb j (hsl.2 j h1 h3)).1.mono (C.mono (i := j + 1) (j := i) h1 (by omega)).1
      · simp at hv
    · rw [hg.G, f2] at hx
      have := hglob x hx
      exact ⟨by rw [I.blk x (.inl this.2)]; exact this.1, by omega⟩
  refine ⟨a2, hF, fun x hx => ?_, ?_⟩
  · cases x with
    | tmp t =>
      have ht : t ∈ readsOf all o := by
        unfold readsOf
        refine List.mem_append.2 (.inl (List.mem_filterMap.2 ⟨.tmp t, by simpa using hx, rfl⟩))
      have := ha2 t ht
      simp only [Act.eval, Array.getD_eq_getD_getElem?]
      rw [this]
    | const v => rfl
    | global g => rfl
    | func g => rfl
  · subst hall
    rw [want_ok hF]
    unfold Region.wanted
    cases hgd : o.guard with
    | none => rfl
    | some p =>
      obtain ⟨j, want⟩ := p
      have : yielded ops a.tmps j = yielded ops a2.tmps j := by
        unfold yielded
        cases hj : ops[j]? with
        | none => rfl
        | some q =>
          simp only [Option.bind_some]
          cases hd : q.dst with
          | none => rfl
          | some d =>
            simp only [Option.bind_some]
            have hr : (d : Nat) ∈ readsOf ops.toList o := by
              unfold readsOf
              refine List.mem_append.2 (.inr ?_)
              rw [hgd]
              simp [hj, hd]
            have := ha2 d hr
            rw [this]
      simp only [this]


/-- How many operations are not done yet. -/
def todoN (D : Nat → Bool) : Nat → Nat
  | 0 => 0
  | n + 1 => todoN D n + (if D n then 0 else 1)

theorem todoN_also {D : Nat → Bool} {i : Nat} : ∀ {n : Nat}, i < n → D i = false → todoN (also i D) n + 1 = todoN D n
  | 0, h, _ => by omega
  | n + 1, h, hD => by
    unfold todoN
    by_cases e : i = n
    · subst e
      have : todoN (also i D) i = todoN D i := by
        have gen : ∀ m, m ≤ i → todoN (also i D) m = todoN D m := by
          intro m
          induction m with
          | zero => intro _; rfl
          | succ m ih => intro hm; unfold todoN; rw [ih (by omega), also_ne (by omega)]
        exact gen i (Nat.le_refl _)
      rw [this, also_self, hD]
      simp
    · have ih := todoN_also (D := D) (i := i) (n := n) (by omega) hD
      rw [also_ne (Ne.symm e), ← ih]
      omega

theorem todoN_zero {D : Nat → Bool} : ∀ {n : Nat}, todoN D n = 0 → ∀ i, i < n → D i = true
  | 0, _, i, h => by omega
  | n + 1, h, i, hi => by
    unfold todoN at h
    cases hD : D n with
    | false => rw [hD] at h; simp at h
    | true =>
      by_cases e : i = n
      · subst e; exact hD
      · exact todoN_zero (n := n) (by omega) i (by omega)

theorem todoN_pos {D : Nat → Bool} : ∀ {n : Nat}, todoN D n ≠ 0 → ∃ i, i < n ∧ D i = false ∧ ∀ j, j < i → D j = true
  | 0, h => absurd rfl h
  | n + 1, h => by
    by_cases h0 : todoN D n = 0
    · have hall := todoN_zero h0
      unfold todoN at h
      rw [h0] at h
      cases hD : D n with
      | true => rw [hD] at h; simp at h
      | false => exact ⟨n, by omega, hD, hall⟩
    · obtain ⟨i, h1, h2, h3⟩ := todoN_pos h0
      exact ⟨i, by omega, h2, h3⟩

theorem execOp_read {P : Program} {a a2 : Act} {o : Oper} {lo : Nat} {g : Fr} {s : St} {r : AV × St} (hs : stepX o.op E call lo g s = some r) (h : ∀ x ∈ o.op.operands, a.eval x = a2.eval x) : execOp a.eval o = execOp a2.eval o := by
  refine execOp_congr o (fun cs b e => ?_) h
  rw [e] at hs
  have hs : opX (.select cs b) E lo g s = some r := hs
  simp [opX, noneX] at hs

include C in
/-- One operation of a drawn region, whatever has been done before it. -/
theorem InvR.doIt {P : Program} (hE : E.Ok P) (hcall : CallOk P E call) {ops : Array Oper} (hall : all = ops.toList) {Q : Exit → Act → World → Prop} (I : InvR E call lo n0 all bs F S M V R0 w0 a0 D R κ a w) (ho : all[i]? = some o) (hb : bs[i]? = some b) (hDi : D i = false)
    (hpre : ∀ k, Nat.testBit b k = true → D k = true) (hf0 : ∀ t v, (F 0).T.get t = some v → Bnd n0 v) (hglob : ∀ x, x < (F 0).G → R0.blk x = x ∧ x < n0) (hG : (F 0).G = E.G) (K : Act → World → Prop)
    (hK : ∀ R' κ' a' w', InvR E call lo n0 all bs F S M V R0 w0 a0 (also i D) R' κ' a' w' → K a' w') : wpOp P ops Q i K a w := by
  have hi := lt_of_get ho
  have hn0 := C.nx_n0 (j := i) (by omega)
  have hopo : ops[i]? = some o := by rw [hall] at ho; simpa using ho
  have hlim := C.nx_lim (j := i) (by omega)
  obtain ⟨hp, g, hg, halt⟩ := C.step i o b ho hb
  have hGg : g.G = E.G := hg.G.trans ((C.frames (i := i) (by omega)).2.1.trans hG)
  obtain ⟨a2, hF, hev, hwant⟩ := frame_read (P := P) hall C I ho hb hDi hpre hf0 hglob hg
  have hoplt : ∀ n ob, LD all.length S D κ n ob → True := fun _ _ _ => trivial
  unfold wpOp
  rw [hopo]
  simp only
  rw [hwant]
  have hloi : lo ≤ (S i).nx := Nat.le_trans C.lo_le hn0
  by_cases hW : Wild E call lo all bs F S M V i
  · obtain ⟨o', b', g', wr, ho', hb', hg', hwant', hrm, hwm, htm, hwo, hst, hk, hn, hl, hm⟩ := id hW
    rw [ho] at ho'; obtain rfl := Option.some.inj ho'
    rw [hb] at hb'; obtain rfl := Option.some.inj hb'
    have hGg' : g'.G = E.G := hg'.G.trans ((C.frames (i := i) (by omega)).2.1.trans hG)
    obtain ⟨a3, hF3, hev3, hwant3⟩ := frame_read (P := P) hall C I ho hb hDi hpre hf0 hglob hg'
    rw [← hwant, hwant3, hwant', if_pos rfl]
    left
    obtain ⟨hκ, hsame, hsees⟩ := I.sees C hi hDi hb hpre hrm hwm (C.wildM hW).2.2.2.2.2.2.2.2.1
    have hrel : Rel R (S i) w := ⟨fun n ob h => I.live n ob (hsees n ob h).2.1, fun n m ob ob' h1 h2 he => I.inj n m ob ob' (hsees n ob h1).2.1 (hsees m ob' h2).2.1 he, fun n ob h => ⟨(hsees n ob h).1, (hsees n ob h).2.2⟩, hlim⟩
    unfold Oper.wp
    rw [execOp_read (P := P) hst hev3]
    exact stepX_up hE hrel hF3 hloi hcall hGg' hst a K Q fun R' w' h1 h2 h3 => hK R' (i + 1) _ w' (I.next_wild C ho hb hDi hpre hf0 hW h1 h2 h3 _ rfl)
  · rcases halt with ⟨hw0, hV, hS, hM⟩ | ⟨hw1, hT⟩
    · rw [hw0, if_neg (by simp)]
      have hu : undef = conc R (V i) := by rw [hV]; simp [conc, concL, undef]
      refine hK R κ _ w (I.next_tame C ho hb hDi hpre hf0 hW (p := ⟨.e, (S i).nx⟩) (r := ⟨.e, (S i).nx⟩) ⟨fun n ob h => ?_, fun n m ob ob' h => ?_, fun n ob h => ?_, hlim⟩ (Mv.refl _ _ _ _) rfl (fun n ob h => ?_) (by rw [hS]) (.inr fun k => by rw [hS]) (by rw [hV]; simp [Bnd, BndL]) (fun t _ _ => .inr ⟨by rw [hV]; simp [BndP, BndPL], fun n ob _ _ h => absurd h (by simp [St.get, Tr.get_e])⟩) _ hu)
      all_goals (exact absurd h (by simp [St.get, Tr.get_e]))
    · rw [hw1, if_pos rfl]
      left
      unfold Oper.wp
      have emptyRel : Rel R ⟨.e, (S i).nx⟩ w := ⟨fun n ob h => absurd h (by simp [St.get, Tr.get_e]), fun n m ob ob' h => absurd h (by simp [St.get, Tr.get_e]), fun n ob h => absurd h (by simp [St.get, Tr.get_e]), hlim⟩
      have fl : ∀ {r : St}, floatOk n0 b (M i).rm (V i) (S i) r = true → ∀ t, t < i → (S t).nx < (S (t + 1)).nx → Nat.testBit b t = true ∨ (BndP (Own n0 (S i).nx) (V i) ∧ ∀ n ob, (S i).nx ≤ n → n < r.nx → r.get n = some ob → OBndP (Own n0 (S i).nx) ob) := by
        intro r hf t h1 h2
        unfold floatOk at hf
        simp only [Bool.or_eq_true, Bool.and_eq_true] at hf
        rcases hf with (hf | hf) | hf
        · exact .inl (land_sub (Nat.eq_of_beq_eq_true hf) (C.marked h1 (by omega) h2))
        · have := Nat.le_of_ble_eq_true hf.2
          exact .inr ⟨(belowX_bnd hf.1).toP fun k hk => .inl hk, fun n ob g1 g2 _ => by omega⟩
        · unfold ownNew at hf
          simp only [Bool.and_eq_true] at hf
          have hnx : r.nx = (S i).nx + 1 := Nat.eq_of_beq_eq_true hf.1.1
          refine .inr ⟨ownX_ok hf.1.2, fun n ob g1 g2 g3 => ?_⟩
          have : n = (S i).nx := by omega
          subst this
          have := hf.2
          rw [g3] at this
          exact ownO_ok this
      cases hT with
      | free r hst hn hl hf hs hgk hm =>
        rw [execOp_read (P := P) hst hev]
        refine stepX_up hE emptyRel hF (Nat.le_refl _) hcall hGg hst a K Q fun R' w' h1 h2 h3 => hK R' κ _ w' (I.next_tame C ho hb hDi hpre hf0 hW h1 h2 rfl (fun n ob h => absurd h (by simp [St.get, Tr.get_e])) hs (.inl hgk) h3 (fl hf) _ rfl)
      | read0 r hst hn hf hs hm =>
        rw [execOp_read (P := P) hst hev]
        refine stepX_up hE emptyRel hF (Nat.le_refl _) hcall hGg hst a K Q fun R' w' h1 h2 h3 => hK R' κ _ w' (I.next_tame C ho hb hDi hpre hf0 hW h1 h2 rfl (fun n ob h => absurd h (by simp [St.get, Tr.get_e])) (by rw [hs, hn]) (.inr fun k => by rw [hs]) h3 (fl hf) _ rfl)
      | read c ob r hc hst hn hf hr hcl hc0 hs hm =>
        have hrd := I.reads C hi hDi hb hpre hr hc0 (by rw [hm]; exact List.mem_cons_self) hW hc
        have hone : ∀ n ob', (⟨Tr.set 21 .e c (some ob), (S i).nx⟩ : St).get n = some ob' → n = c ∧ ob' = ob := by
          intro n ob' h
          have h : Tr.get (Tr.set 21 .e c (some ob)) n = some ob' := h
          rw [Tr.get_set 21 .e c n (some ob) (by unfold lim at hcl; omega)] at h
          split at h
          · rename_i e; exact ⟨e, (Option.some.inj h).symm⟩
          · simp [Tr.get_e] at h
        have hrel : Rel R ⟨Tr.set 21 .e c (some ob), (S i).nx⟩ w := by
          refine ⟨fun n ob' h => ?_, fun n m ob1 ob2 h1 h2 _ => ?_, fun n ob' h => ?_, hlim⟩
          · obtain ⟨rfl, rfl⟩ := hone n ob' h
            exact I.live _ _ hrd.1
          · rw [(hone n ob1 h1).1, (hone m ob2 h2).1]
          · obtain ⟨rfl, rfl⟩ := hone n ob' h
            exact ⟨hrd.2.2, hrd.2.1⟩
        rw [execOp_read (P := P) hst hev]
        refine stepX_up hE hrel hF (Nat.le_refl _) hcall hGg hst a K Q fun R' w' h1 h2 h3 => hK R' κ _ w' (I.next_tame C ho hb hDi hpre hf0 hW h1 h2 rfl (fun n ob' h => by rw [(hone n ob' h).1]; exact hrd.2.2) (by rw [hs, hn]) (.inr fun k => by rw [hs]) h3 (fl hf) _ rfl)
      | tame r hrm hwm hst hn hl hs hgk hm =>
        obtain ⟨hκ, hsame, hsees⟩ := I.sees C hi hDi hb hpre hrm hwm (by rw [hm]; exact lor_bit _ _)
        have hrel : Rel R (S i) w := ⟨fun n ob h => I.live n ob (hsees n ob h).2.1, fun n m ob ob' h1 h2 he => I.inj n m ob ob' (hsees n ob h1).2.1 (hsees m ob' h2).2.1 he, fun n ob h => ⟨(hsees n ob h).1, (hsees n ob h).2.2⟩, hlim⟩
        rw [execOp_read (P := P) hst hev]
        refine stepX_up hE hrel hF (Nat.le_refl _) hcall hGg hst a K Q fun R' w' h1 h2 h3 => hK R' κ _ w' (I.next_tame C ho hb hDi hpre hf0 hW h1 h2 rfl (fun n ob h => (hsees n ob h).1) hs hgk h3 (fun t h1 h2 => .inl (land_sub hrm (C.marked h1 (by omega) h2))) _ rfl)
      | wild wr hrm hwm htm hwo hst hk hn hl hm => exact absurd ⟨o, b, g, wr, ho, hb, hg, hw1, hrm, hwm, htm, hwo, hst, hk, hn, hl, hm⟩ hW

end
end Go.Vx
set_option linter.unusedSectionVars false
set_option linter.unusedSimpArgs false
set_option linter.unusedVariables false
namespace Go.Vx
open Go.RowKit

section
variable {E : Env} {P : Program} (hE : E.Ok P) {call : CallX} (hcall : CallOk P E call)

theorem ready_iff {ops : Array Oper} {listed : Array Bool} (hsz : listed.size = ops.size) (i : Nat) :
    i ∈ Region.ready .any ops listed ↔ i < ops.size ∧ listed.getD i false = false ∧ ∀ o, ops[i]? = some o → ∀ e ∈ o.after.toList, Region.binds .any e = true → listed.getD e.on false = true := by
  unfold Region.ready
  rw [List.mem_filter, List.mem_range]
  have hT : ∀ j, j < ops.size → listed.getD j true = listed.getD j false := by
    intro j hj
    have : j < listed.size := by omega
    simp [Array.getD_eq_getD_getElem?, Array.getElem?_eq_getElem this]
  have hout : ∀ j, ops.size ≤ j → listed.getD j false = false := by
    intro j hj
    have : listed[j]? = none := Array.getElem?_eq_none_iff.2 (by omega)
    simp [Array.getD_eq_getD_getElem?, this]
  refine and_congr_right fun hi => ?_
  rw [Array.getElem?_eq_getElem hi, hT i hi]
  simp only [Bool.and_eq_true, Bool.not_eq_true', Option.map_some, Option.getD_some]
  rw [← Array.all_toList]
  refine and_congr_right fun _ => ?_
  constructor
  · intro c2 o ho e he hb
    obtain rfl := Option.some.inj ho
    have := List.all_eq_true.1 c2 e he
    rw [hb] at this
    simpa using this
  · intro hc
    refine List.all_eq_true.2 fun e he => ?_
    cases hb : Region.binds .any e with
    | false => rfl
    | true => simpa using hc _ rfl e he hb

/-- An operation whose edges and guard are told by new places. -/
def mapO (pos : Nat → Nat) (o : Oper) : Oper := { o with after := ⟨o.after.toList.map fun e => ⟨pos e.on, e.ground⟩⟩, guard := o.guard.map fun p => (pos p.1, p.2) }

theorem wpAny_perm {ops ops' : Array Oper} {Q : Exit → Act → World → Prop} {n : Nat} {π pos : Nat → Nat} (hn : ops.size = n) (hn' : ops'.size = n) (h1 : ∀ p, p < n → π p < n ∧ pos (π p) = p) (h2 : ∀ i, i < n → pos i < n ∧ π (pos i) = i) (h3 : ∀ i, n ≤ i → n ≤ pos i)
    (hops : ∀ p, p < n → ∃ o, ops[π p]? = some o ∧ ops'[p]? = some (mapO pos o)) :
    ∀ (fuel : Nat) (listed listed' : Array Bool) (a : Act) (w : World), listed.size = n → listed'.size = n → (∀ p, p < n → listed'.getD p false = listed.getD (π p) false) → wpAny P .any ops' Q fuel listed' a w → wpAny P .any ops Q fuel listed a w := by
  have on : ∀ (listed listed' : Array Bool), listed.size = n → listed'.size = n → (∀ p, p < n → listed'.getD p false = listed.getD (π p) false) → ∀ j, listed'.getD (pos j) false = listed.getD j false := by
    intro listed listed' s1 s2 hl j
    by_cases hj : j < n
    · rw [hl _ (h2 j hj).1, (h2 j hj).2]
    · have e1 : listed[j]? = none := Array.getElem?_eq_none_iff.2 (by omega)
      have e2 : listed'[pos j]? = none := Array.getElem?_eq_none_iff.2 (by have := h3 j (by omega); omega)
      simp [Array.getD_eq_getD_getElem?, e1, e2]
  have rdy : ∀ (listed listed' : Array Bool), listed.size = n → listed'.size = n → (∀ p, p < n → listed'.getD p false = listed.getD (π p) false) → ∀ p, p < n → (p ∈ Region.ready .any ops' listed' ↔ π p ∈ Region.ready .any ops listed) := by
    intro listed listed' s1 s2 hl p hp
    rw [ready_iff (by omega), ready_iff (by omega), hn, hn', hl p hp]
    obtain ⟨o, g1, g2⟩ := hops p hp
    rw [g1, g2]
    have e := on listed listed' s1 s2 hl
    constructor
    · rintro ⟨_, q2, q3⟩
      refine ⟨(h1 p hp).1, q2, fun o' ho' x hx hb => ?_⟩
      obtain rfl := Option.some.inj ho'
      rw [← e]
      exact q3 _ rfl ⟨pos x.on, x.ground⟩ (List.mem_map.2 ⟨x, hx, rfl⟩) hb
    · rintro ⟨_, q2, q3⟩
      refine ⟨hp, q2, fun o' ho' x hx hb => ?_⟩
      obtain rfl := Option.some.inj ho'
      obtain ⟨y, hy, rfl⟩ := List.mem_map.1 hx
      rw [e]
      exact q3 _ rfl y hy hb
  have yld : ∀ (t : Array Value) (j : Nat), yielded ops' t (pos j) = yielded ops t j := by
    intro t j
    unfold yielded
    by_cases hj : j < n
    · obtain ⟨o, g1, g2⟩ := hops (pos j) (h2 j hj).1
      rw [(h2 j hj).2] at g1
      rw [g1, g2]
      rfl
    · rw [Array.getElem?_eq_none_iff.2 (by omega : ops.size ≤ j), Array.getElem?_eq_none_iff.2 (by have := h3 j (by omega); omega : ops'.size ≤ pos j)]
  have opw : ∀ (p : Nat) (K K' : Act → World → Prop) (a : Act) (w : World), p < n → (∀ a w, K' a w → K a w) → wpOp P ops' Q p K' a w → wpOp P ops Q (π p) K a w := by
    intro p K K' a w hp hK h
    obtain ⟨o, g1, g2⟩ := hops p hp
    unfold wpOp at h ⊢
    rw [g2] at h
    rw [g1]
    simp only at h ⊢
    have hw : Region.wanted (mapO pos o) (yielded ops' a.tmps) = Region.wanted o (yielded ops a.tmps) := by
      unfold Region.wanted mapO
      cases hg : o.guard with
      | none => rfl
      | some q => simp only [Option.map_some, yld]
    rw [hw] at h
    by_cases c : Region.wanted o (yielded ops a.tmps) = true
    · rw [if_pos c] at h ⊢
      rcases h with h | h
      · exact .inl (Oper.wp_mono (o := o) hK h)
      · exact .inr h
    · rw [if_neg c] at h ⊢
      exact hK _ _ h
  intro fuel
  induction fuel with
  | zero =>
    intro listed listed' a w s1 s2 hl h
    refine ⟨?_, h.2⟩
    rw [List.eq_nil_iff_forall_not_mem]
    intro i hi
    have hin : i < n := by have := ((ready_iff (by omega) i).1 hi).1; omega
    have := (rdy listed listed' s1 s2 hl (pos i) (h2 i hin).1).2 (by rw [(h2 i hin).2]; exact hi)
    rw [h.1] at this
    simp at this
  | succ fuel ih =>
    intro listed listed' a w s1 s2 hl h
    refine ⟨fun hnil => h.1 ?_, fun i hi => ?_⟩
    · rw [List.eq_nil_iff_forall_not_mem]
      intro p hp
      have hpn : p < n := by have := ((ready_iff (by omega) p).1 hp).1; omega
      have := (rdy listed listed' s1 s2 hl p hpn).1 hp
      rw [hnil] at this
      simp at this
    · have hin : i < n := by have := ((ready_iff (by omega) i).1 hi).1; omega
      have hp := h2 i hin
      have hr := (rdy listed listed' s1 s2 hl (pos i) hp.1).2 (by rw [hp.2]; exact hi)
      have hop := h.2 (pos i) hr
      have := opw (pos i) (wpAny P .any ops Q fuel (listed.setIfInBounds i true)) _ a w hp.1 (fun a w hh => ih (listed.setIfInBounds i true) (listed'.setIfInBounds (pos i) true) a w (by simpa using s1) (by simpa using s2) (fun q hq => ?_) hh) hop
      · rw [hp.2] at this
        exact this
      · have hq1 := h1 q hq
        by_cases e : q = pos i
        · subst e
          rw [hp.2]
          simp [Array.getD_eq_getD_getElem?, s1, s2, hin, hp.1]
        · have e' : π q ≠ i := fun h => e (by rw [← h]; exact hq1.2.symm)
          have := hl q hq
          simp only [Array.getD_eq_getD_getElem?] at this ⊢
          rw [Array.getElem?_setIfInBounds_ne (Ne.symm e), Array.getElem?_setIfInBounds_ne (Ne.symm e')]
          exact this

theorem natsK_eq {β : Type} (l : List Nat) (f : List Nat → β) : natsK l f = f l := by
  induction l generalizing f with
  | nil => rfl
  | cons n l ih =>
    have e : natsK (n :: l) f = natK n fun n => natsK l fun m => f (n :: m) := rfl
    rw [e, natK_eq, ih]

theorem edgesK_eq {β : Type} (q : List Nat) (l : List Edge) (f : List Edge → β) : edgesK q l f = f (l.map fun e => ⟨posOf e.on q 0, e.ground⟩) := by
  induction l generalizing f with
  | nil => rfl
  | cons n l ih =>
    have e : edgesK q (n :: l) f = natK (posOf n.on q 0) fun k => edgesK q l fun m => f (⟨k, n.ground⟩ :: m) := rfl
    rw [e, natK_eq, ih]; rfl

theorem guardK_eq {β : Type} (q : List Nat) (g : Option (Nat × Bool)) (f : Option (Nat × Bool) → β) : guardK q g f = f (g.map fun p => (posOf p.1 q 0, p.2)) := by
  cases g with
  | none => rfl
  | some p =>
    obtain ⟨j, w⟩ := p
    show natK (posOf j q 0) (fun n => f (some (n, w))) = _
    rw [natK_eq]; rfl

theorem operK_eq {β : Type} (q : List Nat) (o : Oper) (f : Oper → β) : operK q o f = f (mapO (fun i => posOf i q 0) o) := by
  unfold operK
  rw [edgesK_eq, guardK_eq]
  rfl

theorem opersK_eq {β : Type} (all : List Oper) (q : List Nat) (l : List Nat) (f : List Oper → β) : opersK all q l f = f (l.filterMap fun n => (all[n]?).map (mapO fun i => posOf i q 0)) := by
  induction l generalizing f with
  | nil => rfl
  | cons n l ih =>
    have e : opersK all q (n :: l) f = match all[n]? with
      | some o => operK q o fun o => opersK all q l fun m => f (o :: m)
      | none => opersK all q l f := rfl
    rw [e]
    cases h : all[n]? with
    | none => simp only [h, List.filterMap_cons, Option.map_none]; exact ih f
    | some o => simp only [h, List.filterMap_cons, Option.map_some, operK_eq]; exact ih _

theorem posOf_spec (i : Nat) : ∀ (l : List Nat) (p : Nat), p ≤ posOf i l p ∧ posOf i l p ≤ p + l.length ∧ (posOf i l p < p + l.length → l[posOf i l p - p]? = some i) ∧ (posOf i l p = p + l.length → i ∉ l)
  | [], p => by simp [posOf]
  | j :: l, p => by
    obtain ⟨a, b, c, d⟩ := posOf_spec i l (Nat.succ p)
    unfold posOf
    split
    · rename_i h
      have := Nat.eq_of_beq_eq_true h
      subst this
      simp
    · rename_i h
      have hne : i ≠ j := fun e => by subst e; simp at h
      simp only [List.length_cons]
      refine ⟨by omega, by omega, fun h => ?_, fun h => ?_⟩
      · have h1 := c (by omega)
        have e : posOf i l (Nat.succ p) - p = (posOf i l (Nat.succ p) - Nat.succ p) + 1 := by omega
        rw [e]; simpa using h1
      · simp only [List.mem_cons, not_or]
        exact ⟨hne, d (by omega)⟩

include hE hcall in
theorem drawY_ok {ops : Array Oper} {lo : Nat} {Q : Exit → Act → World → Prop} {f f' : Fr} {s s' : St} {a : Act} {w : World} {R : Ren} (h : drawY ops.toList E call lo f s = some (f', s')) (hR : Rel R s w) (hF : FrOk R s.nx f a) (hG : f.G = E.G) (hlo : lo ≤ s.nx)
    (hQ : ∀ R' a' w', Rel R' s' w' → Mv lo R s w R' s' w' → FrOk R' s'.nx f' a' → f'.G = E.G → a'.defers = a.defers → Q .normal a' w') :
    wpAny P .any ops Q ops.size (Array.replicate ops.size false) a w := by
  unfold drawY at h
  split at h
  · rename_i bs hbs
    obtain ⟨hbef, hlen, hslots⟩ := plan_ok hbs
    obtain ⟨F, S, M, V, h1, h2, h3, h4, h5, h6⟩ := drawN_trace _ 0 _ f s h hF.out hF.le
    have hzl : (ops.toList.zip bs).length = ops.toList.length := by simp [hlen]
    rw [hzl] at h4 h5
    simp only at h4 h5
    have C : Cn E call lo s.nx ops.toList bs F S M V := {
      step := fun i o b ho hb => by
        have := h6 i o b (by rw [List.getElem?_zip_eq_some]; exact ⟨ho, hb⟩)
        rwa [Nat.zero_add] at this
      s0 := by rw [h2]
      m0 := h3
      f0 := by rw [h1]; exact hF.le
      out := by rw [h1]; exact hF.out
      bef := hbef
      len := hlen
      slots := hslots
      lo_le := hlo
      limit := hR.lim }
    have hf0 : ∀ t v, (F 0).T.get t = some v → Bnd s.nx v := by rw [h1]; exact hF.bnd
    have hglob : ∀ x, x < (F 0).G → R.blk x = x ∧ x < s.nx := by rw [h1]; exact hF.glob
    have hG0 : (F 0).G = E.G := by rw [h1]; exact hG
    have hLD0 : ∀ n o, LD ops.toList.length S (fun _ => false) 0 n o ↔ s.get n = some o := by
      intro n o
      constructor
      · intro h
        rcases h with ⟨_, h⟩ | ⟨_, j, _, h, _⟩
        · rw [h2] at h; exact h
        · simp at h
      · intro h
        exact .inl ⟨by rw [h2]; exact (hR.bnd n o h).1, by rw [h2]; exact h⟩
    have I0 : InvR E call lo s.nx ops.toList bs F S M V R w a (fun _ => false) R 0 a w := {
      down := fun j hj => by simp at hj
      kap1 := .inl rfl
      kap2 := fun u _ hu => by simp at hu
      bd := fun t ht n o h => by
        rcases ht with rfl | ⟨u, _, _, hu⟩
        · rw [h2] at h ⊢; exact hR.bnd n o h
        · simp at hu
      xb := fun j hj => by simp at hj
      vb := fun j hj => by simp at hj
      live := fun n o h => hR.live n o ((hLD0 n o).1 h)
      inj := fun n m o o' h1 h2 he => hR.inj n m o o' ((hLD0 n o).1 h1) ((hLD0 m o').1 h2) he
      blk := fun _ _ => rfl
      cap := fun _ _ => rfl
      opq := rfl
      keep := fun n o _ => by rw [hLD0, h2]
      os := rfl
      tape := rfl
      output := rfl
      size := Nat.le_refl _
      frame := fun _ _ _ => rfl
      back := fun n o hl h _ => ⟨n, o, hl, by rw [h2]; exact (hLD0 n o).1 h, rfl⟩
      tsz := by rw [h1]; exact hF.size
      tmp := fun t ht => by
        rw [h1] at ht ⊢
        rw [hF.tmp t ht]
        congr 2
        have : ∀ n, slotD ops.toList (fun _ => false) V f t n = (f.T.get t).getD (.tup []) := by
          intro n
          induction n with
          | zero => rfl
          | succ n ih => unfold slotD; simp [ih]
        exact (this _).symm
      defers := rfl }
    have main : ∀ (fuel : Nat) (listed : Array Bool) (D : Nat → Bool) (R' : Ren) (κ : Nat) (a' : Act) (w' : World), listed.size = ops.size → (∀ i, i < ops.size → listed.getD i false = D i) → (∀ i, ops.size ≤ i → D i = false) → todoN D ops.size = fuel →
        InvR E call lo s.nx ops.toList bs F S M V R w a D R' κ a' w' → wpAny P .any ops Q fuel listed a' w' := by
      intro fuel
      induction fuel with
      | zero =>
        intro listed D R' κ a' w' hsz hD hDout htodo I
        have hall := todoN_zero htodo
        have hnl : ops.toList.length = ops.size := by simp
        refine ⟨?_, ?_⟩
        · unfold Region.ready
          rw [List.filter_eq_nil_iff]
          intro i hi
          have hi := List.mem_range.1 hi
          have := hD i hi
          rw [hall i hi] at this
          have hg : listed.getD i true = true := by
            simp only [Array.getD_eq_getD_getElem?] at this ⊢
            cases hl : listed[i]? with
            | none => rw [hl] at this; simp at this
            | some b => rw [hl] at this; simpa using this
          simp [hg]
        · have hκl := I.good C I.kap1
          have hnw : ∀ t, κ ≤ t → t < ops.toList.length → ¬ Wild E call lo ops.toList bs F S M V t := by
            intro t t1 t2 hW
            have := I.kap2 t hW (hall t (by omega))
            omega
          have hbd := I.bd κ I.kap1
          obtain ⟨c1, c2, c3⟩ := C.chain (fun n o h => (hbd n o h).1) hκl (Nat.le_refl _) hnw
          have hmono := (C.mono (i := κ) (j := ops.toList.length) hκl (Nat.le_refl _)).1
          rw [← h5] at hQ
          have hLD : ∀ n o, (S ops.toList.length).get n = some o → LD ops.toList.length S D κ n o ∧ n < (S ops.toList.length).nx ∧ OBnd (S ops.toList.length).nx o := by
            intro n o h
            by_cases hn : n < (S κ).nx
            · have h' := h
              rw [c1 n hn] at h
              exact ⟨.inl ⟨hn, h⟩, c2 n o h', (hbd n o h).2.mono hmono⟩
            · obtain ⟨j, j1, j2, j3, j4, j5, j6⟩ := c3 n o h (by omega)
              have hDj := hall j (by omega)
              have hm2 := (C.mono (i := j + 1) (j := ops.toList.length) (by omega) (Nat.le_refl _)).1
              exact ⟨.inr ⟨by omega, j, j2, hDj, j1, j3, j4, j5, j6⟩, c2 n o h, (I.xb j hDj (hnw j j1 j2) j6 n o j3 j4 j5).1.mono hm2⟩
          have hslot : ∀ t, slotD ops.toList D V (F 0) t ops.toList.length = ((F ops.toList.length).T.get t).getD (.tup []) := by
            intro t
            rw [(C.frames (Nat.le_refl _)).2.2.2 t]
            exact slotD_congr fun j hj _ => hall j (by omega)
          obtain ⟨f1, f2, f3, f4⟩ := C.frames (i := ops.toList.length) (Nat.le_refl _)
          have hloκ : lo ≤ (S κ).nx := Nat.le_trans hlo (C.nx_n0 hκl)
          refine hQ R' a' w' ⟨fun n o h => I.live n o (hLD n o h).1, fun n m o o' h1 h2 he => I.inj n m o o' (hLD n o h1).1 (hLD m o' h2).1 he, fun n o h => (hLD n o h).2, C.nx_lim (Nat.le_refl _)⟩ ?_ ?_ ?_ I.defers
          · refine ⟨fun n hn => I.blk n hn, fun n hn => I.cap n hn, I.opq, C.nx_n0 (Nat.le_refl _), fun n hn => ?_, I.os, I.tape, I.output, I.size, fun b hb hnb => I.frame b hb fun n o g1 g2 => hnb n o g1 (by rw [h2] at g2; exact g2), fun n o g1 g2 g3 => ?_⟩
            · have hkeep := fun o => I.keep n o hn
              rw [h2] at hkeep
              have hgl : (S ops.toList.length).get n = (S κ).get n := c1 n (by omega)
              cases hg : (S ops.toList.length).get n with
              | some o =>
                exact ((hkeep o).1 (hLD n o hg).1).symm
              | none =>
                cases hg2 : s.get n with
                | none => rfl
                | some o =>
                  exfalso
                  rcases (hkeep o).2 hg2 with ⟨_, h⟩ | ⟨h, _⟩
                  · rw [← hgl, hg] at h; simp at h
                  · omega
            · obtain ⟨m, o', k1, k2, k3⟩ := I.back n o g1 (hLD n o g2).1 g3
              rw [h2] at k2
              exact ⟨m, o', k1, k2, k3⟩
          · rw [← h4]
            refine ⟨by rw [I.tsz, f1], fun t ht => ?_, fun t ht => f3 t (by rw [← f1]; exact ht), fun t v hv => ?_, fun x hx => ?_, by rw [f1]; exact C.f0⟩
            · rw [f1] at ht
              rw [I.tmp t ht, hslot t]
            · have e := hslot t
              rw [hv] at e
              have e : slotD ops.toList D V (F 0) t ops.toList.length = v := e
              rcases slot_from (all := ops.toList) (D := D) (V := V) (f := F 0) (t := t) ops.toList.length with h | ⟨j, g1, g2, g3, g4⟩
              · rw [h] at e
                cases hg0 : (F 0).T.get t with
                | none => rw [hg0] at e; subst e; simp [Bnd, BndL]
                | some u => rw [hg0] at e; subst e; exact (hf0 t _ hg0).mono (C.nx_n0 (Nat.le_refl _))
              · rw [g4] at e
                subst e
                exact (I.vb j g2).1.mono (C.mono (i := j + 1) (j := ops.toList.length) g1 (Nat.le_refl _)).1
            · rw [f2] at hx
              have := hglob x hx
              have hn := C.nx_n0 (j := ops.toList.length) (Nat.le_refl _)
              exact ⟨by rw [I.blk x (.inl this.2)]; exact this.1, by omega⟩
          · rw [← h4, f2]; exact hG0
      | succ fuel ih =>
        intro listed D R' κ a' w' hsz hD hDout htodo I
        have hready : ∀ i, i ∈ Region.ready .any ops listed ↔ i < ops.size ∧ D i = false ∧ ∀ o, ops[i]? = some o → ∀ e ∈ o.after.toList, Region.binds .any e = true → D e.on = true := by
          intro i
          unfold Region.ready
          rw [List.mem_filter, List.mem_range]
          constructor
          · rintro ⟨hi, hc⟩
            simp only [Bool.and_eq_true, Bool.not_eq_true'] at hc
            obtain ⟨c1, c2⟩ := hc
            have hDi : D i = false := by
              rw [← hD i hi]
              simp only [Array.getD_eq_getD_getElem?] at c1 ⊢
              cases hl : listed[i]? with
              | none => rfl
              | some b => rw [hl] at c1; simpa using c1
            refine ⟨hi, hDi, fun o ho e he hb => ?_⟩
            rw [ho] at c2
            simp only [Option.map_some, Option.getD_some] at c2
            rw [← Array.all_toList] at c2
            have := List.all_eq_true.1 c2 e he
            rw [hb] at this
            simp only [Bool.not_true, Bool.false_or] at this
            by_cases hlt : e.on < ops.size
            · rw [← hD e.on hlt]; exact this
            · have hnone : listed[e.on]? = none := Array.getElem?_eq_none_iff.2 (by omega)
              simp only [Array.getD_eq_getD_getElem?, hnone] at this
              simp at this
          · rintro ⟨hi, hDi, hc⟩
            refine ⟨hi, ?_⟩
            have hl := hD i hi
            rw [hDi] at hl
            have hs : i < listed.size := by omega
            have hg : listed.getD i true = false := by
              simp only [Array.getD_eq_getD_getElem?, Array.getElem?_eq_getElem hs] at hl ⊢
              simpa using hl
            rw [hg, Array.getElem?_eq_getElem hi]
            simp only [Bool.not_false, Option.map_some, Option.getD_some, Bool.true_and]
            rw [← Array.all_toList]
            refine List.all_eq_true.2 fun e he => ?_
            cases hb : Region.binds .any e with
            | false => rfl
            | true =>
              have hDe := hc ops[i] (Array.getElem?_eq_getElem hi) e he hb
              have hlt : e.on < ops.size := by
                rcases Nat.lt_or_ge e.on ops.size with h | h
                · exact h
                · rw [hDout e.on h] at hDe; simp at hDe
              rw [hD e.on hlt, hDe]; rfl
        refine ⟨fun hnil => ?_, fun i hi => ?_⟩
        · exfalso
          obtain ⟨i, i1, i2, i3⟩ := todoN_pos (D := D) (n := ops.size) (by omega)
          have : i ∈ Region.ready .any ops listed := (hready i).2 ⟨i1, i2, fun o ho e he hb => by
            have hl : i < ops.toList.length := by simpa using i1
            obtain ⟨o', b', ho', hb'⟩ := C.at hl
            have : o' = o := by
              have : ops[i]? = some o' := by simpa using ho'
              rw [ho] at this; exact (Option.some.inj this).symm
            subst this
            exact i3 e.on ((hbef.mask i o' b' ho' hb').2 e he hb)⟩
          rw [hnil] at this
          simp at this
        · obtain ⟨i1, i2, i3⟩ := (hready i).1 hi
          have hl : i < ops.toList.length := by simpa using i1
          obtain ⟨o, b, ho, hb⟩ := C.at hl
          have hopo : ops[i]? = some o := by simpa using ho
          have hpre : ∀ k, Nat.testBit b k = true → D k = true := by
            intro k hk
            obtain ⟨e, e1, e2, e3, e4⟩ := (hbef.mask i o b ho hb).1 k hk
            have hDe := i3 o hopo e e1 e2
            rcases e4 with rfl | ⟨b', q1, q2⟩
            · exact hDe
            · exact (I.down e.on hDe).2 b' k q1 q2
          refine I.doIt (i := i) C hE hcall rfl ho hb i2 hpre hf0 hglob hG0 _ fun R2 κ2 a2 w2 I2 => ?_
          refine ih (listed.setIfInBounds i true) (also i D) R2 κ2 a2 w2 (by simpa using hsz) (fun j hj => ?_) (fun j hj => ?_) ?_ I2
          · by_cases e : j = i
            · subst e
              rw [also_self]
              simp [Array.getD_eq_getD_getElem?, hsz, i1]
            · rw [also_ne e, ← hD j hj]
              simp [Array.getD_eq_getD_getElem?, Array.getElem?_setIfInBounds_ne (Ne.symm e)]
          · have e : j ≠ i := by omega
            rw [also_ne e]; exact hDout j hj
          · have := todoN_also (D := D) (i := i) (n := ops.size) i1 i2
            omega
    refine main ops.size _ (fun _ => false) R 0 a w (by simp) (fun i hi => ?_) (fun _ _ => rfl) ?_ I0
    · simp [Array.getD_eq_getD_getElem?, hi]
    · have : ∀ n, todoN (fun _ => false) n = n := by
        intro n
        induction n with
        | zero => rfl
        | succ n ih => unfold todoN; rw [ih]; rfl
      exact this _
  · simp at h

include hE hcall in
theorem drawX_ok {ops : Array Oper} {lo : Nat} {Q : Exit → Act → World → Prop} {f f' : Fr} {s s' : St} {a : Act} {w : World} {R : Ren} (h : drawX ops.toList E call lo f s = some (f', s')) (hR : Rel R s w) (hF : FrOk R s.nx f a) (hG : f.G = E.G) (hlo : lo ≤ s.nx)
    (hQ : ∀ R' a' w', Rel R' s' w' → Mv lo R s w R' s' w' → FrOk R' s'.nx f' a' → f'.G = E.G → a'.defers = a.defers → Q .normal a' w') :
    wpAny P .any ops Q ops.size (Array.replicate ops.size false) a w := by
  unfold drawX sinkK at h
  split at h
  · exact drawY_ok hE hcall h hR hF hG hlo hQ
  · split at h
    · simp at h
    · rename_i bs _
      rw [natsK_eq] at h
      generalize sinkN ops.toList bs 0 [] = q at h
      split at h
      · rename_i hq
        rw [opersK_eq] at h
        unfold orderOk at hq
        simp only [Bool.and_eq_true] at hq
        obtain ⟨hlen, hall⟩ := hq
        have hlen : q.length = ops.size := by simpa using Nat.eq_of_beq_eq_true hlen
        have hsz : ops.toList.length = ops.size := by simp
        have hc : ∀ i, i < ops.size → posOf i q 0 < ops.size ∧ ∃ j, q[i]? = some j ∧ j < ops.size ∧ posOf j q 0 = i := by
          intro i hi
          have := List.all_eq_true.1 hall i (List.mem_range.2 (by omega))
          simp only [Bool.and_eq_true] at this
          refine ⟨by have := Nat.le_of_ble_eq_true this.1; omega, ?_⟩
          have h2 := this.2
          split at h2
          · rename_i j hj
            simp only [Bool.and_eq_true] at h2
            exact ⟨j, hj, by have := Nat.le_of_ble_eq_true h2.1; omega, Nat.eq_of_beq_eq_true h2.2⟩
          · simp at h2
        let L : List Oper := q.filterMap fun n => (ops.toList[n]?).map (mapO fun i => posOf i q 0)
        have hL : ∀ (l : List Nat), (∀ j ∈ l, j < ops.size) → (l.filterMap fun n => (ops.toList[n]?).map (mapO fun i => posOf i q 0)) = l.map fun n => mapO (fun i => posOf i q 0) (ops.getD n default) := by
          intro l hl
          induction l with
          | nil => rfl
          | cons j l ih =>
            have hj := hl j (by simp)
            rw [List.filterMap_cons, List.map_cons, ih fun k hk => hl k (List.mem_cons_of_mem _ hk)]
            simp [Array.getElem?_eq_getElem hj, Array.getD_eq_getD_getElem?]
        have hmem : ∀ j ∈ q, j < ops.size := by
          intro j hj
          obtain ⟨i, hi, he⟩ := List.getElem_of_mem hj
          obtain ⟨_, j', h1, h2, _⟩ := hc i (by omega)
          rw [List.getElem?_eq_getElem hi, he] at h1
          obtain rfl := Option.some.inj h1
          exact h2
        have hLq := hL q hmem
        rw [hLq] at h
        let ops' : Array Oper := ⟨q.map fun n => mapO (fun i => posOf i q 0) (ops.getD n default)⟩
        have hs' : ops'.size = ops.size := by simp [ops', hlen]
        have main := drawY_ok (ops := ops') hE hcall h hR hF hG hlo hQ
        rw [hs'] at main
        refine wpAny_perm (π := fun p => q.getD p 0) (pos := fun i => posOf i q 0) (n := ops.size) rfl hs' (fun p hp => ?_) (fun i hi => ?_) (fun i hi => ?_) (fun p hp => ?_) ops.size _ _ a w (by simp) (by simp) (fun p hp => ?_) main
        · obtain ⟨_, j, h1, h2, h3⟩ := hc p hp
          have e : q.getD p 0 = j := by simp [List.getD, h1]
          rw [e]
          exact ⟨h2, h3⟩
        · have h1 := (hc i hi).1
          have h2 := (posOf_spec i q 0).2.2.1 (by omega)
          refine ⟨h1, ?_⟩
          simp only [Nat.sub_zero] at h2
          simp [List.getD, h2]
        · have h1 := posOf_spec i q 0
          rcases Nat.lt_or_ge (posOf i q 0) ops.size with h | h
          · have h2 := h1.2.2.1 (by omega)
            have := hmem i (List.mem_of_getElem? h2)
            omega
          · exact h
        · obtain ⟨_, j, h1, h2, h3⟩ := hc p hp
          have e : q.getD p 0 = j := by simp [List.getD, h1]
          refine ⟨ops.getD j default, ?_, ?_⟩
          · rw [e]; simp [Array.getD_eq_getD_getElem?, Array.getElem?_eq_getElem h2]
          · simp [ops', h1]
        · have h1 : q.getD p 0 < ops.size := by
            obtain ⟨_, j, h1, h2, h3⟩ := hc p hp
            have e : q.getD p 0 = j := by simp [List.getD, h1]
            omega
          have hrep : ∀ j, j < ops.size → (Array.replicate ops.size false).getD j false = false := fun j hj => by simp [Array.getD_eq_getD_getElem?, hj]
          rw [hrep p hp]
          exact (hrep _ h1).symm
      · simp at h

end
end Go.Vx
