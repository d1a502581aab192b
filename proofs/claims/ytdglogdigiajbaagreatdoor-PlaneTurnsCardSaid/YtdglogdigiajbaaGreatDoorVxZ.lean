/-
  A run told in advance, part twenty-six: variables that are laid, as the heap that a run begins with; calls whose outcome has been told before. No condition.
-/
import Derived.Test.YtdglogdigiajbaaGreatDoorVxY
set_option linter.unusedSectionVars false
set_option linter.unusedSimpArgs false
set_option linter.unusedVariables false
namespace Go.Vx
open Go.RowKit

/-! ### Values without names -/

def fkEq : FloatKind → FloatKind → Bool
  | .f64, .f64 => true
  | .f32, .f32 => true
  | _, _ => false

mutual
noncomputable def avEq : AV → AV → Bool
  | .bool a, .bool b => eqB a b
  | .int k m, .int k' n => kindEq k k' && eqI m n
  | .flt k m, .flt k' n => fkEq k k' && Nat.beq m n
  | .cpx k m m', .cpx k' n n' => fkEq k k' && Nat.beq m n && Nat.beq m' n'
  | .str a, .str b => eqS a b
  | .nilp, .nilp => true
  | .nils, .nils => true
  | .nilm, .nilm => true
  | .nilf, .nilf => true
  | .nili, .nili => true
  | .ifc t v, .ifc u w => Nat.beq t u && avEq v w
  | .agg l, .agg m => avEqL l m
  | .tup l, .tup m => avEqL l m
  | .opq i, .opq j => Nat.beq i j
  | _, _ => false
noncomputable def avEqL : List AV → List AV → Bool
  | [], [] => true
  | a :: l, b :: m => avEq a b && avEqL l m
  | _, _ => false
end

theorem eqI_of {m n : Int} (h : eqI m n = true) : m = n := by
  unfold eqI at h
  split at h
  · rw [Nat.eq_of_beq_eq_true h]
  · rw [Nat.eq_of_beq_eq_true h]
  · simp at h

theorem eqS_of : ∀ {a b : List UInt8}, eqS a b = true → a = b
  | [], [], _ => rfl
  | [], _ :: _, h => by simp [eqS] at h
  | _ :: _, [], h => by simp [eqS] at h
  | a :: x, b :: y, h => by
    unfold eqS at h
    split at h
    · rename_i e
      have : a = b := UInt8.toNat_inj.1 (Nat.eq_of_beq_eq_true e)
      rw [this, eqS_of h]
    · simp at h

theorem eqB_of {a b : Bool} (h : eqB a b = true) : a = b := by cases a <;> cases b <;> simp_all [eqB]
theorem fkEq_of {a b : FloatKind} (h : fkEq a b = true) : a = b := by cases a <;> cases b <;> simp_all [fkEq]

mutual
theorem avEq_ok : ∀ {a b : AV}, avEq a b = true → a = b ∧ Bnd 0 a
  | a, b, h => by
    unfold avEq at h
    split at h
    · rw [eqB_of h]; simp [Bnd]
    · simp only [Bool.and_eq_true] at h; rw [kindEq_eq.1 h.1, eqI_of h.2]; simp [Bnd]
    · simp only [Bool.and_eq_true] at h; rw [fkEq_of h.1, Nat.eq_of_beq_eq_true h.2]; simp [Bnd]
    · simp only [Bool.and_eq_true] at h; rw [fkEq_of h.1.1, Nat.eq_of_beq_eq_true h.1.2, Nat.eq_of_beq_eq_true h.2]; simp [Bnd]
    · rw [eqS_of h]; simp [Bnd]
    · simp [Bnd]
    · simp [Bnd]
    · simp [Bnd]
    · simp [Bnd]
    · simp [Bnd]
    · rename_i t v u w
      simp only [Bool.and_eq_true] at h
      have := avEq_ok h.2
      rw [Nat.eq_of_beq_eq_true h.1, this.1]
      refine ⟨rfl, ?_⟩
      simp only [Bnd]
      rw [← this.1]; exact this.2
    · rename_i l m
      have := avEqL_ok h
      rw [this.1]
      refine ⟨rfl, ?_⟩
      simp only [Bnd]
      rw [← this.1]; exact this.2
    · rename_i l m
      have := avEqL_ok h
      rw [this.1]
      refine ⟨rfl, ?_⟩
      simp only [Bnd]
      rw [← this.1]; exact this.2
    · rw [Nat.eq_of_beq_eq_true h]; simp [Bnd]
    · simp at h
theorem avEqL_ok : ∀ {a b : List AV}, avEqL a b = true → a = b ∧ BndL 0 a
  | [], [], _ => ⟨rfl, by simp [BndL]⟩
  | [], _ :: _, h => by simp [avEqL] at h
  | _ :: _, [], h => by simp [avEqL] at h
  | a :: l, b :: m, h => by
    unfold avEqL at h
    simp only [Bool.and_eq_true] at h
    have h1 := avEq_ok h.1
    have h2 := avEqL_ok h.2
    rw [h1.1, h2.1]
    refine ⟨rfl, ?_⟩
    simp only [BndL]
    rw [← h1.1, ← h2.1]
    exact ⟨h1.2, h2.2⟩
end

/-! ### Variables that are laid -/

/-- A variable, its cells, and the type of its row. -/
structure Tab where
  g : Nat
  l : List AV
  e : TypeId

noncomputable def Tab.o (t : Tab) : AO := .row t.l t.e .ro

/-- The world holds the variables. -/
def Laid (R : Ren) (ts : List Tab) (w : World) : Prop := ∀ t ∈ ts, ∃ x, w.heap[t.g]? = some x ∧ ORel R t.o x

noncomputable def startH (ts : List Tab) : Tr AO := ts.foldr (fun t H => Tr.set 21 H t.g (some t.o)) .e

def tabsOk (G : Nat) (ts : List Tab) : Bool := Nat.ble G lim && ts.all fun t => Nat.ble (Nat.succ t.g) G && t.l.all fun v => match v with
  | .int _ _ => true
  | .opq _ => true
  | _ => false

theorem startH_get {G : Nat} : ∀ {ts : List Tab}, tabsOk G ts = true → ∀ n o, Tr.get (startH ts) n = some o → ∃ t ∈ ts, t.g = n ∧ t.o = o
  | [], _, n, o, h => by
    have h : Tr.get (.e : Tr AO) n = some o := h
    rw [Tr.get_e] at h; simp at h
  | t :: ts, hok, n, o, h => by
    have h : Tr.get (Tr.set 21 (startH ts) t.g (some t.o)) n = some o := h
    unfold tabsOk at hok
    simp only [List.all_cons, Bool.and_eq_true] at hok
    have hg := Nat.le_of_ble_eq_true hok.2.1.1
    have hl := Nat.le_of_ble_eq_true hok.1
    rw [Tr.get_set 21 _ _ _ _ (by unfold lim at hl; omega)] at h
    split at h
    · rename_i e
      exact ⟨t, by simp, e.symm, Option.some.inj h⟩
    · obtain ⟨t', h1, h2⟩ := startH_get (G := G) (ts := ts) (by unfold tabsOk; simp only [Bool.and_eq_true]; exact ⟨hok.1, hok.2.2⟩) n o h
      exact ⟨t', List.mem_cons_of_mem _ h1, h2⟩

theorem rel_laid {R : Ren} {G : Nat} {ts : List Tab} {w : World} (hok : tabsOk G ts = true) (hL : Laid R ts w) (hid : ∀ g, g < G → R.blk g = g) : Rel R { H := startH ts, nx := G } w := by
  have hin : ∀ t ∈ ts, t.g < G ∧ OBnd G t.o := by
    intro t ht
    unfold tabsOk at hok
    simp only [Bool.and_eq_true] at hok
    have := List.all_eq_true.1 hok.2 t ht
    simp only [Bool.and_eq_true] at this
    refine ⟨Nat.le_of_ble_eq_true this.1, ?_⟩
    simp only [Tab.o, OBnd]
    refine BndL_iff.2 fun v hv => ?_
    have h2 := List.all_eq_true.1 this.2 v hv
    split at h2 <;> simp_all [Bnd]
  have hl : G ≤ lim := by
    unfold tabsOk at hok
    simp only [Bool.and_eq_true] at hok
    exact Nat.le_of_ble_eq_true hok.1
  have get : ∀ n o, St.get { H := startH ts, nx := G } n = some o → ∃ t ∈ ts, t.g = n ∧ t.o = o := fun n o h => startH_get hok n o h
  refine ⟨fun n o h => ?_, fun n m o o' h1 h2 he => ?_, fun n o h => ?_, hl⟩
  · obtain ⟨t, h1, rfl, rfl⟩ := get n o h
    rw [hid _ (hin t h1).1]
    exact hL t h1
  · obtain ⟨t, g1, rfl, rfl⟩ := get n o h1
    obtain ⟨t', g2, rfl, rfl⟩ := get m o' h2
    rw [hid _ (hin t g1).1, hid _ (hin t' g2).1] at he
    exact he
  · obtain ⟨t, h1, rfl, rfl⟩ := get n o h
    exact hin t h1

/-- What a call comes to in a world that holds the variables: told, and nothing that was there is turned. -/
def Tells (P : Program) (G : Nat) (ts : List Tab) (f : FuncId) (args : List AV) (v : AV) : Prop :=
  ∀ R w, Laid R ts w → (∀ g, g < G → R.blk g = g) → Calls P f ⟨concL R args⟩ w fun e w' => e = .returned (conc R v) ∧ Below w.heap.size w w'

noncomputable def comesTo (v : AV) : Option (AV × St) → Bool
  | some (u, _) => avEq u v
  | none => false

theorem tells {E : Env} {P : Program} (hE : E.Ok P) (d lf : Nat) {G : Nat} (hEG : E.G = G) {ts : List Tab} (hok : tabsOk G ts = true) {f : FuncId} {fn : Func} {c : Code} {args : List AV} {v : AV} (hf : E.fn f = some fn) (hb : fn.body = some c)
    (h : comesTo v (callX (d + 1) E lf G f args { H := startH ts, nx := G }) = true) (hargs : BndL 0 args) : Tells P G ts f args v := by
  intro R w hL hid
  unfold comesTo at h
  split at h
  · rename_i u s' hs
    obtain ⟨rfl, hu⟩ := avEq_ok h
    refine (run_told hE d lf G hf hb hs (rel_laid hok hL hid) (hargs.mono (Nat.zero_le _)) (Nat.le_refl _) (fun g hg => ⟨hid g (by omega), by rw [← hEG]; exact hg⟩)).mono fun e w' hh => ?_
    obtain ⟨R', rfl, h1, h2, h3⟩ := hh
    refine ⟨by rw [conc_agree (h2.agree.mono (Nat.zero_le _)) hu], h2.os, h2.tape, h2.output, h2.size, fun k hk => h2.frame k hk fun n o hn hget => ?_⟩
    obtain ⟨t, g1, rfl, _⟩ := startH_get hok n o hget
    unfold tabsOk at hok
    simp only [Bool.and_eq_true] at hok
    have := List.all_eq_true.1 hok.2 t g1
    simp only [Bool.and_eq_true] at this
    have := Nat.le_of_ble_eq_true this.1
    omega
  · simp at h

/-! ### Calls told before -/

noncomputable def rowEq (t : Tab) : Option AO → Bool
  | some (.row l e .ro) => Nat.beq e t.e && avEqL l t.l
  | _ => false

noncomputable def memoFind (args : List AV) : List (List AV × AV) → Option AV
  | [] => none
  | p :: l => match avEqL p.1 args with
    | true => some p.2
    | false => memoFind args l

noncomputable def memoX (G : Nat) (ts : List Tab) (l : List (List AV × AV)) (args : List AV) (s : St) : Option (AV × St) := match ts.all fun t => rowEq t (s.get t.g) with
  | true => ret1 (memoFind args l) s
  | false => none

theorem memoFind_ok {args : List AV} {v : AV} : ∀ {l : List (List AV × AV)}, memoFind args l = some v → (args, v) ∈ l
  | [], h => by simp [memoFind] at h
  | p :: l, h => by
    unfold memoFind at h
    split at h
    · rename_i e
      obtain ⟨rfl, _⟩ := avEqL_ok e
      obtain rfl := Option.some.inj h
      simp
    · exact List.mem_cons_of_mem _ (memoFind_ok h)

/-- A heap that stays as it was below a world's end fits on. -/
theorem Rel.below {lo : Nat} {R : Ren} {s : St} {w w' : World} (h : Rel R s w) (hb : Below w.heap.size w w') : Rel R s w' ∧ Mv lo R s w R s w' := by
  obtain ⟨h1, h2, h3, h4, h5⟩ := hb
  refine ⟨⟨fun n o hn => ?_, h.inj, h.bnd, h.lim⟩, ⟨fun _ _ => rfl, fun _ _ => rfl, rfl, Nat.le_refl _, fun _ _ => rfl, h1, h2, h3, h4, fun b hb _ => h5 b hb, fun n o g1 g2 _ => ⟨n, o, g1, g2, rfl⟩⟩⟩
  obtain ⟨x, hx, hr⟩ := h.live n o hn
  exact ⟨x, by rw [h5 _ (h.lt hn)]; exact hx, hr⟩

theorem memo_ok {P : Program} {G : Nat} {ts : List Tab} {f : FuncId} {l : List (List AV × AV)} (hcall : ∀ args w, (callFunc f args).run P w = .ok (.enter f args) w) (hts : ∀ t ∈ ts, t.g < G) (hl : ∀ p ∈ l, Tells P G ts f p.1 p.2 ∧ Bnd 0 p.2) :
    SumOk P G f (memoX G ts l) := by
  refine ⟨hcall, fun lo args s v s' R w h hR hargs hlo hglob => ?_⟩
  unfold memoX at h
  split at h
  · rename_i hrows
    obtain ⟨h1, rfl⟩ := ret1_some h
    obtain ⟨t1, t2⟩ := hl _ (memoFind_ok h1)
    have hL : Laid R ts w := by
      intro t ht
      have h2 := List.all_eq_true.1 hrows t ht
      unfold rowEq at h2
      split at h2
      · rename_i l' e' hg
        simp only [Bool.and_eq_true] at h2
        obtain rfl := Nat.eq_of_beq_eq_true h2.1
        obtain ⟨rfl, _⟩ := avEqL_ok h2.2
        have := hR.live _ _ hg
        rw [(hglob t.g (hts t ht)).1] at this
        exact this
      · simp at h2
    refine (t1 R w hL fun g hg => (hglob g hg).1).mono fun e w' hh => ?_
    obtain ⟨rfl, hb⟩ := hh
    have := hR.below (lo := lo) hb
    exact ⟨R, rfl, this.1, this.2, t2.mono (Nat.zero_le _)⟩
  · simp at h

end Go.Vx
