/-
  A run told in advance, part twenty-five: the frame's last step, and values that are cells. No condition.
-/
import Derived.Test.YtjmebclcmpfdmaaGreatDoorVxX
import Derived.ChangeSame
import Derived.WideShapes
import Derived.OpenShut
import Derived.RowKit
import Derived.LaidLaws
import Derived.FnData
set_option linter.unusedSectionVars false
set_option linter.unusedSimpArgs false
set_option linter.unusedVariables false
namespace Go.Vx
open Go.WideShapes Go.ChangeShapes Go.RowKit
section
variable {H : Type} {enc : TypeId × Value → H} {P : Program}
theorem post_of_below {f : Func} {s : ChangeSpec} {apart fresh handsOn again : Bool} {W W' : World} {args : Array Value} {v : Value} {ds gs : List (DataW H)} {before pa pv : List MemPlace}
    (hW : DataW.Whole enc P f.params.toList s.vars apart W args.toList ds gs before)
    (hres : ∀ (b : Nat) (sp : Nat → Bool) (hd : Bool), DataW.TrodAll enc P W' b sp hd f.resultTypes.toList (v.resultList f.resultTypes.size) (s.fn H (ds ++ gs)).results [])
    (hargs : ∀ sp : Nat → Bool, (∀ p ∈ before, sp p.block = true) → DataW.TrodAll enc P W' 0 sp true f.params.toList args.toList (s.fn H (ds ++ gs)).args pa)
    (hvars : ∀ sp : Nat → Bool, (∀ p ∈ before, sp p.block = true) → DataW.TrodVars enc P W' sp s.vars (s.fn H (ds ++ gs)).vars pv)
    (hps : before = pa ++ pv) (hb : Below W.heap.size W W')
    (hok : ∀ (j : Nat) (t : TypeId) (r : Value), f.resultTypes[j]? = some t → (v.resultList f.resultTypes.size)[j]? = some r → Value.okWide P W' .any 0 t r) :
    s.post enc P f apart fresh handsOn again W args v W' := by
  have hlt : ∀ p ∈ before, p.block < W.heap.size := fun p hp => hW.lt p hp
  have hold : ∀ p ∈ before, (fun b => decide (b < W.heap.size)) p.block = true := fun p hp => by simpa using hlt p hp
  refine ⟨ds, gs, before, [], pa, pv, hW, hres _ _ _, hargs _ hold, hvars _ hold, World.keptBut_mono (fun p hp => ⟨hp, ?_⟩) (hb.frame (· ∈ before)), fun _ => ?_⟩
  · rw [hps, List.mem_append] at hp
    exact Or.inr hp
  · obtain ⟨_, _, _, _, _, hz, hn⟩ := hW
    refine ⟨hok, _, _, ([] ++ pa) ++ pv, ⟨[] ++ pa, pv, trodAll_append (hargs _ (fun _ _ => rfl)) (hres _ _ _), hvars _ (fun _ _ => rfl), rfl, ?_, ?_⟩, ?_⟩
    · intro b off hp
      have hin : MemPlace.cell b off ∈ before := by rw [hps]; simpa using hp
      rw [hb.frozen (hlt _ hin)]
      exact hz b off hin
    · intro ha
      have := hn ha
      rw [hps] at this
      simpa using this
    · intro p hp _
      rw [hps]
      simpa using hp
end

theorem five {α : Type} {l : List α} (h : l.length = 5) : ∃ a b c d e, l = [a, b, c, d, e] := by
  match l, h with
  | [a, b, c, d, e], _ => exact ⟨a, b, c, d, e, rfl⟩

theorem okWide_cell {P : Program} {w : World} {r : Reach} {base : Nat} {u : TypeId} {v : Value} (hb : P.underlying u ≠ some .bool) (h : Cell.okWide P w r base u v) : isCell v := by
  cases v <;> try trivial
  all_goals
    simp only [Cell.okWide, Cell.ok] at h
    cases hu : P.underlying u with
    | none => rw [hu] at h; simp at h
    | some d => rw [hu] at h; cases d <;> simp_all

end Go.Vx
set_option linter.unusedSectionVars false
set_option linter.unusedSimpArgs false
set_option linter.unusedVariables false
namespace Go.Vx
open Go.RowKit

/-! ### Values without names -/

def fkEq : FloatKind → FloatKind → Bool
  | .f64, .f64 => true
  | .f32, .f32 => true
  | _, _ => false

mutual
noncomputable def avEq : AV → AV → Bool
  | .bool a, .bool b => eqB a b
  | .int k m, .int k' n => kindEq k k' && eqI m n
  | .flt k m, .flt k' n => fkEq k k' && Nat.beq m n
  | .cpx k m m', .cpx k' n n' => fkEq k k' && Nat.beq m n && Nat.beq m' n'
  | .str a, .str b => eqS a b
  | .nilp, .nilp => true
  | .nils, .nils => true
  | .nilm, .nilm => true
  | .nilf, .nilf => true
  | .nili, .nili => true
  | .ifc t v, .ifc u w => Nat.beq t u && avEq v w
  | .agg l, .agg m => avEqL l m
  | .tup l, .tup m => avEqL l m
  | .opq i, .opq j => Nat.beq i j
  | _, _ => false
noncomputable def avEqL : List AV → List AV → Bool
  | [], [] => true
  | a :: l, b :: m => avEq a b && avEqL l m
  | _, _ => false
end

theorem eqI_of {m n : Int} (h : eqI m n = true) : m = n := by
  unfold eqI at h
  split at h
  · rw [Nat.eq_of_beq_eq_true h]
  · rw [Nat.eq_of_beq_eq_true h]
  · simp at h

theorem eqS_of : ∀ {a b : List UInt8}, eqS a b = true → a = b
  | [], [], _ => rfl
  | [], _ :: _, h => by simp [eqS] at h
  | _ :: _, [], h => by simp [eqS] at h
  | a :: x, b :: y, h => by
    unfold eqS at h
    split at h
    · rename_i e
      have : a = b := UInt8.toNat_inj.1 (Nat.eq_of_beq_eq_true e)
      rw [this, eqS_of h]
    · simp at h

theorem eqB_of {a b : Bool} (h : eqB a b = true) : a = b := by cases a <;> cases b <;> simp_all [eqB]
theorem fkEq_of {a b : FloatKind} (h : fkEq a b = true) : a = b := by cases a <;> cases b <;> simp_all [fkEq]

mutual
theorem avEq_ok : ∀ {a b : AV}, avEq a b = true → a = b ∧ Bnd 0 a
  | a, b, h => by
    unfold avEq at h
    split at h
    · rw [eqB_of h]; simp [Bnd]
    · simp only [Bool.and_eq_true] at h; rw [kindEq_eq.1 h.1, eqI_of h.2]; simp [Bnd]
    · simp only [Bool.and_eq_true] at h; rw [fkEq_of h.1, Nat.eq_of_beq_eq_true h.2]; simp [Bnd]
    · simp only [Bool.and_eq_true] at h; rw [fkEq_of h.1.1, Nat.eq_of_beq_eq_true h.1.2, Nat.eq_of_beq_eq_true h.2]; simp [Bnd]
    · rw [eqS_of h]; simp [Bnd]
    · simp [Bnd]
    · simp [Bnd]
    · simp [Bnd]
    · simp [Bnd]
    · simp [Bnd]
    · rename_i t v u w
      simp only [Bool.and_eq_true] at h
      have := avEq_ok h.2
      rw [Nat.eq_of_beq_eq_true h.1, this.1]
      refine ⟨rfl, ?_⟩
      simp only [Bnd]
      rw [← this.1]; exact this.2
    · rename_i l m
      have := avEqL_ok h
      rw [this.1]
      refine ⟨rfl, ?_⟩
      simp only [Bnd]
      rw [← this.1]; exact this.2
    · rename_i l m
      have := avEqL_ok h
      rw [this.1]
      refine ⟨rfl, ?_⟩
      simp only [Bnd]
      rw [← this.1]; exact this.2
    · rw [Nat.eq_of_beq_eq_true h]; simp [Bnd]
    · simp at h
theorem avEqL_ok : ∀ {a b : List AV}, avEqL a b = true → a = b ∧ BndL 0 a
  | [], [], _ => ⟨rfl, by simp [BndL]⟩
  | [], _ :: _, h => by simp [avEqL] at h
  | _ :: _, [], h => by simp [avEqL] at h
  | a :: l, b :: m, h => by
    unfold avEqL at h
    simp only [Bool.and_eq_true] at h
    have h1 := avEq_ok h.1
    have h2 := avEqL_ok h.2
    rw [h1.1, h2.1]
    refine ⟨rfl, ?_⟩
    simp only [BndL]
    rw [← h1.1, ← h2.1]
    exact ⟨h1.2, h2.2⟩
end

/-! ### Variables that are laid -/

/-- A variable, its cells, and the type of its row. -/
structure Tab where
  g : Nat
  l : List AV
  e : TypeId

noncomputable def Tab.o (t : Tab) : AO := .row t.l t.e .ro

/-- The world holds the variables. -/
def Laid (R : Ren) (ts : List Tab) (w : World) : Prop := ∀ t ∈ ts, ∃ x, w.heap[t.g]? = some x ∧ ORel R t.o x

noncomputable def startH (ts : List Tab) : Tr AO := ts.foldr (fun t H => Tr.set 21 H t.g (some t.o)) .e

def tabsOk (G : Nat) (ts : List Tab) : Bool := Nat.ble G lim && ts.all fun t => Nat.ble (Nat.succ t.g) G && t.l.all fun v => match v with
  | .int _ _ => true
  | .opq _ => true
  | _ => false

theorem startH_get {G : Nat} : ∀ {ts : List Tab}, tabsOk G ts = true → ∀ n o, Tr.get (startH ts) n = some o → ∃ t ∈ ts, t.g = n ∧ t.o = o
  | [], _, n, o, h => by
    have h : Tr.get (.e : Tr AO) n = some o := h
    rw [Tr.get_e] at h; simp at h
  | t :: ts, hok, n, o, h => by
    have h : Tr.get (Tr.set 21 (startH ts) t.g (some t.o)) n = some o := h
    unfold tabsOk at hok
    simp only [List.all_cons, Bool.and_eq_true] at hok
    have hg := Nat.le_of_ble_eq_true hok.2.1.1
    have hl := Nat.le_of_ble_eq_true hok.1
    rw [Tr.get_set 21 _ _ _ _ (by unfold lim at hl; omega)] at h
    split at h
    · rename_i e
      exact ⟨t, by simp, e.symm, Option.some.inj h⟩
    · obtain ⟨t', h1, h2⟩ := startH_get (G := G) (ts := ts) (by unfold tabsOk; simp only [Bool.and_eq_true]; exact ⟨hok.1, hok.2.2⟩) n o h
      exact ⟨t', List.mem_cons_of_mem _ h1, h2⟩

theorem rel_laid {R : Ren} {G : Nat} {ts : List Tab} {w : World} (hok : tabsOk G ts = true) (hL : Laid R ts w) (hid : ∀ g, g < G → R.blk g = g) : Rel R { H := startH ts, nx := G } w := by
  have hin : ∀ t ∈ ts, t.g < G ∧ OBnd G t.o := by
    intro t ht
    unfold tabsOk at hok
    simp only [Bool.and_eq_true] at hok
    have := List.all_eq_true.1 hok.2 t ht
    simp only [Bool.and_eq_true] at this
    refine ⟨Nat.le_of_ble_eq_true this.1, ?_⟩
    simp only [Tab.o, OBnd]
    refine BndL_iff.2 fun v hv => ?_
    have h2 := List.all_eq_true.1 this.2 v hv
    split at h2 <;> simp_all [Bnd]
  have hl : G ≤ lim := by
    unfold tabsOk at hok
    simp only [Bool.and_eq_true] at hok
    exact Nat.le_of_ble_eq_true hok.1
  have get : ∀ n o, St.get { H := startH ts, nx := G } n = some o → ∃ t ∈ ts, t.g = n ∧ t.o = o := fun n o h => startH_get hok n o h
  refine ⟨fun n o h => ?_, fun n m o o' h1 h2 he => ?_, fun n o h => ?_, hl⟩
  · obtain ⟨t, h1, rfl, rfl⟩ := get n o h
    rw [hid _ (hin t h1).1]
    exact hL t h1
  · obtain ⟨t, g1, rfl, rfl⟩ := get n o h1
    obtain ⟨t', g2, rfl, rfl⟩ := get m o' h2
    rw [hid _ (hin t g1).1, hid _ (hin t' g2).1] at he
    exact he
  · obtain ⟨t, h1, rfl, rfl⟩ := get n o h
    exact hin t h1

/-- What a call comes to in a world that holds the variables: told, and nothing that was there is turned. -/
def Tells (P : Program) (G : Nat) (ts : List Tab) (f : FuncId) (args : List AV) (v : AV) : Prop :=
  ∀ R w, Laid R ts w → (∀ g, g < G → R.blk g = g) → Calls P f ⟨concL R args⟩ w fun e w' => e = .returned (conc R v) ∧ Below w.heap.size w w'

noncomputable def comesTo (v : AV) : Option (AV × St) → Bool
  | some (u, _) => avEq u v
  | none => false

theorem tells {E : Env} {P : Program} (hE : E.Ok P) (d lf : Nat) {G : Nat} (hEG : E.G = G) {ts : List Tab} (hok : tabsOk G ts = true) {f : FuncId} {fn : Func} {c : Code} {args : List AV} {v : AV} (hf : E.fn f = some fn) (hb : fn.body = some c)
    (h : comesTo v (callX (d + 1) E lf G f args { H := startH ts, nx := G }) = true) (hargs : BndL 0 args) : Tells P G ts f args v := by
  intro R w hL hid
  unfold comesTo at h
  split at h
  · rename_i u s' hs
    obtain ⟨rfl, hu⟩ := avEq_ok h
    refine (run_told hE d lf G hf hb hs (rel_laid hok hL hid) (hargs.mono (Nat.zero_le _)) (Nat.le_refl _) (fun g hg => ⟨hid g (by omega), by rw [← hEG]; exact hg⟩)).mono fun e w' hh => ?_
    obtain ⟨R', rfl, h1, h2, h3⟩ := hh
    refine ⟨by rw [conc_agree (h2.agree.mono (Nat.zero_le _)) hu], h2.os, h2.tape, h2.output, h2.size, fun k hk => h2.frame k hk fun n o hn hget => ?_⟩
    obtain ⟨t, g1, rfl, _⟩ := startH_get hok n o hget
    unfold tabsOk at hok
    simp only [Bool.and_eq_true] at hok
    have := List.all_eq_true.1 hok.2 t g1
    simp only [Bool.and_eq_true] at this
    have := Nat.le_of_ble_eq_true this.1
    omega
  · simp at h

/-! ### Calls told before -/

noncomputable def rowEq (t : Tab) : Option AO → Bool
  | some (.row l e .ro) => Nat.beq e t.e && avEqL l t.l
  | _ => false

noncomputable def memoFind (args : List AV) : List (List AV × AV) → Option AV
  | [] => none
  | p :: l => match avEqL p.1 args with
    | true => some p.2
    | false => memoFind args l

noncomputable def memoX (G : Nat) (ts : List Tab) (l : List (List AV × AV)) (args : List AV) (s : St) : Option (AV × St) := match ts.all fun t => rowEq t (s.get t.g) with
  | true => ret1 (memoFind args l) s
  | false => none

theorem memoFind_ok {args : List AV} {v : AV} : ∀ {l : List (List AV × AV)}, memoFind args l = some v → (args, v) ∈ l
  | [], h => by simp [memoFind] at h
  | p :: l, h => by
    unfold memoFind at h
    split at h
    · rename_i e
      obtain ⟨rfl, _⟩ := avEqL_ok e
      obtain rfl := Option.some.inj h
      simp
    · exact List.mem_cons_of_mem _ (memoFind_ok h)

/-- A heap that stays as it was below a world's end fits on. -/
theorem Rel.below {lo : Nat} {R : Ren} {s : St} {w w' : World} (h : Rel R s w) (hb : Below w.heap.size w w') : Rel R s w' ∧ Mv lo R s w R s w' := by
  obtain ⟨h1, h2, h3, h4, h5⟩ := hb
  refine ⟨⟨fun n o hn => ?_, h.inj, h.bnd, h.lim⟩, ⟨fun _ _ => rfl, fun _ _ => rfl, rfl, Nat.le_refl _, fun _ _ => rfl, h1, h2, h3, h4, fun b hb _ => h5 b hb, fun n o g1 g2 _ => ⟨n, o, g1, g2, rfl⟩⟩⟩
  obtain ⟨x, hx, hr⟩ := h.live n o hn
  exact ⟨x, by rw [h5 _ (h.lt hn)]; exact hx, hr⟩

theorem memo_ok {P : Program} {G : Nat} {ts : List Tab} {f : FuncId} {l : List (List AV × AV)} (hcall : ∀ args w, (callFunc f args).run P w = .ok (.enter f args) w) (hts : ∀ t ∈ ts, t.g < G) (hl : ∀ p ∈ l, Tells P G ts f p.1 p.2 ∧ Bnd 0 p.2) :
    SumOk P G f (memoX G ts l) := by
  refine ⟨hcall, fun lo args s v s' R w h hR hargs hlo hglob => ?_⟩
  unfold memoX at h
  split at h
  · rename_i hrows
    obtain ⟨h1, rfl⟩ := ret1_some h
    obtain ⟨t1, t2⟩ := hl _ (memoFind_ok h1)
    have hL : Laid R ts w := by
      intro t ht
      have h2 := List.all_eq_true.1 hrows t ht
      unfold rowEq at h2
      split at h2
      · rename_i l' e' hg
        simp only [Bool.and_eq_true] at h2
        obtain rfl := Nat.eq_of_beq_eq_true h2.1
        obtain ⟨rfl, _⟩ := avEqL_ok h2.2
        have := hR.live _ _ hg
        rw [(hglob t.g (hts t ht)).1] at this
        exact this
      · simp at h2
    refine (t1 R w hL fun g hg => (hglob g hg).1).mono fun e w' hh => ?_
    obtain ⟨rfl, hb⟩ := hh
    have := hR.below (lo := lo) hb
    exact ⟨R, rfl, this.1, this.2, t2.mono (Nat.zero_le _)⟩
  · simp at h

end Go.Vx
set_option linter.unusedSectionVars false
set_option linter.unusedSimpArgs false
set_option linter.unusedVariables false
namespace Go.Vx
open Go.RowKit

/-- The row ds becomes the row hs, in a new block. -/
def Fresh (P : Program) (f : FuncId) (e : TypeId) (ds hs : List AV) : Prop := ∀ (R : Ren) (w : World) (B cap : Nat) (c : Array Value) (e0 : TypeId) (fz : Nat × Nat), w.heap[B]? = some (.cells c e0 fz) → (∀ (i : Nat) (u : AV), ds[i]? = some u → c[i]? = some (conc R u)) →
  Calls P f #[.slice (some ⟨B, 0, none⟩) ds.length cap] w fun x w' => ∃ K fz', x = .returned (.slice (some ⟨K, 0, none⟩) hs.length hs.length) ∧ w.heap.size ≤ K ∧ w'.heap[K]? = some (.cells ⟨concL R hs⟩ e fz') ∧ Free hs.length fz' ∧ Below w.heap.size w w'

noncomputable def isFresh (G e : Nat) (hs : List AV) : Option (AV × St) → Bool
  | some (.slc k 0 n c, s) => Nat.beq n hs.length && Nat.beq c hs.length && Nat.ble (Nat.succ G) k && (match s.get k with
    | some (.row l e' .ex) => Nat.beq e' e && avEqL l hs
    | _ => false)
  | _ => false

noncomputable def freshS (G : Nat) (e : TypeId) (ds : List AV) : St := { H := Tr.set 21 .e G (some (.row ds e .ro)), nx := Nat.succ G }

theorem fresh {E : Env} {P : Program} (hE : E.Ok P) (d lf : Nat) {G : Nat} (hEG : E.G = G) (hG : G < 1000) {f : FuncId} {fn : Func} {c : Code} {e : TypeId} {ds hs : List AV} (hf : E.fn f = some fn) (hb : fn.body = some c) (hds : BndL 0 ds) (hlen : hs.length < 1000000)
    (h : isFresh G e hs (callX (d + 1) E lf (Nat.succ G) f [.slc G 0 ds.length (Nat.add big G)] (freshS G e ds)) = true) : Fresh P f e ds hs := by
  intro R w B cap c e0 fz hB hpre
  unfold isFresh at h
  split at h
  · rename_i k n cc s' hs'
    simp only [Bool.and_eq_true] at h
    obtain ⟨⟨⟨h1, h2⟩, h3⟩, h4⟩ := h
    have h1 : n = hs.length := Nat.eq_of_beq_eq_true h1
    have h2 : cc = hs.length := Nat.eq_of_beq_eq_true h2
    subst h1 h2
    have h3 := Nat.le_of_ble_eq_true h3
    split at h4
    · rename_i l e' hg
      simp only [Bool.and_eq_true] at h4
      have h5 : e' = e := Nat.eq_of_beq_eq_true h4.1
      subst h5
      obtain ⟨hl, hl0⟩ := avEqL_ok h4.2
      have hl : hs = l := hl.symm
      subst hl
      let R0 : Ren := { R with blk := fun i => if i = G then B else i, cap := fun i => cap }
      have hopq : R0.opq = R.opq := rfl
      have hget : ∀ m o, (freshS G e' ds).get m = some o → m = G ∧ o = .row ds e' .ro := by
        intro m o hm
        have hm : Tr.get (Tr.set 21 .e G (some (.row ds e' .ro))) m = some o := hm
        rw [Tr.get_set 21 .e G m _ (by omega)] at hm
        split at hm
        · rename_i q; exact ⟨q, (Option.some.inj hm).symm⟩
        · rw [Tr.get_e] at hm; simp at hm
      have c0 : ∀ {u : AV}, Bnd 0 u → conc R0 u = conc R u := fun hu => conc_agree (n := 0) (R := R) (R' := R0) ⟨fun i hi => by omega, fun i hi => by omega, hopq⟩ hu
      have hrel : Rel R0 (freshS G e' ds) w := by
        refine ⟨fun m o hm => ?_, fun m m' o o' g1 g2 _ => ?_, fun m o hm => ?_, ?_⟩
        · obtain ⟨rfl, rfl⟩ := hget m o hm
          refine ⟨.cells c e0 fz, by simp [R0, hB], ?_⟩
          simp only [ORel]
          exact ⟨trivial, fun i u hu => by rw [c0 (BndL_get hds hu)]; exact hpre i u hu⟩
        · rw [(hget m o g1).1, (hget m' o' g2).1]
        · obtain ⟨rfl, rfl⟩ := hget m o hm
          exact ⟨Nat.lt_succ_self _, by simp only [OBnd]; exact hds.mono (Nat.zero_le _)⟩
        · show Nat.succ G ≤ lim
          unfold lim; omega
      have hargs : BndL (freshS G e' ds).nx [.slc G 0 ds.length (Nat.add big G)] := by
        simp only [BndL, Bnd, and_true]
        have t2 : Nat.add big G - big = G := by show big + G - big = G; omega
        rw [t2]
        exact ⟨Nat.lt_succ_self _, .inr (Nat.lt_succ_self _)⟩
      have hglob : ∀ g, g < E.G → R0.blk g = g ∧ g < (freshS G e' ds).nx := by
        intro g hg
        refine ⟨?_, ?_⟩
        · have : g ≠ G := by omega
          simp [R0, this]
        · show g < Nat.succ G; omega
      have hrun := run_told hE d lf (Nat.succ G) hf hb hs' hrel hargs (Nat.le_refl _) hglob
      have ha : (⟨concL R0 [.slc G 0 ds.length (Nat.add big G)]⟩ : Array Value) = #[.slice (some ⟨B, 0, none⟩) ds.length cap] := by
        have t1 : ¬ Nat.add big G < big := by show ¬ big + G < big; omega
        simp only [concL, conc, Ren.c]
        rw [if_neg t1]
        simp [R0]
      rw [ha] at hrun
      refine hrun.mono fun x w' hh => ?_
      obtain ⟨R', rfl, g1, g2, g3⟩ := hh
      obtain ⟨y, hy, hr⟩ := g1.live k _ hg
      have hcc : R'.c hs.length = hs.length := by
        have : hs.length < big := by unfold big; omega
        simp only [Ren.c]; rw [if_pos this]
      have hopq' : R'.opq = R.opq := g2.opq.trans hopq
      have cl : concL R' hs = concL R hs := concL_agree (n := 0) (R := R) (R' := R') ⟨fun i hi => by omega, fun i hi => by omega, hopq'⟩ hl0
      cases y <;> simp only [ORel] at hr
      rename_i c' e2 fz'
      obtain ⟨r1, r2, r3⟩ := hr
      refine ⟨R'.blk k, fz', ?_, ?_, ?_, ?_, ⟨g2.os, g2.tape, g2.output, g2.size, fun b hb => g2.frame b hb fun m o g1 g2 _ => ?_⟩⟩
      · simp only [conc, hcc]
      · rcases Nat.lt_or_ge (R'.blk k) w.heap.size with hlt | hge
        · obtain ⟨m, o', q1, q2, _⟩ := g2.back k _ h3 hg hlt
          have := (hget m o' q2).1
          omega
        · exact hge
      · rw [hy, r1, r2, cl]
      · have hcs : c'.size = hs.length := by rw [r2]; simp
        rw [hcs] at r3
        exact r3
      · have := (hget m o g2).1
        omega
    · simp at h4
  · simp at h

noncomputable def lookL (cs : List AV) : List (List AV × List AV) → Option (List AV)
  | [] => none
  | p :: l => match avEqL p.1 cs with
    | true => some p.2
    | false => lookL cs l

noncomputable def freshR (e : TypeId) (hs : List AV) (s : St) : Option (AV × St) := match room s with
  | true => addK s (.row hs e .ex) fun k s => some (.slc k 0 hs.length hs.length, s)
  | false => none
noncomputable def freshL (T : List (List AV × List AV)) (e n : Nat) (r : Option AO) (s : St) : Option (AV × St) := match r with
  | some (.row l _ _) => match takeN n l with
    | some cs => match lookL cs T with
      | some hs => freshR e hs s
      | none => none
    | none => none
  | _ => none
noncomputable def freshX (T : List (List AV × List AV)) (e : TypeId) (args : List AV) (s : St) : Option (AV × St) := match args with
  | [.slc b 0 n _] => freshL T e n (s.get b) s
  | _ => none

theorem lookL_ok {cs hs : List AV} : ∀ {T : List (List AV × List AV)}, lookL cs T = some hs → (cs, hs) ∈ T
  | [], h => by simp [lookL] at h
  | p :: l, h => by
    unfold lookL at h
    split at h
    · rename_i e
      obtain ⟨rfl, _⟩ := avEqL_ok e
      obtain rfl := Option.some.inj h
      simp
    · exact List.mem_cons_of_mem _ (lookL_ok h)

theorem fresh_ok {P : Program} {G : Nat} {f : FuncId} {e : TypeId} {T : List (List AV × List AV)} (hcall : ∀ args w, (callFunc f args).run P w = .ok (.enter f args) w) (hT : ∀ p ∈ T, Fresh P f e p.1 p.2 ∧ BndL 0 p.2 ∧ p.2.length < big) : SumOk P G f (freshX T e) := by
  refine ⟨hcall, fun lo args s v s' R w h hR hargs hlo hglob => ?_⟩
  unfold freshX at h
  split at h
  · rename_i b n c
    unfold freshL at h
    split at h
    · rename_i l e' k hg
      · split at h
        · rename_i cs hcs
          split at h
          · rename_i hs hl
            obtain ⟨h1, h2, h3⟩ := hT _ (lookL_ok hl)
            dsimp only at h1 h2 h3
            obtain ⟨t1, t2⟩ := takeN_ok hcs
            unfold freshR at h
            split at h
            · rename_i hq
              have hq : s.nx < lim := Nat.le_of_ble_eq_true hq
              rw [addK_eq] at h
              obtain ⟨rfl, rfl⟩ := Prod.mk.inj (Option.some.inj h)
              obtain ⟨x, hx, hr⟩ := hR.live b _ hg
              have hpre : ∃ cc e0 fz, x = .cells cc e0 fz ∧ ∀ (i : Nat) (u : AV), l[i]? = some u → cc[i]? = some (conc R u) := by
                cases k <;> cases x <;> simp only [ORel] at hr
                · rename_i cc e0 fz
                  exact ⟨cc, e0, fz, rfl, hr.2⟩
                · rename_i cc e0 fz
                  refine ⟨cc, e0, fz, rfl, fun i u hu => ?_⟩
                  rw [hr.2.1]; simp [hu]
                · rename_i cc e0 fz
                  exact ⟨cc, e0, fz, rfl, hr.2.1⟩
              obtain ⟨cc, e0, fz, rfl, hcv⟩ := hpre
              have hcall := h1 R w (R.blk b) (R.c c) cc e0 fz hx (fun i u hu => by
                have hi : i < n := by have := (List.getElem?_eq_some_iff.1 hu).1; omega
                exact hcv i u (by rw [← t2 i hi]; exact hu))
              rw [show cs.length = n from t1] at hcall
              have ha : (⟨concL R [.slc b 0 n c]⟩ : Array Value) = #[.slice (some ⟨R.blk b, 0, none⟩) n (R.c c)] := by simp [concL, conc]
              rw [ha]
              refine hcall.mono fun y w' hh => ?_
              obtain ⟨K, fz', rfl, g1, g2, g3, g4⟩ := hh
              obtain ⟨b1, b2, b3, b4, b5⟩ := id g4
              have hrb := hR.below (lo := lo) g4
              have hag := R.name_agree s.nx K 0
              have hold : ∀ m o', s.get m = some o' → (R.name s.nx K 0).blk m = R.blk m := fun m o' hm => hag.blk m (hR.bnd m o' hm).1
              have hcl : concL (R.name s.nx K 0) hs = concL R hs := concL_agree (hag.mono (Nat.zero_le _)) h2
              have hget := fun m => St.get_add s (.row hs e .ex) m hq
              refine ⟨R.name s.nx K 0, ?_, ⟨fun m o hm => ?_, fun m m' o o' q1 q2 he => ?_, fun m o hm => ?_, hq⟩, ⟨fun m hm => ?_, fun m hm => ?_, rfl, Nat.le_succ _, fun m hm => ?_, b1, b2, b3, b4, fun bb hbb _ => b5 bb hbb, fun m o q1 q2 q3 => ?_⟩, ?_⟩
              · have hcc : (R.name s.nx K 0).c hs.length = hs.length := by simp only [Ren.c]; rw [if_pos h3]
                simp [conc, hcc]
              · rw [hget] at hm
                split at hm
                · rename_i e0
                  subst e0
                  obtain rfl := Option.some.inj hm
                  refine ⟨_, by rw [Ren.name_blk]; exact g2, ?_⟩
                  simp only [ORel]
                  exact ⟨trivial, by rw [hcl], by simpa using g3⟩
                · obtain ⟨z, hz, hrz⟩ := hrb.1.live m o hm
                  exact ⟨z, by rw [hold m o hm]; exact hz, hrz.agree hag (hR.bnd m o hm).2⟩
              · rw [hget] at q1 q2
                split at q1 <;> split at q2
                · rename_i e1 e2; omega
                · rename_i e1 e2
                  subst e1
                  have := hR.lt q2
                  rw [hold _ _ q2] at he
                  simp at he
                  omega
                · rename_i e1 e2
                  subst e2
                  have := hR.lt q1
                  rw [hold _ _ q1] at he
                  simp at he
                  omega
                · rw [hold _ _ q1, hold _ _ q2] at he
                  exact hR.inj m m' o o' q1 q2 he
              · rw [hget] at hm
                show m < s.nx + 1 ∧ _
                split at hm
                · rename_i e0
                  obtain rfl := Option.some.inj hm
                  exact ⟨by omega, by simp only [OBnd]; exact h2.mono (Nat.zero_le _)⟩
                · have := hR.bnd m o hm
                  exact ⟨by omega, this.2.mono (Nat.le_succ _)⟩
              · have : m ≠ s.nx := by
                  have e : (s.add (.row hs e .ex)).nx = s.nx + 1 := rfl
                  rw [e] at hm; omega
                simp [Ren.name, this]
              · have : m ≠ s.nx := by
                  have e : (s.add (.row hs e .ex)).nx = s.nx + 1 := rfl
                  rw [e] at hm; omega
                simp [Ren.name, this]
              · rw [hget, if_neg (by omega)]
              · rw [hget] at q2
                split at q2
                · rename_i e0
                  subst e0
                  simp at q3
                  omega
                · exact ⟨m, o, q1, q2, (hold m o q2).symm⟩
              · simp only [Bnd]
                exact ⟨Nat.lt_succ_self _, .inl h3⟩
            · simp at h
          · simp at h
        · simp at h
    · simp at h
  · simp at h

end Go.Vx
set_option linter.unusedSectionVars false
set_option linter.unusedSimpArgs false
set_option linter.unusedVariables false
namespace Go.Vx
open Go.RowKit

theorem mapM_some {α β : Type} {f : α → Option β} : ∀ {l : List α} {ys : List β}, l.mapM f = some ys → ys.length = l.length ∧ ∀ (i : Nat) (a : α), l[i]? = some a → ∃ y, ys[i]? = some y ∧ f a = some y
  | [], ys, h => by
    simp only [List.mapM_nil, Option.pure_def, Option.some.injEq] at h
    subst h
    simp
  | a :: l, ys, h => by
    simp only [List.mapM_cons, Option.bind_eq_bind, Option.bind_eq_some_iff, Option.pure_def, Option.some.injEq] at h
    obtain ⟨y, hy, zs, hz, rfl⟩ := h
    obtain ⟨h1, h2⟩ := mapM_some hz
    refine ⟨by simp [h1], fun i b hb => ?_⟩
    cases i with
    | zero =>
      simp only [List.getElem?_cons_zero, Option.some.injEq] at hb
      subst hb
      exact ⟨y, by simp, hy⟩
    | succ i =>
      simp only [List.getElem?_cons_succ] at hb ⊢
      exact h2 i b hb

theorem int_of_trod {H : Type} {enc : TypeId × Value → H} {P : Program} {w : World} {base : Nat} {sp : Nat → Bool} {held : Bool} {fuel : Nat} {t : TypeId} {k : IntKind} {c : Value} {y : DataW H × List MemPlace}
    (ht : P.underlying t = some (.int k)) (h : DataW.trod enc P w base sp held fuel t [c] = some y) : ∃ n, c = .int k n ∧ y = (.lit (.int k n), []) := by
  cases fuel with
  | zero => simp [DataW.trod] at h
  | succ fuel =>
    cases c <;> simp [DataW.trod, ht] at h
    rename_i k' n
    obtain ⟨⟨rfl, _⟩, rfl⟩ := h
    exact ⟨n, rfl, rfl⟩

/-- An array of integers that is laid. -/
theorem ints_of_trod {H : Type} {enc : TypeId × Value → H} {P : Program} {w : World} {base : Nat} {sp : Nat → Bool} {held : Bool} {fuel n : Nat} {t e : TypeId} {k : IntKind} {cs : List Value} {xs : List Int} {p : List MemPlace}
    (ht : P.underlying t = some (.array n e)) (he : P.underlying e = some (.int k)) (hce : P.cellsOf e = 1) (hct : P.cellsOf t = n) (h : DataW.trod enc P w base sp held fuel t cs = some (.agg (xs.map fun x => .lit (.int k x)), p)) : cs = xs.map (Value.int k) := by
  cases fuel with
  | zero => simp [DataW.trod] at h
  | succ fuel =>
    simp only [DataW.trod, ht, hce, hct] at h
    split at h
    · rename_i hl
      simp only [Option.map_eq_some_iff, Prod.mk.injEq, DataW.agg.injEq] at h
      obtain ⟨ys, hy, h1, _⟩ := h
      obtain ⟨g1, g2⟩ := mapM_some hy
      have hlen : xs.length = n := by
        have := congrArg List.length h1
        simp only [List.length_map] at this
        rw [← this, g1, List.length_range]
      apply List.ext_getElem?
      intro i
      by_cases hi : i < n
      · obtain ⟨y, hy1, hy2⟩ := g2 i i (by simp [hi])
        have hic : i < cs.length := by omega
        have hix : i < xs.length := by omega
        have htk : (cs.drop (i * 1)).take 1 = [cs[i]] := by
          rw [Nat.mul_one, List.drop_eq_getElem_cons hic]
          rfl
        rw [htk] at hy2
        obtain ⟨m, hm1, rfl⟩ := int_of_trod he hy2
        have h2 : (ys.map (·.1))[i]? = (xs.map fun x => (DataW.lit (.int k x) : DataW H))[i]? := by rw [h1]
        simp only [List.getElem?_map, hy1, Option.map_some, List.getElem?_eq_getElem hix, Option.some.injEq, DataW.lit.injEq, Lit.int.injEq] at h2
        rw [List.getElem?_eq_getElem hic, hm1]
        simp [List.getElem?_eq_getElem hix, h2.2]
      · rw [List.getElem?_eq_none (by omega), List.getElem?_eq_none (by simp; omega)]
    · cases h

theorem heap_of_var {P : Program} {w : World} {n : String} {g : Nat} {cs : Array Value} (hg : P.globalNamed n = some g) (h : w.var? P n = some cs) : ∃ t fz, w.heap[g]? = some (.cells cs t fz) := by
  simp only [World.var?, hg, Option.bind_some] at h
  split at h
  · rename_i c t fz hc
    obtain rfl := Option.some.inj h
    exact ⟨t, fz, hc⟩
  · cases h

theorem laid_tab {R : Ren} {w : World} {t : Tab} {cs : Array Value} (h : ∃ e fz, w.heap[t.g]? = some (.cells cs e fz)) (hc : cs.toList = concL R t.l) : ∃ x, w.heap[t.g]? = some x ∧ ORel R t.o x := by
  obtain ⟨e, fz, h⟩ := h
  refine ⟨_, h, ?_⟩
  simp only [Tab.o, ORel]
  refine ⟨trivial, fun i v hv => ?_⟩
  rw [← Array.getElem?_toList, hc, concL_getElem?, hv]
  rfl

/-! ### Tables of what has been told -/

theorem allN {α : Type} {q : α → Prop} : ∀ p ∈ ([] : List α), q p := fun p hp => by simp at hp
theorem allC {α : Type} {q : α → Prop} {a : α} {l : List α} (h : q a) (hl : ∀ p ∈ l, q p) : ∀ p ∈ a :: l, q p := fun p hp => by
  rcases List.mem_cons.1 hp with rfl | hp
  · exact h
  · exact hl p hp

noncomputable def sumsOf (f : Nat) : List (Nat × (List AV → St → Option (AV × St))) → Option (List AV → St → Option (AV × St))
  | [] => none
  | x :: l => match Nat.beq f x.1 with
    | true => some x.2
    | false => sumsOf f l

/-- The environment in which of these functions only that is known. -/
noncomputable def withS (E : Env) (l : List (Nat × (List AV → St → Option (AV × St)))) : Env := sumE E (l.map fun x => x.1) (fun f => sumsOf f l)

theorem withS_ok {P : Program} {E : Env} (h : E.Ok P) {l : List (Nat × (List AV → St → Option (AV × St)))} (hl : ∀ x ∈ l, SumOk P E.G x.1 x.2) : (withS E l).Ok P :=
  sumE_ok h fun f p hp => by
    have gen : ∀ l : List (Nat × (List AV → St → Option (AV × St))), (∀ x ∈ l, SumOk P E.G x.1 x.2) → sumsOf f l = some p → SumOk P E.G f p := by
      intro l
      induction l with
      | nil => intro _ h; simp [sumsOf] at h
      | cons x l ih =>
        intro hl h
        unfold sumsOf at h
        split at h
        · rename_i e
          obtain rfl := Nat.eq_of_beq_eq_true e
          obtain rfl := Option.some.inj h
          exact hl x (by simp)
        · exact ih (fun y hy => hl y (List.mem_cons_of_mem _ hy)) h
    exact gen l hl hp

theorem bnd0 {v : AV} (h : avEq v v = true) : Bnd 0 v := (avEq_ok h).2
theorem bndL0 {l : List AV} (h : avEqL l l = true) : BndL 0 l := (avEqL_ok h).2

end Go.Vx
