/-
  A run told in advance, part twenty-seven: a function of one row that answers a new row, told row by row. No condition.
-/
import Derived.Test.YtdglogdigiajbaaGreatDoorVxZ
set_option linter.unusedSectionVars false
set_option linter.unusedSimpArgs false
set_option linter.unusedVariables false
namespace Go.Vx
open Go.RowKit

/-- The row ds becomes the row hs, in a new block. -/
def Fresh (P : Program) (f : FuncId) (e : TypeId) (ds hs : List AV) : Prop := ∀ (R : Ren) (w : World) (B cap : Nat) (c : Array Value) (e0 : TypeId) (fz : Nat × Nat), w.heap[B]? = some (.cells c e0 fz) → (∀ (i : Nat) (u : AV), ds[i]? = some u → c[i]? = some (conc R u)) →
  Calls P f #[.slice (some ⟨B, 0, none⟩) ds.length cap] w fun x w' => ∃ K fz', x = .returned (.slice (some ⟨K, 0, none⟩) hs.length hs.length) ∧ w.heap.size ≤ K ∧ w'.heap[K]? = some (.cells ⟨concL R hs⟩ e fz') ∧ Free hs.length fz' ∧ Below w.heap.size w w'

noncomputable def isFresh (G e : Nat) (hs : List AV) : Option (AV × St) → Bool
  | some (.slc k 0 n c, s) => Nat.beq n hs.length && Nat.beq c hs.length && Nat.ble (Nat.succ G) k && (match s.get k with
    | some (.row l e' .ex) => Nat.beq e' e && avEqL l hs
    | _ => false)
  | _ => false

noncomputable def freshS (G : Nat) (e : TypeId) (ds : List AV) : St := { H := Tr.set 21 .e G (some (.row ds e .ro)), nx := Nat.succ G }

theorem fresh {E : Env} {P : Program} (hE : E.Ok P) (d lf : Nat) {G : Nat} (hEG : E.G = G) (hG : G < 1000) {f : FuncId} {fn : Func} {c : Code} {e : TypeId} {ds hs : List AV} (hf : E.fn f = some fn) (hb : fn.body = some c) (hds : BndL 0 ds) (hlen : hs.length < 1000000)
    (h : isFresh G e hs (callX (d + 1) E lf (Nat.succ G) f [.slc G 0 ds.length (Nat.add big G)] (freshS G e ds)) = true) : Fresh P f e ds hs := by
  intro R w B cap c e0 fz hB hpre
  unfold isFresh at h
  split at h
  · rename_i k n cc s' hs'
    simp only [Bool.and_eq_true] at h
    obtain ⟨⟨⟨h1, h2⟩, h3⟩, h4⟩ := h
    have h1 : n = hs.length := Nat.eq_of_beq_eq_true h1
    have h2 : cc = hs.length := Nat.eq_of_beq_eq_true h2
    subst h1 h2
    have h3 := Nat.le_of_ble_eq_true h3
    split at h4
    · rename_i l e' hg
      simp only [Bool.and_eq_true] at h4
      have h5 : e' = e := Nat.eq_of_beq_eq_true h4.1
      subst h5
      obtain ⟨hl, hl0⟩ := avEqL_ok h4.2
      have hl : hs = l := hl.symm
      subst hl
      let R0 : Ren := { R with blk := fun i => if i = G then B else i, cap := fun i => cap }
      have hopq : R0.opq = R.opq := rfl
      have hget : ∀ m o, (freshS G e' ds).get m = some o → m = G ∧ o = .row ds e' .ro := by
        intro m o hm
        have hm : Tr.get (Tr.set 21 .e G (some (.row ds e' .ro))) m = some o := hm
        rw [Tr.get_set 21 .e G m _ (by omega)] at hm
        split at hm
        · rename_i q; exact ⟨q, (Option.some.inj hm).symm⟩
        · rw [Tr.get_e] at hm; simp at hm
      have c0 : ∀ {u : AV}, Bnd 0 u → conc R0 u = conc R u := fun hu => conc_agree (n := 0) (R := R) (R' := R0) ⟨fun i hi => by omega, fun i hi => by omega, hopq⟩ hu
      have hrel : Rel R0 (freshS G e' ds) w := by
        refine ⟨fun m o hm => ?_, fun m m' o o' g1 g2 _ => ?_, fun m o hm => ?_, ?_⟩
        · obtain ⟨rfl, rfl⟩ := hget m o hm
          refine ⟨.cells c e0 fz, by simp [R0, hB], ?_⟩
          simp only [ORel]
          exact ⟨trivial, fun i u hu => by rw [c0 (BndL_get hds hu)]; exact hpre i u hu⟩
        · rw [(hget m o g1).1, (hget m' o' g2).1]
        · obtain ⟨rfl, rfl⟩ := hget m o hm
          exact ⟨Nat.lt_succ_self _, by simp only [OBnd]; exact hds.mono (Nat.zero_le _)⟩
        · show Nat.succ G ≤ lim
          unfold lim; omega
      have hargs : BndL (freshS G e' ds).nx [.slc G 0 ds.length (Nat.add big G)] := by
        simp only [BndL, Bnd, and_true]
        have t2 : Nat.add big G - big = G := by show big + G - big = G; omega
        rw [t2]
        exact ⟨Nat.lt_succ_self _, .inr (Nat.lt_succ_self _)⟩
      have hglob : ∀ g, g < E.G → R0.blk g = g ∧ g < (freshS G e' ds).nx := by
        intro g hg
        refine ⟨?_, ?_⟩
        · have : g ≠ G := by omega
          simp [R0, this]
        · show g < Nat.succ G; omega
      have hrun := run_told hE d lf (Nat.succ G) hf hb hs' hrel hargs (Nat.le_refl _) hglob
      have ha : (⟨concL R0 [.slc G 0 ds.length (Nat.add big G)]⟩ : Array Value) = #[.slice (some ⟨B, 0, none⟩) ds.length cap] := by
        have t1 : ¬ Nat.add big G < big := by show ¬ big + G < big; omega
        simp only [concL, conc, Ren.c]
        rw [if_neg t1]
        simp [R0]
      rw [ha] at hrun
      refine hrun.mono fun x w' hh => ?_
      obtain ⟨R', rfl, g1, g2, g3⟩ := hh
      obtain ⟨y, hy, hr⟩ := g1.live k _ hg
      have hcc : R'.c hs.length = hs.length := by
        have : hs.length < big := by unfold big; omega
        simp only [Ren.c]; rw [if_pos this]
      have hopq' : R'.opq = R.opq := g2.opq.trans hopq
      have cl : concL R' hs = concL R hs := concL_agree (n := 0) (R := R) (R' := R') ⟨fun i hi => by omega, fun i hi => by omega, hopq'⟩ hl0
      cases y <;> simp only [ORel] at hr
      rename_i c' e2 fz'
      obtain ⟨r1, r2, r3⟩ := hr
      refine ⟨R'.blk k, fz', ?_, ?_, ?_, ?_, ⟨g2.os, g2.tape, g2.output, g2.size, fun b hb => g2.frame b hb fun m o g1 g2 _ => ?_⟩⟩
      · simp only [conc, hcc]
      · rcases Nat.lt_or_ge (R'.blk k) w.heap.size with hlt | hge
        · obtain ⟨m, o', q1, q2, _⟩ := g2.back k _ h3 hg hlt
          have := (hget m o' q2).1
          omega
        · exact hge
      · rw [hy, r1, r2, cl]
      · have hcs : c'.size = hs.length := by rw [r2]; simp
        rw [hcs] at r3
        exact r3
      · have := (hget m o g2).1
        omega
    · simp at h4
  · simp at h

noncomputable def lookL (cs : List AV) : List (List AV × List AV) → Option (List AV)
  | [] => none
  | p :: l => match avEqL p.1 cs with
    | true => some p.2
    | false => lookL cs l

noncomputable def freshR (e : TypeId) (hs : List AV) (s : St) : Option (AV × St) := match room s with
  | true => addK s (.row hs e .ex) fun k s => some (.slc k 0 hs.length hs.length, s)
  | false => none
noncomputable def freshL (T : List (List AV × List AV)) (e n : Nat) (r : Option AO) (s : St) : Option (AV × St) := match r with
  | some (.row l _ _) => match takeN n l with
    | some cs => match lookL cs T with
      | some hs => freshR e hs s
      | none => none
    | none => none
  | _ => none
noncomputable def freshX (T : List (List AV × List AV)) (e : TypeId) (args : List AV) (s : St) : Option (AV × St) := match args with
  | [.slc b 0 n _] => freshL T e n (s.get b) s
  | _ => none

theorem lookL_ok {cs hs : List AV} : ∀ {T : List (List AV × List AV)}, lookL cs T = some hs → (cs, hs) ∈ T
  | [], h => by simp [lookL] at h
  | p :: l, h => by
    unfold lookL at h
    split at h
    · rename_i e
      obtain ⟨rfl, _⟩ := avEqL_ok e
      obtain rfl := Option.some.inj h
      simp
    · exact List.mem_cons_of_mem _ (lookL_ok h)

theorem fresh_ok {P : Program} {G : Nat} {f : FuncId} {e : TypeId} {T : List (List AV × List AV)} (hcall : ∀ args w, (callFunc f args).run P w = .ok (.enter f args) w) (hT : ∀ p ∈ T, Fresh P f e p.1 p.2 ∧ BndL 0 p.2 ∧ p.2.length < big) : SumOk P G f (freshX T e) := by
  refine ⟨hcall, fun lo args s v s' R w h hR hargs hlo hglob => ?_⟩
  unfold freshX at h
  split at h
  · rename_i b n c
    unfold freshL at h
    split at h
    · rename_i l e' k hg
      · split at h
        · rename_i cs hcs
          split at h
          · rename_i hs hl
            obtain ⟨h1, h2, h3⟩ := hT _ (lookL_ok hl)
            dsimp only at h1 h2 h3
            obtain ⟨t1, t2⟩ := takeN_ok hcs
            unfold freshR at h
            split at h
            · rename_i hq
              have hq : s.nx < lim := Nat.le_of_ble_eq_true hq
              rw [addK_eq] at h
              obtain ⟨rfl, rfl⟩ := Prod.mk.inj (Option.some.inj h)
              obtain ⟨x, hx, hr⟩ := hR.live b _ hg
              have hpre : ∃ cc e0 fz, x = .cells cc e0 fz ∧ ∀ (i : Nat) (u : AV), l[i]? = some u → cc[i]? = some (conc R u) := by
                cases k <;> cases x <;> simp only [ORel] at hr
                · rename_i cc e0 fz
                  exact ⟨cc, e0, fz, rfl, hr.2⟩
                · rename_i cc e0 fz
                  refine ⟨cc, e0, fz, rfl, fun i u hu => ?_⟩
                  rw [hr.2.1]; simp [hu]
                · rename_i cc e0 fz
                  exact ⟨cc, e0, fz, rfl, hr.2.1⟩
              obtain ⟨cc, e0, fz, rfl, hcv⟩ := hpre
              have hcall := h1 R w (R.blk b) (R.c c) cc e0 fz hx (fun i u hu => by
                have hi : i < n := by have := (List.getElem?_eq_some_iff.1 hu).1; omega
                exact hcv i u (by rw [← t2 i hi]; exact hu))
              rw [show cs.length = n from t1] at hcall
              have ha : (⟨concL R [.slc b 0 n c]⟩ : Array Value) = #[.slice (some ⟨R.blk b, 0, none⟩) n (R.c c)] := by simp [concL, conc]
              rw [ha]
              refine hcall.mono fun y w' hh => ?_
              obtain ⟨K, fz', rfl, g1, g2, g3, g4⟩ := hh
              obtain ⟨b1, b2, b3, b4, b5⟩ := id g4
              have hrb := hR.below (lo := lo) g4
              have hag := R.name_agree s.nx K 0
              have hold : ∀ m o', s.get m = some o' → (R.name s.nx K 0).blk m = R.blk m := fun m o' hm => hag.blk m (hR.bnd m o' hm).1
              have hcl : concL (R.name s.nx K 0) hs = concL R hs := concL_agree (hag.mono (Nat.zero_le _)) h2
              have hget := fun m => St.get_add s (.row hs e .ex) m hq
              refine ⟨R.name s.nx K 0, ?_, ⟨fun m o hm => ?_, fun m m' o o' q1 q2 he => ?_, fun m o hm => ?_, hq⟩, ⟨fun m hm => ?_, fun m hm => ?_, rfl, Nat.le_succ _, fun m hm => ?_, b1, b2, b3, b4, fun bb hbb _ => b5 bb hbb, fun m o q1 q2 q3 => ?_⟩, ?_⟩
              · have hcc : (R.name s.nx K 0).c hs.length = hs.length := by simp only [Ren.c]; rw [if_pos h3]
                simp [conc, hcc]
              · rw [hget] at hm
                split at hm
                · rename_i e0
                  subst e0
                  obtain rfl := Option.some.inj hm
                  refine ⟨_, by rw [Ren.name_blk]; exact g2, ?_⟩
                  simp only [ORel]
                  exact ⟨trivial, by rw [hcl], by simpa using g3⟩
                · obtain ⟨z, hz, hrz⟩ := hrb.1.live m o hm
                  exact ⟨z, by rw [hold m o hm]; exact hz, hrz.agree hag (hR.bnd m o hm).2⟩
              · rw [hget] at q1 q2
                split at q1 <;> split at q2
                · rename_i e1 e2; omega
                · rename_i e1 e2
                  subst e1
                  have := hR.lt q2
                  rw [hold _ _ q2] at he
                  simp at he
                  omega
                · rename_i e1 e2
                  subst e2
                  have := hR.lt q1
                  rw [hold _ _ q1] at he
                  simp at he
                  omega
                · rw [hold _ _ q1, hold _ _ q2] at he
                  exact hR.inj m m' o o' q1 q2 he
              · rw [hget] at hm
                show m < s.nx + 1 ∧ _
                split at hm
                · rename_i e0
                  obtain rfl := Option.some.inj hm
                  exact ⟨by omega, by simp only [OBnd]; exact h2.mono (Nat.zero_le _)⟩
                · have := hR.bnd m o hm
                  exact ⟨by omega, this.2.mono (Nat.le_succ _)⟩
              · have : m ≠ s.nx := by
                  have e : (s.add (.row hs e .ex)).nx = s.nx + 1 := rfl
                  rw [e] at hm; omega
                simp [Ren.name, this]
              · have : m ≠ s.nx := by
                  have e : (s.add (.row hs e .ex)).nx = s.nx + 1 := rfl
                  rw [e] at hm; omega
                simp [Ren.name, this]
              · rw [hget, if_neg (by omega)]
              · rw [hget] at q2
                split at q2
                · rename_i e0
                  subst e0
                  simp at q3
                  omega
                · exact ⟨m, o, q1, q2, (hold m o q2).symm⟩
              · simp only [Bnd]
                exact ⟨Nat.lt_succ_self _, .inl h3⟩
            · simp at h
          · simp at h
        · simp at h
    · simp at h
  · simp at h

end Go.Vx
