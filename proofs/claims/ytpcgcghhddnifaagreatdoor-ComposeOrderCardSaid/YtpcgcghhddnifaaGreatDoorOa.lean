/-
  ComposeOrder: the row and its tied card. No condition.
-/
import Derived.Test.YtpcgcghhddnifaaGreatDoorGh
import Derived.Test.YtpcgcghhddnifaaGreatDoorOf
import Derived.Test.YtpcgcghhddnifaaGreatDoorOg
import Derived.Test.YtpcgcghhddnifaaGreatDoorChecked
import Derived.Test.YtpcgcghhddnifaaGreatDoorTie
import Derived.Test.YtpcgcghhddnifaaGreatDoorCards
import Derived.WalkKit
import Derived.ProofKit
import Derived.LaidMore
import Derived.LaidLaws
import Derived.OpenShut
import Derived.Lib.SmallJoins
import Derived.SevenTiedAt
import Derived.SizedLaws
import Derived.HandedShaped
import Derived.Lay
import Derived.WideKeyArgs
import Derived.Test.YtpcgcghhddnifaaGreatDoorQo
namespace Go.Proofs.YtpcgcghhddnifaaGreatDoor
open Go.ChangeShapes Go.WideShapes Go.ChangeAt Go.RowKit Go.ChangeMaps Go.Vx
namespace composeOrder
def listed : List (String × DataW Unit) := Rows.composeOrderRow.laid
set_option maxRecDepth 100000 in
theorem lifted (os : Os) (started : os.Started) (H : Type) (enc : TypeId × Value → H) :
    ReturnsInHanded {} Tryz.checked os 5 .any (fun w args => (Rows.composeOrderSpec.pre enc Tryz.prog Tryz.f5 [] false w args ∧ laidMetH Tryz.prog listed w) ∧ sizedMet enc Tryz.prog Tryz.f5 (OpenSpec.ofChange Rows.composeOrderSpec) false w args)
      (Rows.composeOrderSpec.post enc Tryz.prog Tryz.f5 false true false false) := by
  refine handed_and_shaped (C := Tryz.checked) (X := fun w _ => laidMetH Tryz.prog listed w) (fun _ _ _ hh h => h.of_heap hh) own started (by kernel_rfl) Tryz.func5
    (ChangeSpec.witness_shaped (enc := enc) (C := Tryz.checked) (os := os) (X := fun w _ => laidMetH Tryz.prog listed w) false (World.laidAll Tryz.prog os listed) #[.slice none 0 0, .string ⟨#[]⟩, .agg #[.slice none 0 0, .string ⟨#[]⟩]] 8 (World.laidAll_os _ _ _)
      (World.shaped_of_ZipB (by kernel_rfl) (by kernel_rfl)) (by kernel_rfl) (by kernel_rfl) (by kernel_rfl)
      (by rw [MakeChecks.laidMetH_plain _ _ _ (by kernel_rfl)]; exact laidMet_laidAll _ (by kernel_rfl) (by kernel_rfl))) ?_
  intro W base args ds gs before hval0 hW _ hsz0 hL hsh _
  have hval : ∀ (j : Nat) t v, Tryz.f5.params[j]? = some t → args[j]? = some v → Value.okWide Tryz.prog W .any base t v := hval0
  have hW' := hW
  obtain ⟨p, q, hA0, hV, rfl, hfz, hnd⟩ := hW
  have hA : DataW.TrodAll enc Tryz.prog W 0 (fun _ => true) true Tryz.f5.params.toList args.toList ds p := hA0
  rw [Tryz.params5] at hA hval
  obtain ⟨v0, vs0, d0, ds0, p0, q0, hargs, rfl, rfl, h0, r0⟩ := trodAll_cons hA
  obtain ⟨v1, vs1, d1, ds1, p1, q1, rfl, rfl, rfl, h1, r1⟩ := trodAll_cons r0
  obtain ⟨v2, vs2, d2, ds2, p2, q2, rfl, rfl, rfl, h2, r2⟩ := trodAll_cons r1
  obtain ⟨rfl, rfl, rfl⟩ := trodAll_nil r2
  obtain rfl : args = #[v0, v1, v2] := by cases args; simp_all
  obtain ⟨rfl, rfl⟩ := trodVars_none hV
  have hlt0 : ∀ x ∈ p0, x.block < W.heap.size := fun x hx => hW'.lt x (by simp [hx])
  have hlt2 : ∀ x ∈ p2, x.block < W.heap.size := fun x hx => hW'.lt x (by simp [hx])
  obtain ⟨s, rfl, rfl, rfl, mx_s⟩ := open_string Tryz.underlying9 (hval 1 9 v1 rfl rfl) h1
  obtain ⟨A0, L, c0, rfl, hSd, hlc, mx0⟩ := open_saids h0 (hval 0 22 v0 rfl rfl)
  obtain ⟨AA, xs, cc, st, rfl, hTx, hcc, hAA, mx2⟩ := open_listed h2 (hval 2 25 v2 rfl rfl)
  have hsz : (DataW.weightsEach Tryz.prog (Tryz.f5.params.toList ++ Rows.composeOrderSpec.plain.varTypes Tryz.prog) ([d0, .lit (.string s.data.toList), d2] ++ [])).all (· ≤ reachBytes) = true := hsz0
  obtain ⟨z1, z2⟩ := mx0 _ (sized_of (j := 0) (t := 22) hsz (by rw [Tryz.params5]; rfl) rfl)
  obtain ⟨z3, z4, z5⟩ := mx2 _ (sized_of (j := 2) (t := 25) hsz (by rw [Tryz.params5]; rfl) rfl)
  have hg := globs_of_laid hL
  clear hA0 hval0
  simp only [List.append_nil, List.nil_append] at hW'
  refine (order_yes A0 L c0 W.heap.size s AA xs cc st (by omega) z1 z3 (by omega) hcc hAA z5 W hg.1 hg.2 _ (Tryz.laysM144.s1_3 W hsh).choose_spec hSd hTx (Nat.le_refl _)).mono fun e W' ⟨he, hb⟩ => ?_
  subst he
  exact ⟨_, rfl, post_of_below (pa := p0 ++ p2) (pv := []) hW' (fun _ _ _ => (trodAll_cons_mk (shut_bool Tryz.underlying4 _) trodAll_mk0)) (fun sp hsp => by have q := trodAll_cons_mk (saids_back h0 hb hlt0 sp (fun x hx => hsp x (by simp [hx]))) (trodAll_cons_mk (shut_string (sp := sp) Tryz.underlying9 mx_s) (trodAll_cons_mk (listed_back h2 hb hlt2 sp (fun x hx => hsp x (by simp [hx]))) trodAll_mk0)); simp only [List.append_nil, List.nil_append] at q; exact q) (fun _ _ => rfl) (by simp)
    hb (ok_one (by kernel_rfl) rfl (okWide_bool_mk Tryz.underlying4 _))⟩
end composeOrder
end Go.Proofs.YtpcgcghhddnifaaGreatDoor
