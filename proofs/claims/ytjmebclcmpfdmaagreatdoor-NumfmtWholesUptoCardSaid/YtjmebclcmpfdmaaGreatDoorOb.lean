/-
  NumfmtWholes: the row and its tied card. No condition.
-/
import Derived.Test.YtjmebclcmpfdmaaGreatDoorOa
import Derived.Test.YtjmebclcmpfdmaaGreatDoorOf
import Derived.Test.YtjmebclcmpfdmaaGreatDoorOg
import Derived.Test.YtjmebclcmpfdmaaGreatDoorChecked
import Derived.Test.YtjmebclcmpfdmaaGreatDoorTie
import Derived.Test.YtjmebclcmpfdmaaGreatDoorCards
import Derived.WalkKit
import Derived.ProofKit
import Derived.LaidMore
import Derived.LaidLaws
import Derived.OpenShut
import Derived.Lib.SmallJoins
import Derived.SevenTiedAt
import Derived.SizedLaws
import Derived.Lay
import Derived.Deep.DeepHandedRow
import Derived.Deep.DeepWitnessRowRef
import Derived.WideKeyArgs
namespace Go.Proofs.YtjmebclcmpfdmaaGreatDoor
open Go.ChangeShapes Go.WideShapes Go.ChangeAt Go.RowKit Go.ChangeMaps Go.Vx
theorem glob_of_laid {W : World} (h : laidMetH Tryz.prog Rows.numfmtWholesUptoRow.laid W) : Glob W := by
  rw [MakeChecks.laidMetH_plain _ _ _ (by kernel_rfl)] at h
  exact ⟨⟨pow_of (Lib.laidMet.reads h (.tail _ (.tail _ (.head _)))), utf_of (Lib.laidMet.reads h (.tail _ (.tail _ (.tail _ (.tail _ (.tail _ (.tail _ (.tail _ (.tail _ (.head _)))))))))) (Lib.laidMet.reads h (.tail _ (.tail _ (.tail _ (.head _)))))⟩, err_of (Lib.laidMet.reads h (.tail _ (.tail _ (.tail _ (.tail _ (.tail _ (.head _)))))))⟩
namespace numfmtWholes
def listed : List (String × DataW Unit) := Rows.numfmtWholesUptoRow.laid
theorem reads (os : Os) {H : Type} (enc : TypeId × Value → H) : ∃ places, DataW.whole enc Tryz.prog ((World.laidAll Tryz.prog os listed).forCall (fun _ _ => 0) ⟨#[], #[.slice none 0 0, .int .i64 0, .agg #[.string ⟨#[]⟩, .string ⟨#[]⟩, .int .i64 0]], []⟩).memory Tryz.f4.params.toList Rows.numfmtWholesSpec.vars false #[Value.slice none 0 0, .int .i64 0, .agg #[.string ⟨#[]⟩, .string ⟨#[]⟩, .int .i64 0]].toList 8 = some ([.nil, .lit (.int .i64 0), .agg [.lit (.string []), .lit (.string []), .lit (.int .i64 0)]], [], places) :=
  ⟨[], by kernel_rfl⟩
theorem laid_met (os : Os) : laidMetH Tryz.prog Rows.numfmtWholesUptoRow.laid ((World.laidAll Tryz.prog os listed).forCall (fun _ _ => 0) ⟨#[], #[.slice none 0 0, .int .i64 0, .agg #[.string ⟨#[]⟩, .string ⟨#[]⟩, .int .i64 0]], []⟩).memory := by
  rw [MakeChecks.laidMetH_plain _ _ _ (by kernel_rfl)]; exact laidMet_laidAll _ (by kernel_rfl) (by kernel_rfl)
set_option maxRecDepth 100000 in
theorem lifted (os : Os) (started : os.Started) (H : Type) (enc : TypeId × Value → H) (F : Stop.Interp) :
    ReturnsInHanded {} Tryz.checked os 4 .any ((Rows.OpenSpec.upto Rows.numfmtWholesSpec).preRow enc Tryz.prog Tryz.f4 Rows.numfmtWholesUptoRow.domain false Rows.numfmtWholesUptoRow.laid) (((Rows.OpenSpec.upto Rows.numfmtWholesSpec).at F).post enc Tryz.prog Tryz.f4 false true false false) := by
  obtain ⟨places, hx⟩ := reads os enc
  refine returnsInHanded_of_row (C := Tryz.checked) (s := Rows.OpenSpec.upto Rows.numfmtWholesSpec) own started (by kernel_rfl) Tryz.func4
    (witness_row_atRef (enc := enc) (C := Tryz.checked) false (World.laidAll Tryz.prog os listed) #[.slice none 0 0, .int .i64 0, .agg #[.string ⟨#[]⟩, .string ⟨#[]⟩, .int .i64 0]] (World.laidAll_os _ _ _) (by kernel_rfl) (by kernel_rfl) (by kernel_rfl)
      (OpenSpec.preRow_of_cond 8 hx (by kernel_rfl) (fun k hk => by cases hk; kernel_rfl) (by kernel_rfl) (laid_met os))) ?_
  intro W base args ds gs before hval0 hW hc1 hc2 hsz0 hL hsh _
  have hval : ∀ (j : Nat) t v, Tryz.f4.params[j]? = some t → args[j]? = some v → Value.okWide Tryz.prog W .any base t v := hval0
  have hW' : DataW.Whole enc Tryz.prog Tryz.f4.params.toList Rows.numfmtWholesSpec.vars false W args.toList ds gs before := hW
  obtain ⟨p, q, hA0, hV, rfl, hfz, hnd⟩ := hW'
  have hW' : DataW.Whole enc Tryz.prog Tryz.f4.params.toList Rows.numfmtWholesSpec.vars false W args.toList ds gs (p ++ q) := hW
  have hA : DataW.TrodAll enc Tryz.prog W 0 (fun _ => true) true Tryz.f4.params.toList args.toList ds p := hA0
  rw [Tryz.params4] at hA hval
  obtain ⟨v0, vs0, d0, ds0, p0, q0, hargs, rfl, rfl, h0, r0⟩ := trodAll_cons hA
  obtain ⟨v1, vs1, d1, ds1, p1, q1, rfl, rfl, rfl, h1, r1⟩ := trodAll_cons r0
  obtain ⟨v2, vs2, d2, ds2, p2, q2, rfl, rfl, rfl, h2, r2⟩ := trodAll_cons r1
  obtain ⟨rfl, rfl, rfl⟩ := trodAll_nil r2
  obtain rfl : args = #[v0, v1, v2] := by cases args; simp_all
  obtain ⟨rfl, rfl⟩ := trodVars_none hV
  have hlt0 : ∀ x ∈ p0, x.block < W.heap.size := fun x hx => hW'.lt x (by simp [hx])
  have hlt2 : ∀ x ∈ p2, x.block < W.heap.size := fun x hx => hW'.lt x (by simp [hx])
  obtain ⟨n, rfl, rfl, rfl, wf_n⟩ := open_int Tryz.underlying2 (hval 1 2 v1 rfl rfl) h1
  obtain ⟨A0, L, c0, rfl, hSd, hlc, mxb, mx0⟩ := open_saids h0 (hval 0 22 v0 rfl rfl)
  obtain ⟨loc, sys, least, rfl, mx2⟩ := open_asked h2 (hval 2 40 v2 rfl rfl)
  have hsz : (DataW.weightsEach Tryz.prog (Tryz.f4.params.toList ++ Rows.numfmtWholesSpec.plain.varTypes Tryz.prog) ([d0, .lit (.int .i64 n), d2] ++ [])).all (· ≤ reachBytes) = true := hsz0
  have hbk : Rows.uptoBulkAll ([d0, .lit (.int .i64 n), d2] ++ []) ≤ 1048576 := of_decide_eq_true (hc2 _ rfl)
  have hb0 : Rows.uptoBulk d0 ≤ 1048576 := Nat.le_trans (bulk_mem (by simp)) hbk
  obtain ⟨z1, z2⟩ := mx0 _ (sized_of (j := 0) (t := 22) hsz (by rw [Tryz.params4]; rfl) rfl)
  have z3 := mx2 _ (sized_of (j := 2) (t := 40) hsz (by rw [Tryz.params4]; rfl) rfl)
  have hg := glob_of_laid hL
  have bd_n := bounds_i64 wf_n
  clear hA0 hval0
  simp only [List.append_nil, List.nil_append] at hW'
  refine (wholes_law A0 L c0 W.heap.size (by omega) (fun x hx => Nat.le_trans (Nat.le_trans (mxb x hx) hb0) (by decide)) loc sys z3 n least bd_n.1 bd_n.2 W hSd (Nat.le_refl _) hg).mono fun e W' ⟨he, hb⟩ => ?_
  subst he
  exact ⟨_, rfl, post_of_below (s := Rows.numfmtWholesSpec) (pa := p0 ++ p2) (pv := []) hW' (fun _ _ _ => (trodAll_cons_mk (shut_bool Tryz.underlying4 _) trodAll_mk0)) (fun sp hsp => by have q := trodAll_cons_mk (saids_back h0 hb hlt0 sp (fun x hx => hsp x (by simp [hx]))) (trodAll_cons_mk (shut_int (spare := sp) Tryz.underlying2 wf_n) (trodAll_cons_mk (asked_back h2 hb hlt2 sp (fun x hx => hsp x (by simp [hx]))) trodAll_mk0)); simp only [List.append_nil, List.nil_append] at q; exact q) (fun _ _ => rfl) (by simp)
    hb (ok_one (by kernel_rfl) rfl (okWide_bool_mk Tryz.underlying4 _))⟩
end numfmtWholes
end Go.Proofs.YtjmebclcmpfdmaaGreatDoor
