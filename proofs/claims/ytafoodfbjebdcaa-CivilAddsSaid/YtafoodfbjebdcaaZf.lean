/-
  CivilAdds: for every input the law returns true. No condition.
-/
import Derived.Test.YtafoodfbjebdcaaZe
import Derived.Test.YtafoodfbjebdcaaK
import Derived.Test.YtafoodfbjebdcaaN
import Derived.WalkKit
import Derived.ProofKit
import Derived.OpenShut
namespace Go.Proofs.Ytafoodfbjebdcaa.civilAdds
open Go.ChangeShapes Go.WideShapes Go.ChangeAt Go.RowKit
set_option maxRecDepth 100000 in
theorem lifted (os : Os) (started : os.Started) (H : Type) (enc : TypeId × Value → H) :
    ReturnsInHanded {} Try.checked os 8 .any (Rows.civilAddsSpec.pre6 enc Try.prog Try.f8 Rows.civilAddsRow.domain false) (Rows.civilAddsSpec.post enc Try.prog Try.f8 false true false false) := by
  refine returnsInHanded_of_change (C := Try.checked) own started (by kernel_rfl) Try.func8
    (ChangeSpec.witness6 (enc := enc) (C := Try.checked) false ⟨#[], #[.agg #[.int .i64 0, .int .i64 0, .int .i64 0, .int .i64 0, .int .i64 0, .int .i64 0, .int .i64 0, .int .i64 0], .int .i64 0, .int .i64 0], []⟩ 8 (by kernel_rfl) (by kernel_rfl) (by kernel_rfl) (by kernel_rfl)) ?_
  intro W base args ds gs before hval0 hW hcnd _
  have hval : ∀ (j : Nat) t v, Try.f8.params[j]? = some t → args[j]? = some v → Value.okWide Try.prog W .any base t v := hval0
  have hW' := hW
  obtain ⟨p, q, hA0, hV, rfl, hfz, hnd⟩ := hW
  have hA : DataW.TrodAll enc Try.prog W 0 (fun _ => true) true Try.f8.params.toList args.toList ds p := hA0
  rw [Try.params8] at hA hval
  obtain ⟨v0, vs0, d0, ds0, p0, q0, hargs, rfl, rfl, h0, r0⟩ := trodAll_cons hA
  obtain ⟨v1, vs1, d1, ds1, p1, q1, rfl, rfl, rfl, h1, r1⟩ := trodAll_cons r0
  obtain ⟨v2, vs2, d2, ds2, p2, q2, rfl, rfl, rfl, h2, r2⟩ := trodAll_cons r1
  obtain ⟨rfl, rfl, rfl⟩ := trodAll_nil r2
  obtain rfl : args = #[v0, v1, v2] := by cases args; simp_all
  obtain ⟨rfl, rfl⟩ := trodVars_none hV
  obtain ⟨y, mo, d, h, mi, s, wd, yd, rfl, rfl, rfl, c0, c1, c2, c3, c4, c5, c6, c7⟩ := open_civil (hval 0 24 v0 rfl rfl) h0
  obtain ⟨a1, rfl, rfl, rfl, w1⟩ := open_int Try.underlying3 (hval 1 3 v1 rfl rfl) h1
  obtain ⟨a2, rfl, rfl, rfl, w2⟩ := open_int Try.underlying3 (hval 2 3 v2 rfl rfl) h2
  clear hA0 hval0
  simp only [List.append_nil] at hW'
  obtain ⟨b0, b0'⟩ := bounds_i64 c0
  obtain ⟨b1, b1'⟩ := bounds_i64 c1
  obtain ⟨b2, b2'⟩ := bounds_i64 c2
  obtain ⟨b3, b3'⟩ := bounds_i64 c3
  obtain ⟨b4, b4'⟩ := bounds_i64 c4
  obtain ⟨b5, b5'⟩ := bounds_i64 c5
  obtain ⟨b6, b6'⟩ := bounds_i64 c6
  obtain ⟨b7, b7'⟩ := bounds_i64 c7
  obtain ⟨e1, e1'⟩ := bounds_i64 w1
  obtain ⟨e2, e2'⟩ := bounds_i64 w2
  refine (CivilAdds_walk y mo d h mi s wd yd a1 a2 b0 b0' b1 b1' b2 b2' b3 b3' b4 b4' b5 b5' b6 b6' b7 b7' e1 e1' e2 e2' W).mono fun e W' ⟨he, hg⟩ => ?_
  subst he
  exact ⟨_, rfl, post_of_below (pa := []) (pv := []) hW' (fun _ _ _ => (trodAll_cons_mk (shut_bool Try.underlying4 _) trodAll_mk0)) (fun sp _ => trodAll_cons_mk (shut_civil y mo d h mi s wd yd c0 c1 c2 c3 c4 c5 c6 c7) (trodAll_cons_mk (shut_int Try.underlying3 w1) (trodAll_cons_mk (shut_int Try.underlying3 w2) trodAll_mk0))) (fun _ _ => rfl) rfl
    hg (ok_one (by kernel_rfl) rfl (okWide_bool_mk Try.underlying4 _))⟩

theorem over : Rows.civilAddsRow.holds Try.pinned (OpenSpec.ofChange Rows.civilAddsSpec) :=
  OpenClaim.holds_of_wide 8 Try.f8 rfl rfl rfl rfl rfl rfl rfl ⟨rfl, rfl, rfl, rfl, rfl⟩ rfl rfl rfl rfl rfl (by kernel_rfl) Try.func8 (by kernel_rfl)
    (of_decide_eq_true (by kernel_rfl)) (by unfold Func.isWrapper; first | (rw [if_pos (by decide +kernel)]; kernel_rfl) | (rw [if_neg (by decide +kernel)]; exact ⟨rfl, rfl⟩))
    (fun os started H enc _ => lifted os started H enc)

theorem proved : Rows.CivilAddsSaid :=
  over
#print axioms proved
end Go.Proofs.Ytafoodfbjebdcaa.civilAdds
