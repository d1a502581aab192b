/-
  CivilOf: for every number of seconds and every offset the law returns true. No condition.
-/
import Derived.Test.YtafoodfbjebdcaaE
import Derived.Test.YtafoodfbjebdcaaK
import Derived.WalkKit
import Derived.ProofKit
import Derived.OpenShut
import Derived.WalkLawsBesides
import Derived.Lib.Hide
namespace Go.Proofs.Ytafoodfbjebdcaa.civilOf
open Go.ChangeShapes Go.WideShapes Go.ChangeAt Go.RowKit
set_option linter.unusedVariables false      -- a walk need not use every 'w<i>' (that an integer argument fits its kind)


theorem civ_ex (n s : Int) : ∃ c1 c2 c3 c4 c5 c6 c7 c8 : Int, civ n s = .agg #[.int .i64 c1, .int .i64 c2, .int .i64 c3, .int .i64 c4, .int .i64 c5, .int .i64 c6, .int .i64 c7, .int .i64 c8] := ⟨_, _, _, _, _, _, _, _, rfl⟩
theorem far (n : Int) (h : n < -5000000 ∨ 5000000 < n) : ¬ (-9999 ≤ Cal.Year n ∧ Cal.Year n ≤ 9999) := by
  intro ⟨h1, h2⟩
  have v := Cal.num_in (Cal.told_ok n).1
  rw [(Cal.told_ok n).2] at v
  have a := CivT.fst_in (y := Cal.Year n) (by omega) (by omega)
  have b := CivT.fst_in (y := Cal.Year n + 1) (by omega) (by omega)
  omega
/-! ### STEP 1: THE WALK: the Go text returns true. 'Below w.heap.size w w'': the world has at most new blocks (Derived/RowKit3.lean). Part the cases AHEAD of 'go_enter' where a test parts the walk; take each callee by a contract of your own. -/
set_option maxHeartbeats 1600000 in
theorem walk (a0 : Int) (a1 : Int) (w0 : (Lit.int .i64 a0).wf = true) (w1 : (Lit.int .i64 a1).wf = true) (w : World) :
    Calls Try.prog 3 #[.int .i64 a0, .int .i64 a1] w fun e w' => e = .returned (.bool true) ∧ Below w.heap.size w w' := by
  obtain ⟨s0, s1⟩ := bounds_i64 w0
  obtain ⟨o0, o1⟩ := bounds_i64 w1
  by_cases ho : -86399 ≤ a1 ∧ a1 ≤ 86399
  · by_cases hs : -1152921504606846976 ≤ a0 ∧ a0 ≤ 1152921504606846976
    · obtain ⟨ho1, ho2⟩ := ho
      obtain ⟨hs1, hs2⟩ := hs
      by_cases ht : -1099511627776 ≤ a0 ∧ a0 ≤ 1099511627776
      · obtain ⟨ht1, ht2⟩ := ht
        have e1 : (a0 + a1) / 86400 ≤ 1073741824 := by omega
        have e2 : -1073741824 ≤ (a0 + a1) / 86400 := by omega
        have H := Of_any a0 a1
        have R := refOf ((a0 + a1) / 86400) ((a0 + a1) % 86400) (by omega) (by omega) (by omega) (by omega)
        by_cases hy : -9999 ≤ Cal.Year ((a0 + a1) / 86400) ∧ Cal.Year ((a0 + a1) / 86400) ≤ 9999
        · rw [show ofV a0 a1 = .tuple #[civ ((a0 + a1) / 86400) ((a0 + a1) % 86400), .int .i64 0] by unfold ofV; rw [if_pos ⟨ho1, ho2⟩, if_pos ⟨ht1, ht2⟩, if_pos hy]] at H
          rw [show refOfV ((a0 + a1) / 86400) ((a0 + a1) % 86400) = .tuple #[civ ((a0 + a1) / 86400) ((a0 + a1) % 86400), .bool true] from if_pos hy] at R
          clear hy
          obtain ⟨c1, c2, c3, c4, c5, c6, c7, c8, E⟩ := civ_ex ((a0 + a1) / 86400) ((a0 + a1) % 86400)
          rw [E] at H R
          clear E
          go_enter Try.func3, Try.ntmps3
          go_wp2_with fail
          refine (wakes_any _).mono ?_
          rintro e w1 ⟨rfl, hb1⟩
          have z1 := hb1.size
          go_wp2_with fail
          refine (H _).mono ?_
          rintro e w2 ⟨rfl, hb2⟩
          have z2 := hb2.size
          go_wp2_with fail
          refine (floor_any _ (by omega) (by omega) _).mono ?_
          rintro e w3 ⟨rfl, rfl⟩
          go_wp2_with fail
          refine (R _).mono ?_
          rintro e w3 ⟨rfl, hb3⟩
          have z3 : w2.heap.size < w3.heap.size := by have := hb3.size; simp at this; omega
          obtain ⟨hc3, hf3⟩ := bcell hb3
          go_wp2_with fail
          go_ret
          exact ⟨rfl, by (repeat' (first | (with_reducible exact Below.refl _ _) | (with_reducible refine Below.alloc ?_ ?_ _) | (with_reducible refine Below.trans ?_ (hb3.mono ?_)) | (with_reducible refine Below.trans ?_ (hb2.mono ?_)) | (with_reducible exact hb1) | omega | (simp; omega)))⟩
        · rw [show ofV a0 a1 = .tuple #[civ0, .int .i64 7] by unfold ofV; rw [if_pos ⟨ho1, ho2⟩, if_pos ⟨ht1, ht2⟩, if_neg hy]] at H
          rw [show refOfV ((a0 + a1) / 86400) ((a0 + a1) % 86400) = .tuple #[civ0, .bool false] from if_neg hy] at R
          clear hy
          unfold civ0 at H R
          go_enter Try.func3, Try.ntmps3
          go_wp2_with fail
          refine (wakes_any _).mono ?_
          rintro e w1 ⟨rfl, hb1⟩
          have z1 := hb1.size
          go_wp2_with fail
          refine (H _).mono ?_
          rintro e w2 ⟨rfl, hb2⟩
          have z2 := hb2.size
          go_wp2_with fail
          refine (floor_any _ (by omega) (by omega) _).mono ?_
          rintro e w3 ⟨rfl, rfl⟩
          go_wp2_with fail
          refine (R _).mono ?_
          rintro e w3 ⟨rfl, hb3⟩
          have z3 : w2.heap.size < w3.heap.size := by have := hb3.size; simp at this; omega
          obtain ⟨hc3, hf3⟩ := bcell hb3
          go_wp2_with fail
          go_ret
          exact ⟨rfl, by (repeat' (first | (with_reducible exact Below.refl _ _) | (with_reducible refine Below.alloc ?_ ?_ _) | (with_reducible refine Below.trans ?_ (hb3.mono ?_)) | (with_reducible refine Below.trans ?_ (hb2.mono ?_)) | (with_reducible exact hb1) | omega | (simp; omega)))⟩
      · have H := Of_any a0 a1
        rw [show ofV a0 a1 = .tuple #[civ0, .int .i64 7] by unfold ofV; rw [if_pos ⟨ho1, ho2⟩, if_neg ht]] at H
        by_cases hp : 0 ≤ a0
        · by_cases e1 : (a0 + a1) / 86400 ≤ 1073741824
          · have e2 : -1073741824 ≤ (a0 + a1) / 86400 := by omega
            have R := refOf ((a0 + a1) / 86400) ((a0 + a1) % 86400) (by omega) (by omega) (by omega) (by omega)
            rw [show refOfV ((a0 + a1) / 86400) ((a0 + a1) % 86400) = .tuple #[civ0, .bool false] from if_neg (far _ (by omega))] at R
            clear ht
            unfold civ0 at H R
            go_enter Try.func3, Try.ntmps3
            go_wp2_with fail
            refine (wakes_any _).mono ?_
            rintro e w1 ⟨rfl, hb1⟩
            have z1 := hb1.size
            go_wp2_with fail
            refine (H _).mono ?_
            rintro e w2 ⟨rfl, hb2⟩
            have z2 := hb2.size
            go_wp2_with fail
            refine (floor_any _ (by omega) (by omega) _).mono ?_
            rintro e w3 ⟨rfl, rfl⟩
            go_wp2_with fail
            refine (R _).mono ?_
            rintro e w3 ⟨rfl, hb3⟩
            have z3 : w2.heap.size < w3.heap.size := by have := hb3.size; simp at this; omega
            obtain ⟨hc3, hf3⟩ := bcell hb3
            go_wp2_with fail
            go_ret
            exact ⟨rfl, by (repeat' (first | (with_reducible exact Below.refl _ _) | (with_reducible refine Below.alloc ?_ ?_ _) | (with_reducible refine Below.trans ?_ (hb3.mono ?_)) | (with_reducible refine Below.trans ?_ (hb2.mono ?_)) | (with_reducible exact hb1) | omega | (simp; omega)))⟩
          · have e2 : -1073741824 ≤ (a0 + a1) / 86400 := by omega
            have R := refOf 1073741824 ((a0 + a1) % 86400) (by omega) (by omega) (by omega) (by omega)
            rw [show refOfV 1073741824 ((a0 + a1) % 86400) = .tuple #[civ0, .bool false] from if_neg (far _ (by omega))] at R
            clear ht
            unfold civ0 at H R
            go_enter Try.func3, Try.ntmps3
            go_wp2_with fail
            refine (wakes_any _).mono ?_
            rintro e w1 ⟨rfl, hb1⟩
            have z1 := hb1.size
            go_wp2_with fail
            refine (H _).mono ?_
            rintro e w2 ⟨rfl, hb2⟩
            have z2 := hb2.size
            go_wp2_with fail
            refine (floor_any _ (by omega) (by omega) _).mono ?_
            rintro e w3 ⟨rfl, rfl⟩
            go_wp2_with fail
            refine (R _).mono ?_
            rintro e w3 ⟨rfl, hb3⟩
            have z3 : w2.heap.size < w3.heap.size := by have := hb3.size; simp at this; omega
            obtain ⟨hc3, hf3⟩ := bcell hb3
            go_wp2_with fail
            go_ret
            exact ⟨rfl, by (repeat' (first | (with_reducible exact Below.refl _ _) | (with_reducible refine Below.alloc ?_ ?_ _) | (with_reducible refine Below.trans ?_ (hb3.mono ?_)) | (with_reducible refine Below.trans ?_ (hb2.mono ?_)) | (with_reducible exact hb1) | omega | (simp; omega)))⟩
        · by_cases e2 : -1073741824 ≤ (a0 + a1) / 86400
          · have e1 : (a0 + a1) / 86400 ≤ 1073741824 := by omega
            have R := refOf ((a0 + a1) / 86400) ((a0 + a1) % 86400) (by omega) (by omega) (by omega) (by omega)
            rw [show refOfV ((a0 + a1) / 86400) ((a0 + a1) % 86400) = .tuple #[civ0, .bool false] from if_neg (far _ (by omega))] at R
            clear ht
            unfold civ0 at H R
            go_enter Try.func3, Try.ntmps3
            go_wp2_with fail
            refine (wakes_any _).mono ?_
            rintro e w1 ⟨rfl, hb1⟩
            have z1 := hb1.size
            go_wp2_with fail
            refine (H _).mono ?_
            rintro e w2 ⟨rfl, hb2⟩
            have z2 := hb2.size
            go_wp2_with fail
            refine (floor_any _ (by omega) (by omega) _).mono ?_
            rintro e w3 ⟨rfl, rfl⟩
            go_wp2_with fail
            refine (R _).mono ?_
            rintro e w3 ⟨rfl, hb3⟩
            have z3 : w2.heap.size < w3.heap.size := by have := hb3.size; simp at this; omega
            obtain ⟨hc3, hf3⟩ := bcell hb3
            go_wp2_with fail
            go_ret
            exact ⟨rfl, by (repeat' (first | (with_reducible exact Below.refl _ _) | (with_reducible refine Below.alloc ?_ ?_ _) | (with_reducible refine Below.trans ?_ (hb3.mono ?_)) | (with_reducible refine Below.trans ?_ (hb2.mono ?_)) | (with_reducible exact hb1) | omega | (simp; omega)))⟩
          · have e1 : (a0 + a1) / 86400 ≤ 1073741824 := by omega
            have R := refOf (-1073741824) ((a0 + a1) % 86400) (by omega) (by omega) (by omega) (by omega)
            rw [show refOfV (-1073741824) ((a0 + a1) % 86400) = .tuple #[civ0, .bool false] from if_neg (far _ (by omega))] at R
            clear ht
            unfold civ0 at H R
            go_enter Try.func3, Try.ntmps3
            go_wp2_with fail
            refine (wakes_any _).mono ?_
            rintro e w1 ⟨rfl, hb1⟩
            have z1 := hb1.size
            go_wp2_with fail
            refine (H _).mono ?_
            rintro e w2 ⟨rfl, hb2⟩
            have z2 := hb2.size
            go_wp2_with fail
            refine (floor_any _ (by omega) (by omega) _).mono ?_
            rintro e w3 ⟨rfl, rfl⟩
            go_wp2_with fail
            refine (R _).mono ?_
            rintro e w3 ⟨rfl, hb3⟩
            have z3 : w2.heap.size < w3.heap.size := by have := hb3.size; simp at this; omega
            obtain ⟨hc3, hf3⟩ := bcell hb3
            go_wp2_with fail
            go_ret
            exact ⟨rfl, by (repeat' (first | (with_reducible exact Below.refl _ _) | (with_reducible refine Below.alloc ?_ ?_ _) | (with_reducible refine Below.trans ?_ (hb3.mono ?_)) | (with_reducible refine Below.trans ?_ (hb2.mono ?_)) | (with_reducible exact hb1) | omega | (simp; omega)))⟩
    · obtain ⟨ho1, ho2⟩ := ho
      have H := Of_any a0 a1
      rw [show ofV a0 a1 = .tuple #[civ0, .int .i64 7] by unfold ofV; rw [if_pos ⟨ho1, ho2⟩, if_neg (by omega)]] at H
      unfold civ0 at H
      by_cases h1 : -1152921504606846976 ≤ a0
      · have h2 : ¬ a0 ≤ 1152921504606846976 := by omega
        clear hs
        go_enter Try.func3, Try.ntmps3
        go_wp2_with fail
        refine (wakes_any _).mono ?_
        rintro e w1 ⟨rfl, hb1⟩
        have z1 := hb1.size
        go_wp2_with fail
        refine (H _).mono ?_
        rintro e w2 ⟨rfl, hb2⟩
        have z2 := hb2.size
        go_wp2_with fail
        go_ret
        exact ⟨rfl, (hb1.trans (hb2.mono z1)).alloc (Nat.le_trans z1 z2) _⟩
      · clear hs
        go_enter Try.func3, Try.ntmps3
        go_wp2_with fail
        refine (wakes_any _).mono ?_
        rintro e w1 ⟨rfl, hb1⟩
        have z1 := hb1.size
        go_wp2_with fail
        refine (H _).mono ?_
        rintro e w2 ⟨rfl, hb2⟩
        have z2 := hb2.size
        go_wp2_with fail
        go_ret
        exact ⟨rfl, (hb1.trans (hb2.mono z1)).alloc (Nat.le_trans z1 z2) _⟩
  · have H := Of_any a0 a1
    rw [show ofV a0 a1 = .tuple #[civ0, .int .i64 2] from if_neg ho] at H
    unfold civ0 at H
    by_cases h1 : -86399 ≤ a1
    · have h2 : ¬ a1 ≤ 86399 := by omega
      clear ho
      go_enter Try.func3, Try.ntmps3
      go_wp2_with fail
      refine (wakes_any _).mono ?_
      rintro e w1 ⟨rfl, hb1⟩
      have z1 := hb1.size
      go_wp2_with fail
      refine (H _).mono ?_
      rintro e w2 ⟨rfl, hb2⟩
      have z2 := hb2.size
      go_wp2_with fail
      go_ret
      exact ⟨rfl, (hb1.trans (hb2.mono z1)).alloc (Nat.le_trans z1 z2) _⟩
    · clear ho
      go_enter Try.func3, Try.ntmps3
      go_wp2_with fail
      refine (wakes_any _).mono ?_
      rintro e w1 ⟨rfl, hb1⟩
      have z1 := hb1.size
      go_wp2_with fail
      refine (H _).mono ?_
      rintro e w2 ⟨rfl, hb2⟩
      have z2 := hb2.size
      go_wp2_with fail
      go_ret
      exact ⟨rfl, (hb1.trans (hb2.mono z1)).alloc (Nat.le_trans z1 z2) _⟩

/-! ### THE ROW's STEP: WRITTEN OUT: LEAVE IT -/
set_option maxRecDepth 100000 in
theorem lifted (os : Os) (started : os.Started) (H : Type) (enc : TypeId × Value → H) :
    ReturnsInHanded {} Try.checked os 3 .any (Rows.civilOfSpec.pre6 enc Try.prog Try.f3 Rows.civilOfRow.domain false) (Rows.civilOfSpec.post enc Try.prog Try.f3 false true false false) := by
  refine returnsInHanded_of_change (C := Try.checked) own started (by kernel_rfl) Try.func3
    (ChangeSpec.witness6 (enc := enc) (C := Try.checked) false ⟨#[], #[.int .i64 0, .int .i64 0], []⟩ 8 (by kernel_rfl) (by kernel_rfl) (by kernel_rfl) (by kernel_rfl)) ?_
  intro W base args ds gs before hval0 hW hcnd _
  have hval : ∀ (j : Nat) t v, Try.f3.params[j]? = some t → args[j]? = some v → Value.okWide Try.prog W .any base t v := hval0
  have hW' := hW
  obtain ⟨p, q, hA0, hV, rfl, hfz, hnd⟩ := hW
  have hA : DataW.TrodAll enc Try.prog W 0 (fun _ => true) true Try.f3.params.toList args.toList ds p := hA0
  rw [Try.params3] at hA hval
  obtain ⟨v0, vs0, d0, ds0, p0, q0, hargs, rfl, rfl, h0, r0⟩ := trodAll_cons hA
  obtain ⟨v1, vs1, d1, ds1, p1, q1, rfl, rfl, rfl, h1, r1⟩ := trodAll_cons r0
  obtain ⟨rfl, rfl, rfl⟩ := trodAll_nil r1
  obtain rfl : args = #[v0, v1] := by cases args; simp_all
  obtain ⟨rfl, rfl⟩ := trodVars_none hV
  obtain ⟨a0, rfl, rfl, rfl, w0⟩ := open_int Try.underlying2 (hval 0 2 v0 rfl rfl) h0
  obtain ⟨a1, rfl, rfl, rfl, w1⟩ := open_int Try.underlying3 (hval 1 3 v1 rfl rfl) h1
  clear hA0 hval0
  simp only [List.append_nil] at hW'
  refine (walk a0 a1 w0 w1 W).mono fun e W' ⟨he, hg⟩ => ?_
  subst he
  exact ⟨_, rfl, post_of_below (pa := []) (pv := []) hW' (fun _ _ _ => (trodAll_cons_mk (shut_bool Try.underlying4 _) trodAll_mk0)) (fun sp _ => (trodAll_cons_mk (shut_int Try.underlying2 w0) (trodAll_cons_mk (shut_int Try.underlying3 w1) trodAll_mk0))) (fun _ _ => rfl) rfl
    hg (ok_one (by kernel_rfl) rfl (okWide_bool_mk Try.underlying4 _))⟩

theorem over : Rows.civilOfRow.holds Try.pinned (OpenSpec.ofChange Rows.civilOfSpec) :=
  OpenClaim.holds_of_wide 3 Try.f3 rfl rfl rfl rfl rfl rfl rfl ⟨rfl, rfl, rfl, rfl, rfl⟩ rfl rfl rfl rfl rfl (by kernel_rfl) Try.func3 (by kernel_rfl)
    (of_decide_eq_true (by kernel_rfl)) (by unfold Func.isWrapper; first | (rw [if_pos (by decide +kernel)]; kernel_rfl) | (rw [if_neg (by decide +kernel)]; exact ⟨rfl, rfl⟩))
    (fun os started H enc _ => lifted os started H enc)

/-- ████ THE STATEMENT ████ -/
theorem proved : Rows.CivilOfSaid :=
  over
#print axioms proved
end Go.Proofs.Ytafoodfbjebdcaa.civilOf
