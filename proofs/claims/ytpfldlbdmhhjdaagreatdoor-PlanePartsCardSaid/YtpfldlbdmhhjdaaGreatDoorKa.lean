/-
  PlaneParts: the row and its tied card. No condition.
-/
import Derived.Test.YtpfldlbdmhhjdaaGreatDoorPn
import Derived.Test.YtpfldlbdmhhjdaaGreatDoorKf
import Derived.Test.YtpfldlbdmhhjdaaGreatDoorKg
import Derived.Test.YtpfldlbdmhhjdaaGreatDoorChecked
import Derived.Test.YtpfldlbdmhhjdaaGreatDoorTie
import Derived.Test.YtpfldlbdmhhjdaaGreatDoorCards
import Derived.WalkKit
import Derived.ProofKit
import Derived.LaidMore
import Derived.LaidLaws
import Derived.OpenShut
import Derived.Lib.SmallJoins
import Derived.SevenTiedAt
import Derived.SizedLaws
import Derived.Lay
namespace Go.Proofs.YtpfldlbdmhhjdaaGreatDoor
open Go.ChangeShapes Go.WideShapes Go.ChangeAt Go.RowKit Go.ChangeMaps Go.Vx
theorem own : ownKnob Tryz.prog.godebug = none := by kernel_rfl
theorem gPowT : (Tryz.prog.globals[1]?).map (·.type) = some 227 := by kernel_rfl
theorem cell227 : Tryz.prog.cellsOf 227 = 20 := by kernel_rfl
theorem cell22 : Tryz.prog.cellsOf 22 = 1 := by kernel_rfl
theorem gSyntax : Tryz.prog.globalNamed "strconv.ErrSyntax" = some 8 := by kernel_rfl
theorem gSyntaxT : (Tryz.prog.globals[8]?).map (·.type) = some 125 := by kernel_rfl
theorem cell24 : Tryz.prog.cellsOf 24 = 2 := by kernel_rfl
def listed : List (String × DataW Unit) := Rows.planePartsRow.laid
theorem cell_of {W : World} {n : String} {g : Nat} {cs : Array Value} {fuel : Nat} {nm : String} {d : DataW Unit} {p : List MemPlace} (hg : Tryz.prog.globalNamed n = some g) (hv : W.var? Tryz.prog n = some cs)
    (hd : DataW.trod (fun _ => ()) Tryz.prog W 0 (fun _ => true) false fuel 125 cs.toList = some (.iface nm d, p)) : ∃ te pe, W.cell? ⟨g, 0, none⟩ = some (.iface te pe) := by
  obtain ⟨_, u, v, hcs, _⟩ := iface_of_trod Tryz.underlying125 hd
  refine ⟨u, v, (World.var?_cell hg hv 0).trans ?_⟩
  rw [← Array.getElem?_toList, hcs]; rfl
theorem glob_of_laid {W : World} (h : laidMetH Tryz.prog listed W) : Glob W := by
  rw [MakeChecks.laidMetH_plain _ _ _ (by kernel_rfl)] at h
  obtain ⟨ps, ⟨_, _, _, _, _, _, _, _, _, _, ⟨_, _, _, _, _, _, _, _, _, _, ⟨g3, t3, cs3, f3, p3, _, hg3, ht3, hv3, hd3, ⟨_, _, _, _, _, _, _, _, _, _, ⟨_, _, _, _, _, _, _, _, _, _, ⟨g6, t6, cs6, f6, p6, _, hg6, ht6, hv6, hd6, _, _⟩, _⟩, _⟩, _⟩, _⟩, _⟩, _⟩ := h
  obtain rfl := Option.some.inj (gPow.symm.trans hg3)
  obtain rfl := Option.some.inj (gPowT.symm.trans ht3)
  obtain rfl := Option.some.inj (gSyntax.symm.trans hg6)
  obtain rfl := Option.some.inj (gSyntaxT.symm.trans ht6)
  refine ⟨?_, cell_of gSyntax hv6 hd6⟩
  unfold Lib.TabIs
  rw [hv3]
  congr 1
  have := Lib.cells_of_tab (k := .u64) (zs := Lib.pow10Tab) Tryz.underlying227 Tryz.underlying22 cell22 cell227 (h := hd3)
  exact Array.ext' this
namespace planeParts
set_option maxRecDepth 100000 in
theorem lifted (os : Os) (started : os.Started) (H : Type) (enc : TypeId × Value → H) :
    ReturnsInHanded {} Tryz.checked os 3 .any (fun w args => (Rows.planePartsSpec.pre enc Tryz.prog Tryz.f3 [] false w args ∧ laidMetH Tryz.prog listed w) ∧ sizedMet enc Tryz.prog Tryz.f3 (OpenSpec.ofChange Rows.planePartsSpec) false w args)
      (Rows.planePartsSpec.post enc Tryz.prog Tryz.f3 false true false false) := by
  refine returnsInHanded_of_change_and (C := Tryz.checked) (X := fun w _ => laidMetH Tryz.prog listed w) (fun _ _ _ hh h => h.of_heap hh) own started (by kernel_rfl) Tryz.func3
    (ChangeSpec.witness_shaped (enc := enc) (C := Tryz.checked) (os := os) (X := fun w _ => laidMetH Tryz.prog listed w) false (World.laidAll Tryz.prog os listed) #[.agg #[.int .u64 0, .int .u64 0], .int .i64 0] 8 (World.laidAll_os _ _ _)
      (World.shaped_of_ZipB (by kernel_rfl) (by kernel_rfl)) (by kernel_rfl) (by kernel_rfl) (by kernel_rfl)
      (by rw [MakeChecks.laidMetH_plain _ _ _ (by kernel_rfl)]; exact laidMet_laidAll _ (by kernel_rfl) (by kernel_rfl))) ?_
  intro W base args ds gs before hval0 hW _ hsz0 hL _
  have hval : ∀ (j : Nat) t v, Tryz.f3.params[j]? = some t → args[j]? = some v → Value.okWide Tryz.prog W .any base t v := hval0
  have hW' := hW
  obtain ⟨p, q, hA0, hV, rfl, hfz, hnd⟩ := hW
  have hA : DataW.TrodAll enc Tryz.prog W 0 (fun _ => true) true Tryz.f3.params.toList args.toList ds p := hA0
  rw [Tryz.params3] at hA hval
  obtain ⟨v0, vs0, d0, ds0, p0, q0, hargs, rfl, rfl, h0, r0⟩ := trodAll_cons hA
  obtain ⟨v1, vs1, d1, ds1, p1, q1, rfl, rfl, rfl, h1, r1⟩ := trodAll_cons r0
  obtain ⟨rfl, rfl, rfl⟩ := trodAll_nil r1
  obtain rfl : args = #[v0, v1] := by cases args; simp_all
  obtain ⟨rfl, rfl⟩ := trodVars_none hV
  obtain ⟨c0_b, c1_b, y0_b, y1_b, m_b, rfl, rfl, rfl, hy0_b, hy1_b⟩ := Joins.open_agg2 Tryz.underlying24 (by kernel_rfl) cell24 (hval 0 24 v0 rfl rfl) h0
  obtain ⟨b0, e0_b, rfl, w0_b⟩ := DataW.trod_int Tryz.underlying22 hy0_b
  obtain rfl : c0_b = .int .u64 b0 := by simpa using e0_b
  obtain ⟨b1, e1_b, rfl, w1_b⟩ := DataW.trod_int Tryz.underlying22 hy1_b
  obtain rfl : c1_b = .int .u64 b1 := by simpa using e1_b
  obtain ⟨d, rfl, rfl, rfl, wf_d⟩ := open_int Tryz.underlying3 (hval 1 3 v1 rfl rfl) h1
  have bd_d := bounds_i64 wf_d
  have hsz : (DataW.weightsEach Tryz.prog (Tryz.f3.params.toList ++ Rows.planePartsSpec.plain.varTypes Tryz.prog) ([.agg [.lit (.int .u64 b0), .lit (.int .u64 b1)], .lit (.int .i64 d)] ++ [])).all (· ≤ reachBytes) = true := hsz0
  have hg := glob_of_laid hL
  clear hA0 hval0
  simp only [List.append_nil] at hW'
  refine (partsLaw_yes b0 b1 w0_b w1_b d bd_d W hg).mono fun e W' ⟨he, hb⟩ => ?_
  subst he
  exact ⟨_, rfl, post_of_below (pa := []) (pv := []) hW' (fun _ _ _ => (trodAll_cons_mk (shut_bool Tryz.underlying4 _) trodAll_mk0)) (fun sp _ => trodAll_cons_mk (Joins.shut_agg2 (y0 := (.lit (.int .u64 b0), [])) (y1 := (.lit (.int .u64 b1), [])) Tryz.underlying24 (by kernel_rfl) cell24 ⟨1, by simp [DataW.trod, Tryz.underlying22, w0_b]⟩ ⟨1, by simp [DataW.trod, Tryz.underlying22, w1_b]⟩) (trodAll_cons_mk (shut_int Tryz.underlying3 wf_d) trodAll_mk0)) (fun _ _ => rfl) rfl
    hb (ok_one (by kernel_rfl) rfl (okWide_bool_mk Tryz.underlying4 _))⟩
theorem facts : joinedFacts Tryz.pinned.checked.prog 3 Tryz.f3 Rows.planePartsSpec Rows.planePartsRow = true := by
  unfold joinedFacts
  rw [fact1, fact2, fact3, fact4, fact5, fact6, fact7, fact8, fact9, fact10, fact11, fact12, fact13]
  kernel_rfl
theorem over : Rows.PlanePartsSaid :=
  OpenClaim.holds_of_wide 3 Tryz.f3 rfl rfl rfl rfl rfl rfl rfl ⟨rfl, rfl, rfl, rfl, rfl⟩ rfl rfl rfl rfl rfl (by kernel_rfl) Tryz.func3 facts
    (of_decide_eq_true (by kernel_rfl)) (by unfold Func.isWrapper; first | (rw [if_pos (by decide +kernel)]; kernel_rfl) | (rw [if_neg (by decide +kernel)]; exact ⟨rfl, rfl⟩))
    (fun os started H enc _ => lifted os started H enc)
theorem plain (f : FuncId) (fn : Func) (hf : Tryz.pinned.checked.prog.funcNamed "vernacular/vernacularlaw29.PlaneParts" = some f) (hfn : Tryz.pinned.checked.prog.funcs[f]? = some fn) :
    true = Tryz.pinned.checked.prog.looks [] ∧ ∀ (j : Nat) t, fn.params[j]? = some t → Tryz.pinned.checked.prog.wantsStandIn t = false := by
  obtain rfl : f = 3 := Option.some.inj ((show Tryz.prog.funcNamed "vernacular/vernacularlaw29.PlaneParts" = some 3 by kernel_rfl).symm.trans hf) |>.symm
  obtain rfl : fn = Tryz.f3 := (Option.some.inj (Tryz.func3.symm.trans hfn)).symm
  refine ⟨by kernel_rfl, fun j t ht => ?_⟩
  rw [Tryz.params3] at ht
  have hm : t ∈ [24, 3] := by simpa using Array.mem_of_getElem? ht
  have hall : ([24, 3].all fun u => !Tryz.prog.wantsStandIn u) = true := by kernel_rfl
  exact (show Tryz.prog.wantsStandIn t = false by simpa using List.all_eq_true.1 hall t hm)
theorem proved : Rows.PlanePartsCardSaid :=
  Claim7.holds_tied_plain_at .later [] _ _ _ _ over (fun _ h => by cases h) (by kernel_rfl) (fun _ h => by cases h) planeParts_row_tie rfl ⟨rfl, rfl⟩ (by kernel_rfl) rfl plain (by kernel_rfl)
#print axioms proved
end planeParts
end Go.Proofs.YtpfldlbdmhhjdaaGreatDoor
