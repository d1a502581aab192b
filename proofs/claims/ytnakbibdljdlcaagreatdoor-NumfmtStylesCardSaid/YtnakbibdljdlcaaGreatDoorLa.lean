/-
  NumfmtStyles: the row and its tied card. No condition.
-/
import Derived.Test.YtnakbibdljdlcaaGreatDoorPi
import Derived.Test.YtnakbibdljdlcaaGreatDoorLf
import Derived.Test.YtnakbibdljdlcaaGreatDoorLg
import Derived.Test.YtnakbibdljdlcaaGreatDoorChecked
import Derived.Test.YtnakbibdljdlcaaGreatDoorTie
import Derived.Test.YtnakbibdljdlcaaGreatDoorCards
import Derived.WalkKit
import Derived.ProofKit
import Derived.LaidMore
import Derived.LaidLaws
import Derived.OpenShut
import Derived.SevenTiedAt
import Derived.SizedLaws
import Derived.Lay
namespace Go.Proofs.YtnakbibdljdlcaaGreatDoor
open Go.ChangeShapes Go.WideShapes Go.ChangeAt Go.RowKit Go.ChangeMaps Go.Vx
theorem own : ownKnob Tryz.prog.godebug = none := by kernel_rfl
theorem gRange : Tryz.prog.globalNamed "strconv.ErrRange" = some 4 := by kernel_rfl
theorem gSyntax : Tryz.prog.globalNamed "strconv.ErrSyntax" = some 3 := by kernel_rfl
theorem gRangeT : (Tryz.prog.globals[4]?).map (·.type) = some 67 := by kernel_rfl
theorem gSyntaxT : (Tryz.prog.globals[3]?).map (·.type) = some 67 := by kernel_rfl
theorem gPowT : (Tryz.prog.globals[5]?).map (·.type) = some 251 := by kernel_rfl
theorem cell251 : Tryz.prog.cellsOf 251 = 20 := by kernel_rfl
theorem cell169 : Tryz.prog.cellsOf 169 = 1 := by kernel_rfl
def listed : List (String × DataW Unit) := Rows.numfmtStylesRow.laid
theorem cell_of {W : World} {n : String} {g : Nat} {cs : Array Value} {fuel : Nat} {nm : String} {d : DataW Unit} {p : List MemPlace} (hg : Tryz.prog.globalNamed n = some g) (hv : W.var? Tryz.prog n = some cs)
    (hd : DataW.trod (fun _ => ()) Tryz.prog W 0 (fun _ => true) false fuel 67 cs.toList = some (.iface nm d, p)) : ∃ te pe, W.cell? ⟨g, 0, none⟩ = some (.iface te pe) := by
  obtain ⟨_, u, v, hcs, _⟩ := iface_of_trod Tryz.underlying67 hd
  refine ⟨u, v, (World.var?_cell hg hv 0).trans ?_⟩
  rw [← Array.getElem?_toList, hcs]; rfl
theorem glob_of_laid {W : World} (h : laidMetH Tryz.prog listed W) : Glob W := by
  rw [MakeChecks.laidMetH_plain _ _ _ (by kernel_rfl)] at h
  obtain ⟨ps, ⟨_, _, _, _, _, _, _, _, _, _, ⟨_, _, _, _, _, _, _, _, _, _, ⟨g3, t3, cs3, f3, p3, _, hg3, ht3, hv3, hd3, ⟨_, _, _, _, _, _, _, _, _, _, ⟨g5, t5, cs5, f5, p5, _, hg5, ht5, hv5, hd5, ⟨g6, t6, cs6, f6, p6, _, hg6, ht6, hv6, hd6, _, _⟩, _⟩, _⟩, _⟩, _⟩, _⟩, _⟩ := h
  obtain rfl := Option.some.inj (gPow.symm.trans hg3)
  obtain rfl := Option.some.inj (gPowT.symm.trans ht3)
  obtain rfl := Option.some.inj (gRange.symm.trans hg5)
  obtain rfl := Option.some.inj (gRangeT.symm.trans ht5)
  obtain rfl := Option.some.inj (gSyntax.symm.trans hg6)
  obtain rfl := Option.some.inj (gSyntaxT.symm.trans ht6)
  refine ⟨?_, cell_of gSyntax hv6 hd6, cell_of gRange hv5 hd5⟩
  unfold Lib.TabIs
  rw [hv3]
  congr 1
  have := Lib.cells_of_tab (k := .u64) (zs := Lib.pow10Tab) Tryz.underlying251 Tryz.underlying169 cell169 cell251 (h := hd3)
  exact Array.ext' this
namespace numfmtStyles
set_option maxRecDepth 100000 in
theorem lifted (os : Os) (started : os.Started) (H : Type) (enc : TypeId × Value → H) :
    ReturnsInHanded {} Tryz.checked os 3 .any (fun w args => (Rows.numfmtStylesSpec.pre enc Tryz.prog Tryz.f3 [] false w args ∧ laidMetH Tryz.prog listed w) ∧ sizedMet enc Tryz.prog Tryz.f3 (OpenSpec.ofChange Rows.numfmtStylesSpec) false w args)
      (Rows.numfmtStylesSpec.post enc Tryz.prog Tryz.f3 false true false false) := by
  refine returnsInHanded_of_change_and (C := Tryz.checked) (X := fun w _ => laidMetH Tryz.prog listed w) (fun _ _ _ hh h => h.of_heap hh) own started (by kernel_rfl) Tryz.func3
    (ChangeSpec.witness_shaped (enc := enc) (C := Tryz.checked) (os := os) (X := fun w _ => laidMetH Tryz.prog listed w) false (World.laidAll Tryz.prog os listed) #[.string ⟨#[]⟩] 8 (World.laidAll_os _ _ _)
      (World.shaped_of_ZipB (by kernel_rfl) (by kernel_rfl)) (by kernel_rfl) (by kernel_rfl) (by kernel_rfl)
      (by rw [MakeChecks.laidMetH_plain _ _ _ (by kernel_rfl)]; exact laidMet_laidAll _ (by kernel_rfl) (by kernel_rfl))) ?_
  intro W base args ds gs before hval0 hW _ hsz0 hL _
  have hval : ∀ (j : Nat) t v, Tryz.f3.params[j]? = some t → args[j]? = some v → Value.okWide Tryz.prog W .any base t v := hval0
  have hW' := hW
  obtain ⟨p, q, hA0, hV, rfl, hfz, hnd⟩ := hW
  have hA : DataW.TrodAll enc Tryz.prog W 0 (fun _ => true) true Tryz.f3.params.toList args.toList ds p := hA0
  rw [Tryz.params3] at hA hval
  obtain ⟨v0, d0, rfl, rfl, h0⟩ := trodAll_one hA
  obtain ⟨rfl, rfl⟩ := trodVars_none hV
  obtain ⟨s, rfl, rfl, rfl, hmx⟩ := open_string Tryz.underlying9 (hval 0 9 v0 rfl rfl) h0
  have hsz : (DataW.weightsEach Tryz.prog (Tryz.f3.params.toList ++ Rows.numfmtStylesSpec.plain.varTypes Tryz.prog) ([.lit (.string s.data.toList)] ++ [])).all (· ≤ reachBytes) = true := hsz0
  have hs : s.size ≤ 281474976710656 := Nat.le_trans (sized_string (j := 0) (t := 9) hsz (by rw [Tryz.params3]; rfl) rfl) (by decide)
  have hg := glob_of_laid hL
  clear hA0 hval0
  simp only [List.append_nil] at hW'
  refine (styles_yes s hs W hg).mono fun e W' ⟨he, hb⟩ => ?_
  subst he
  exact ⟨_, rfl, post_of_below (pa := []) (pv := []) hW' (fun _ _ _ => (trodAll_cons_mk (shut_bool Tryz.underlying4 _) trodAll_mk0)) (fun sp _ => trodAll_cons_mk (shut_string Tryz.underlying9 hmx) trodAll_mk0) (fun _ _ => rfl) rfl
    hb (ok_one (by kernel_rfl) rfl (okWide_bool_mk Tryz.underlying4 _))⟩
theorem facts : joinedFacts Tryz.pinned.checked.prog 3 Tryz.f3 Rows.numfmtStylesSpec Rows.numfmtStylesRow = true := by
  unfold joinedFacts
  rw [fact1, fact2, fact3, fact4, fact5, fact6, fact7, fact8, fact9, fact10, fact11, fact12, fact13]
  kernel_rfl
theorem over : Rows.NumfmtStylesSaid :=
  OpenClaim.holds_of_wide 3 Tryz.f3 rfl rfl rfl rfl rfl rfl rfl ⟨rfl, rfl, rfl, rfl, rfl⟩ rfl rfl rfl rfl rfl (by kernel_rfl) Tryz.func3 facts
    (of_decide_eq_true (by kernel_rfl)) (by unfold Func.isWrapper; first | (rw [if_pos (by decide +kernel)]; kernel_rfl) | (rw [if_neg (by decide +kernel)]; exact ⟨rfl, rfl⟩))
    (fun os started H enc _ => lifted os started H enc)
theorem plain (f : FuncId) (fn : Func) (hf : Tryz.pinned.checked.prog.funcNamed "vernacular/vernacularlaw25.NumfmtStyles" = some f) (hfn : Tryz.pinned.checked.prog.funcs[f]? = some fn) :
    true = Tryz.pinned.checked.prog.looks [] ∧ ∀ (j : Nat) t, fn.params[j]? = some t → Tryz.pinned.checked.prog.wantsStandIn t = false := by
  obtain rfl : f = 3 := Option.some.inj ((show Tryz.prog.funcNamed "vernacular/vernacularlaw25.NumfmtStyles" = some 3 by kernel_rfl).symm.trans hf) |>.symm
  obtain rfl : fn = Tryz.f3 := (Option.some.inj (Tryz.func3.symm.trans hfn)).symm
  refine ⟨by kernel_rfl, fun j t ht => ?_⟩
  rw [Tryz.params3] at ht
  have hm : t ∈ [9] := by simpa using Array.mem_of_getElem? ht
  have hall : ([9].all fun u => !Tryz.prog.wantsStandIn u) = true := by kernel_rfl
  exact (show Tryz.prog.wantsStandIn t = false by simpa using List.all_eq_true.1 hall t hm)
theorem proved : Rows.NumfmtStylesCardSaid :=
  Claim7.holds_tied_plain_at .later [] _ _ _ _ over (fun _ h => by cases h) (by kernel_rfl) (fun _ h => by cases h) numfmtStyles_row_tie rfl ⟨rfl, rfl⟩ (by kernel_rfl) rfl plain (by kernel_rfl)
#print axioms proved
end numfmtStyles
end Go.Proofs.YtnakbibdljdlcaaGreatDoor
