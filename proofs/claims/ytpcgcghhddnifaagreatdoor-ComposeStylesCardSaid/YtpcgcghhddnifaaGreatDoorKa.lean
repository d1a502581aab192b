/-
  ComposeStyles: the row and its tied card. No condition.
-/
import Derived.Test.YtpcgcghhddnifaaGreatDoorPs
import Derived.Test.YtpcgcghhddnifaaGreatDoorKf
import Derived.Test.YtpcgcghhddnifaaGreatDoorKg
import Derived.Test.YtpcgcghhddnifaaGreatDoorChecked
import Derived.Test.YtpcgcghhddnifaaGreatDoorTie
import Derived.Test.YtpcgcghhddnifaaGreatDoorCards
import Derived.WalkKit
import Derived.ProofKit
import Derived.LaidMore
import Derived.LaidLaws
import Derived.OpenShut
import Derived.Lib.SmallJoins
import Derived.SevenTiedAt
import Derived.SizedLaws
import Derived.Lay
namespace Go.Proofs.YtpcgcghhddnifaaGreatDoor
open Go.ChangeShapes Go.WideShapes Go.ChangeAt Go.RowKit Go.ChangeMaps Go.Vx
theorem own : ownKnob Tryz.prog.godebug = none := by kernel_rfl
theorem gSyntax : Tryz.prog.globalNamed "strconv.ErrSyntax" = some 1 := by kernel_rfl
theorem gSyntaxT : (Tryz.prog.globals[1]?).map (·.type) = some 125 := by kernel_rfl
theorem gSpaceT : (Tryz.prog.globals[5]?).map (·.type) = some 301 := by kernel_rfl
theorem cell301 : Tryz.prog.cellsOf 301 = 256 := by kernel_rfl
theorem cell5 : Tryz.prog.cellsOf 5 = 1 := by kernel_rfl
theorem spaceZ_is : (Rows.laid_strings_asciiSpace : DataW Unit) = Lib.tabData .u8 spaceZ := by kernel_rfl
def listed : List (String × DataW Unit) := Rows.composeStylesRow.laid
theorem cell_of {W : World} {n : String} {g : Nat} {cs : Array Value} {fuel : Nat} {nm : String} {d : DataW Unit} {p : List MemPlace} (hg : Tryz.prog.globalNamed n = some g) (hv : W.var? Tryz.prog n = some cs)
    (hd : DataW.trod (fun _ => ()) Tryz.prog W 0 (fun _ => true) false fuel 125 cs.toList = some (.iface nm d, p)) : ∃ te pe, W.cell? ⟨g, 0, none⟩ = some (.iface te pe) := by
  obtain ⟨_, u, v, hcs, _⟩ := iface_of_trod Tryz.underlying125 hd
  refine ⟨u, v, (World.var?_cell hg hv 0).trans ?_⟩
  rw [← Array.getElem?_toList, hcs]; rfl
theorem glob_of_laid {W : World} (h : laidMetH Tryz.prog listed W) : Glob W := by
  rw [MakeChecks.laidMetH_plain _ _ _ (by kernel_rfl)] at h
  obtain ⟨ps, ⟨_, _, _, _, _, _, _, _, _, _, ⟨_, _, _, _, _, _, _, _, _, _, ⟨_, _, _, _, _, _, _, _, _, _, ⟨_, _, _, _, _, _, _, _, _, _, ⟨_, _, _, _, _, _, _, _, _, _, ⟨g6, t6, cs6, f6, p6, _, hg6, ht6, hv6, hd6, ⟨_, _, _, _, _, _, _, _, _, _, ⟨g8, t8, cs8, f8, p8, _, hg8, ht8, hv8, hd8, _, _⟩, _⟩, _⟩, _⟩, _⟩, _⟩, _⟩, _⟩, _⟩ := h
  obtain rfl := Option.some.inj (gSyntax.symm.trans hg6)
  obtain rfl := Option.some.inj (gSyntaxT.symm.trans ht6)
  obtain rfl := Option.some.inj (gSpace.symm.trans hg8)
  obtain rfl := Option.some.inj (gSpaceT.symm.trans ht8)
  refine ⟨cell_of gSyntax hv6 hd6, ?_⟩
  · obtain ⟨t, fz, hh⟩ := heap_of_var gSpace hv8
    have hd8 : DataW.trod (fun _ => ()) Tryz.prog W 0 (fun _ => true) false f8 301 cs8.toList = some (Rows.laid_strings_asciiSpace, p8) := hd8
    rw [spaceZ_is] at hd8
    have := Lib.cells_of_tab (k := .u8) (zs := spaceZ) Tryz.underlying301 Tryz.underlying5 cell5 cell301 (h := hd8)
    exact ⟨t, fz, cs8, hh, this⟩
namespace composeStyles
set_option maxRecDepth 100000 in
theorem lifted (os : Os) (started : os.Started) (H : Type) (enc : TypeId × Value → H) :
    ReturnsInHanded {} Tryz.checked os 6 .any (fun w args => (Rows.composeStylesSpec.pre enc Tryz.prog Tryz.f6 [] false w args ∧ laidMetH Tryz.prog listed w) ∧ sizedMet enc Tryz.prog Tryz.f6 (OpenSpec.ofChange Rows.composeStylesSpec) false w args)
      (Rows.composeStylesSpec.post enc Tryz.prog Tryz.f6 false true false false) := by
  refine returnsInHanded_of_change_and (C := Tryz.checked) (X := fun w _ => laidMetH Tryz.prog listed w) (fun _ _ _ hh h => h.of_heap hh) own started (by kernel_rfl) Tryz.func6
    (ChangeSpec.witness_shaped (enc := enc) (C := Tryz.checked) (os := os) (X := fun w _ => laidMetH Tryz.prog listed w) false (World.laidAll Tryz.prog os listed) #[.string ⟨#[]⟩] 8 (World.laidAll_os _ _ _)
      (World.shaped_of_ZipB (by kernel_rfl) (by kernel_rfl)) (by kernel_rfl) (by kernel_rfl) (by kernel_rfl)
      (by rw [MakeChecks.laidMetH_plain _ _ _ (by kernel_rfl)]; exact laidMet_laidAll _ (by kernel_rfl) (by kernel_rfl))) ?_
  intro W base args ds gs before hval0 hW _ hsz0 hL _
  have hval : ∀ (j : Nat) t v, Tryz.f6.params[j]? = some t → args[j]? = some v → Value.okWide Tryz.prog W .any base t v := hval0
  have hW' := hW
  obtain ⟨p, q, hA0, hV, rfl, hfz, hnd⟩ := hW
  have hA : DataW.TrodAll enc Tryz.prog W 0 (fun _ => true) true Tryz.f6.params.toList args.toList ds p := hA0
  rw [Tryz.params6] at hA hval
  obtain ⟨v0, d0, rfl, rfl, h0⟩ := trodAll_one hA
  obtain ⟨rfl, rfl⟩ := trodVars_none hV
  obtain ⟨s, rfl, rfl, rfl, mx_s⟩ := open_string Tryz.underlying9 (hval 0 9 v0 rfl rfl) h0
  have hsz : (DataW.weightsEach Tryz.prog (Tryz.f6.params.toList ++ Rows.composeStylesSpec.plain.varTypes Tryz.prog) ([.lit (.string s.data.toList)] ++ [])).all (· ≤ reachBytes) = true := hsz0
  have hs_s : s.size ≤ 281474976710656 := Nat.le_trans (sized_string (j := 0) (t := 9) hsz (by rw [Tryz.params6]; rfl) rfl) (by decide)
  have hg := glob_of_laid hL
  clear hA0 hval0
  simp only [List.append_nil] at hW'
  refine (law_yes s hs_s W hg).mono fun e W' ⟨he, hb⟩ => ?_
  subst he
  exact ⟨_, rfl, post_of_below (pa := []) (pv := []) hW' (fun _ _ _ => (trodAll_cons_mk (shut_bool Tryz.underlying4 _) trodAll_mk0)) (fun sp _ => trodAll_cons_mk (shut_string Tryz.underlying9 mx_s) trodAll_mk0) (fun _ _ => rfl) rfl
    hb (ok_one (by kernel_rfl) rfl (okWide_bool_mk Tryz.underlying4 _))⟩
end composeStyles
end Go.Proofs.YtpcgcghhddnifaaGreatDoor
