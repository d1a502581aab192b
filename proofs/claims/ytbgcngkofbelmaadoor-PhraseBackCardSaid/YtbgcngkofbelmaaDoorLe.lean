/-
  PhraseBack: the row and its tied card. Condition: the cell of the listed variables.
-/
import Derived.Test.YtbgcngkofbelmaaDoorYc
import Derived.Test.YtbgcngkofbelmaaDoorYd
namespace Go.Proofs.YtbgcngkofbelmaaDoor
open Go.RowKit
theorem pback_yes (s : ByteArray) (hs : s.size ≤ 281474976710656) (A : Option Addr) (l : List Ph.Pc) (cc : Nat) (hls : ∀ x ∈ l, x.text.size ≤ 281474976710656) (hcc : l.length ≤ cc) (w : World) (hg : Glob w) (hX : Lists w w.heap.size A l) :
    Calls Tryd.prog 7 #[.string s, .slice A l.length cc] w fun e w' => e = .returned (.bool true) ∧ Below w.heap.size w w' := by
  rcases outcome s with ⟨m, hf⟩ | ⟨a, b, hf⟩
  · exact pback_fine A l cc _ hs hf hls hcc w hg hX (Nat.le_refl _)
  · exact pback_wrong A l cc _ hs hf hls hcc w hg hX (Nat.le_refl _)
namespace phraseBack
open Go.ChangeShapes Go.WideShapes Go.ChangeAt Go.ChangeMaps
set_option maxRecDepth 100000 in
theorem lifted (os : Os) (started : os.Started) (H : Type) (enc : TypeId × Value → H) :
    ReturnsInHanded {} Tryd.checked os 7 .any (fun w args => (Rows.phraseBackSpec.pre enc Tryd.prog Tryd.f7 [] false w args ∧ laidMetH Tryd.prog listed w) ∧ sizedMet enc Tryd.prog Tryd.f7 (OpenSpec.ofChange Rows.phraseBackSpec) false w args)
      (Rows.phraseBackSpec.post enc Tryd.prog Tryd.f7 false true false false) := by
  refine returnsInHanded_of_change_and (C := Tryd.checked) (X := fun w _ => laidMetH Tryd.prog listed w) (fun _ _ _ hh h => h.of_heap hh) own started (by kernel_rfl) Tryd.func7
    (ChangeSpec.witness_shaped (enc := enc) (C := Tryd.checked) (os := os) (X := fun w _ => laidMetH Tryd.prog listed w) false (World.doorLaid Tryd.prog 400 os) #[.string ⟨#[]⟩, .slice none 0 0] 8 rfl (World.shaped_of_RefB (by kernel_rfl) (by kernel_rfl)) (by kernel_rfl) (by kernel_rfl) (by kernel_rfl) (door_met os _)) ?_
  intro W base args ds gs before hval0 hW _ hsz0 hL _
  have hval : ∀ (j : Nat) t v, Tryd.f7.params[j]? = some t → args[j]? = some v → Value.okWide Tryd.prog W .any base t v := hval0
  have hW' := hW
  obtain ⟨p, q, hA0, hV, rfl, hfz, hnd⟩ := hW
  have hA : DataW.TrodAll enc Tryd.prog W 0 (fun _ => true) true Tryd.f7.params.toList args.toList ds p := hA0
  rw [Tryd.params7] at hA hval
  obtain ⟨v0, v1, d0, d1, p0, p1, rfl, rfl, rfl, h0, h1⟩ := trodAll_two hA
  obtain ⟨rfl, rfl⟩ := trodVars_none hV
  obtain ⟨s, rfl, rfl, rfl, hmx⟩ := open_string Tryd.underlying9 (hval 0 9 v0 rfl rfl) h0
  have hv1 := hval 1 23 v1 rfl rfl
  obtain ⟨A, xs, cc, rfl, hX, hcc, _, hR⟩ := open_pieces h1 hv1
  have hsz : (DataW.weightsEach Tryd.prog (Tryd.f7.params.toList ++ Rows.phraseBackSpec.plain.varTypes Tryd.prog) ([.lit (.string s.data.toList), d1] ++ [])).all (· ≤ reachBytes) = true := hsz0
  have hs : s.size ≤ 281474976710656 := Nat.le_trans (sized_string (j := 0) (t := 9) hsz (by rw [Tryd.params7]; rfl) rfl) (by decide)
  have hxs := (hR _ (sized_of hsz (j := 1) (t := 23) (by rw [Tryd.params7]; rfl) rfl)).1
  have hg := glob_of_laid hL
  have hlt : ∀ x ∈ p1, x.block < W.heap.size := fun x hx => hW'.lt x (by simp [hx])
  clear hA0 hval0
  simp only [List.append_nil] at hW'
  refine (pback_yes s hs A xs cc hxs hcc W hg hX).mono fun e W' ⟨he, hb⟩ => ?_
  subst he
  exact ⟨_, rfl, post_of_below (pa := p1) (pv := []) hW' (fun _ _ _ => (trodAll_cons_mk (shut_bool Tryd.underlying4 _) trodAll_mk0)) (fun sp hsp => trodAll_cons_mk (shut_string Tryd.underlying9 hmx) (by simpa using trodAll_cons_mk (pieces_back h1 hb hlt sp (fun x hx => hsp x (by simpa using hx))) trodAll_mk0)) (fun _ _ => rfl) (by simp)
    hb (ok_one (by kernel_rfl) rfl (okWide_bool_mk Tryd.underlying4 _))⟩
theorem over : Rows.PhraseBackSaid :=
  OpenClaim.holds_of_wide 7 Tryd.f7 rfl rfl rfl rfl rfl rfl rfl ⟨rfl, rfl, rfl, rfl, rfl⟩ rfl rfl rfl rfl rfl (by kernel_rfl) Tryd.func7 (by kernel_rfl)
    (of_decide_eq_true (by kernel_rfl)) (by unfold Func.isWrapper; first | (rw [if_pos (by decide +kernel)]; kernel_rfl) | (rw [if_neg (by decide +kernel)]; exact ⟨rfl, rfl⟩))
    (fun os started H enc _ => lifted os started H enc)
theorem plain (f : FuncId) (fn : Func) (hf : Tryd.pinned.checked.prog.funcNamed "vernacular/vernacularlaw18.PhraseBack" = some f) (hfn : Tryd.pinned.checked.prog.funcs[f]? = some fn) :
    true = Tryd.pinned.checked.prog.looks [] ∧ ∀ (j : Nat) t, fn.params[j]? = some t → Tryd.pinned.checked.prog.wantsStandIn t = false := by
  obtain rfl : f = 7 := Option.some.inj ((show Tryd.prog.funcNamed "vernacular/vernacularlaw18.PhraseBack" = some 7 by kernel_rfl).symm.trans hf) |>.symm
  obtain rfl : fn = Tryd.f7 := (Option.some.inj (Tryd.func7.symm.trans hfn)).symm
  refine ⟨by kernel_rfl, fun j t ht => ?_⟩
  rw [Tryd.params7] at ht
  have hm : t ∈ [9, 23] := by simpa using Array.mem_of_getElem? ht
  have hall : ([9, 23].all fun u => !Tryd.prog.wantsStandIn u) = true := by kernel_rfl
  exact (show Tryd.prog.wantsStandIn t = false by simpa using List.all_eq_true.1 hall t hm)
theorem proved : Rows.PhraseBackCardSaid :=
  Claim7.holds_tied_plain_at .later [] _ _ _ _ over (fun _ h => by cases h) (by kernel_rfl) (fun _ h => by cases h) phraseBack_row_tie rfl ⟨rfl, rfl⟩ (by kernel_rfl) rfl plain (by kernel_rfl)
#print axioms proved
end phraseBack
end Go.Proofs.YtbgcngkofbelmaaDoor
