/-
  MatchNone: what the law comes to, told by the kernel; the row and its tied card. No condition.
-/
import Derived.Test.YtcpajochmlgocaaGreatDoorVxY
import Derived.Test.YtcpajochmlgocaaGreatDoorVe
import Derived.Test.YtcpajochmlgocaaGreatDoorChecked
import Derived.Test.YtcpajochmlgocaaGreatDoorTie
import Derived.Test.YtcpajochmlgocaaGreatDoorCards
import Derived.WalkKit
import Derived.ProofKit
import Derived.LaidMore
import Derived.LaidLaws
import Derived.OpenShut
import Derived.SevenTiedAt
import Derived.WideKeyArgs
import Derived.Lay
namespace Go.Proofs.YtcpajochmlgocaaGreatDoor
open Go.Vx Go.RowKit
set_option maxRecDepth 1000000
theorem none_told : isT (callX 60 env 100000 8 9 [.agg [.opq 0, .opq 1, .opq 2, .opq 3, .opq 4], .agg [.opq 5, .opq 6, .opq 7, .opq 8, .opq 9]] { H := .e, nx := 8 }) = true := by kernel_rfl
theorem env_f9 : env.fn 9 = some Tryz.f9 := by kernel_rfl
theorem tag_cells {w : World} {r : Reach} {base : Nat} {v : Value} (h : Value.okWide Tryz.prog w r base 28 v) : ∃ cs : List Value, v = .agg ⟨cs⟩ ∧ cs.length = 5 ∧ ∀ x ∈ cs, isCell x := by
  simp only [Value.okWide, Tryz.underlying28] at h
  obtain ⟨cs, rfl, h2, ts, h3, _, h4⟩ := h
  have ht : ts = [9, 9, 9, 24, 23] := Option.some.inj (h3.symm.trans (show Tryz.prog.cellTypes Tryz.prog.depth 28 = some [9, 9, 9, 24, 23] by kernel_rfl))
  subst ht
  have hs : Tryz.prog.cellsOf 28 = 5 := by kernel_rfl
  rw [hs] at h2
  refine ⟨cs.toList, rfl, by simpa using h2, fun x hx => ?_⟩
  obtain ⟨i, hi, rfl⟩ := List.getElem_of_mem hx
  obtain ⟨u, hu, hc⟩ := h4 i cs.toList[i] (by rw [← Array.getElem?_toList]; exact List.getElem?_eq_getElem hi)
  have hm : u ∈ [9, 9, 9, 24, 23] := List.mem_of_getElem? hu
  refine okWide_cell (fun he => ?_) hc
  simp only [List.mem_cons, List.mem_nil_iff, or_false] at hm
  rcases hm with rfl | rfl | rfl | rfl | rfl
  · exact absurd (Tryz.underlying9.symm.trans he) (by simp)
  · exact absurd (Tryz.underlying9.symm.trans he) (by simp)
  · exact absurd (Tryz.underlying9.symm.trans he) (by simp)
  · exact absurd (Tryz.underlying24.symm.trans he) (by simp)
  · exact absurd (Tryz.underlying23.symm.trans he) (by simp)
theorem none_yes {cs ds : List Value} (h1 : cs.length = 5) (h2 : ds.length = 5) (c1 : ∀ x ∈ cs, isCell x) (c2 : ∀ x ∈ ds, isCell x) (w : World) :
    Calls Tryz.prog 9 #[.agg ⟨cs⟩, .agg ⟨ds⟩] w fun e w' => e = .returned (.bool true) ∧ Below w.heap.size w w' := by
  obtain ⟨a, b, c, d, e, rfl⟩ := five h1
  obtain ⟨a', b', c', d', e', rfl⟩ := five h2
  exact told_true env_ok 59 100000 rfl (by decide) env_f9 rfl none_told [a, b, c, d, e, a', b', c', d', e'] (fun v hv => by
    rcases List.mem_append.1 (show v ∈ [a, b, c, d, e] ++ [a', b', c', d', e'] from hv) with g | g
    · exact c1 v g
    · exact c2 v g) (by simp [BndL, Bnd]) w
theorem own : ownKnob Tryz.prog.godebug = none := by kernel_rfl
def listed : List (String × DataW Unit) := Rows.matchNoneRow.laid
open Go.ChangeShapes Go.WideShapes Go.ChangeAt Go.RowKit Go.ChangeMaps
theorem tag_back {H : Type} {enc : TypeId × Value → H} {W W' : World} {v : Value} {d : DataW H} {p : List MemPlace} (h : DataW.Trod enc Tryz.prog W 0 (fun _ => true) true 28 v d p) (hb : Below W.heap.size W W') (hlt : ∀ x ∈ p, x.block < W.heap.size) (sp : Nat → Bool) (hs : ∀ x ∈ p, sp x.block = true) :
    DataW.Trod enc Tryz.prog W' 0 sp true 28 v d p :=
  WideElems.Trod_stays (by kernel_rfl) (by kernel_rfl) (of_decide_eq_true (by kernel_rfl)) h (fun x hx => hb.same (hlt x hx)) hs
namespace matchNone
theorem lifted (os : Os) (started : os.Started) (H : Type) (enc : TypeId × Value → H) :
    ReturnsInHanded {} Tryz.checked os 9 .any (fun w args => (Rows.matchNoneSpec.pre enc Tryz.prog Tryz.f9 [] false w args ∧ laidMetH Tryz.prog listed w) ∧ sizedMet enc Tryz.prog Tryz.f9 (OpenSpec.ofChange Rows.matchNoneSpec) false w args)
      (Rows.matchNoneSpec.post enc Tryz.prog Tryz.f9 false true false false) := by
  refine returnsInHanded_of_change_and (C := Tryz.checked) (X := fun w _ => laidMetH Tryz.prog listed w) (fun _ _ _ hh h => h.of_heap hh) own started (by kernel_rfl) Tryz.func9
    (ChangeSpec.witness_shaped (enc := enc) (C := Tryz.checked) (os := os) (X := fun w _ => laidMetH Tryz.prog listed w) false (World.laidAll Tryz.prog os listed) #[.agg #[.string ⟨#[]⟩, .string ⟨#[]⟩, .string ⟨#[]⟩, .slice none 0 0, .slice none 0 0], .agg #[.string ⟨#[]⟩, .string ⟨#[]⟩, .string ⟨#[]⟩, .slice none 0 0, .slice none 0 0]] 8 (World.laidAll_os _ _ _)
      (World.shaped_of_ZipB (by kernel_rfl) (by kernel_rfl)) (by kernel_rfl) (by kernel_rfl) (by kernel_rfl)
      (by rw [MakeChecks.laidMetH_plain _ _ _ (by kernel_rfl)]; exact laidMet_laidAll _ (by kernel_rfl) (by kernel_rfl))) ?_
  intro W base args ds gs before hval0 hW _ _ _ _
  have hval : ∀ (j : Nat) t v, Tryz.f9.params[j]? = some t → args[j]? = some v → Value.okWide Tryz.prog W .any base t v := hval0
  have hW' := hW
  obtain ⟨p, q, hA0, hV, rfl, hfz, hnd⟩ := hW
  have hA : DataW.TrodAll enc Tryz.prog W 0 (fun _ => true) true Tryz.f9.params.toList args.toList ds p := hA0
  rw [Tryz.params9] at hA hval
  obtain ⟨v0, v1, d0, d1, p0, p1, rfl, rfl, rfl, h0, h1⟩ := trodAll_two hA
  obtain ⟨rfl, rfl⟩ := trodVars_none hV
  obtain ⟨cs, rfl, l0, c0⟩ := tag_cells (hval 0 28 v0 rfl rfl)
  obtain ⟨ds, rfl, l1, c1⟩ := tag_cells (hval 1 28 v1 rfl rfl)
  have hlt0 : ∀ x ∈ p0, x.block < W.heap.size := fun x hx => hW'.lt x (by simp [hx])
  have hlt1 : ∀ x ∈ p1, x.block < W.heap.size := fun x hx => hW'.lt x (by simp [hx])
  clear hA0 hval0
  simp only [List.append_nil] at hW'
  refine (none_yes l0 l1 c0 c1 W).mono fun e W' ⟨he, hb⟩ => ?_
  subst he
  exact ⟨_, rfl, post_of_below (pa := p0 ++ p1) (pv := []) hW' (fun _ _ _ => (trodAll_cons_mk (shut_bool Tryz.underlying4 _) trodAll_mk0)) (fun sp hsp => by have q := trodAll_cons_mk (tag_back h0 hb hlt0 sp (fun x hx => hsp x (by simp [hx]))) (trodAll_cons_mk (tag_back h1 hb hlt1 sp (fun x hx => hsp x (by simp [hx]))) trodAll_mk0); rw [List.append_nil] at q; exact q) (fun _ _ => rfl) (by simp)
    hb (ok_one (by kernel_rfl) rfl (okWide_bool_mk Tryz.underlying4 _))⟩
theorem over : Rows.MatchNoneSaid :=
  OpenClaim.holds_of_wide 9 Tryz.f9 rfl rfl rfl rfl rfl rfl rfl ⟨rfl, rfl, rfl, rfl, rfl⟩ rfl rfl rfl rfl rfl (by kernel_rfl) Tryz.func9 (by kernel_rfl)
    (of_decide_eq_true (by kernel_rfl)) (by unfold Func.isWrapper; first | (rw [if_pos (by decide +kernel)]; kernel_rfl) | (rw [if_neg (by decide +kernel)]; exact ⟨rfl, rfl⟩))
    (fun os started H enc _ => lifted os started H enc)
theorem plain (f : FuncId) (fn : Func) (hf : Tryz.pinned.checked.prog.funcNamed "vernacular/vernacularlaw24.MatchNone" = some f) (hfn : Tryz.pinned.checked.prog.funcs[f]? = some fn) :
    true = Tryz.pinned.checked.prog.looks [] ∧ ∀ (j : Nat) t, fn.params[j]? = some t → Tryz.pinned.checked.prog.wantsStandIn t = false := by
  obtain rfl : f = 9 := Option.some.inj ((show Tryz.prog.funcNamed "vernacular/vernacularlaw24.MatchNone" = some 9 by kernel_rfl).symm.trans hf) |>.symm
  obtain rfl : fn = Tryz.f9 := (Option.some.inj (Tryz.func9.symm.trans hfn)).symm
  refine ⟨by kernel_rfl, fun j t ht => ?_⟩
  rw [Tryz.params9] at ht
  have hm : t ∈ [28, 28] := by simpa using Array.mem_of_getElem? ht
  have hall : ([28, 28].all fun u => !Tryz.prog.wantsStandIn u) = true := by kernel_rfl
  exact (show Tryz.prog.wantsStandIn t = false by simpa using List.all_eq_true.1 hall t hm)
theorem proved : Rows.MatchNoneCardSaid :=
  Claim7.holds_tied_plain_at .later [] _ _ _ _ over (fun _ h => by cases h) (by kernel_rfl) (fun _ h => by cases h) matchNone_row_tie rfl ⟨rfl, rfl⟩ (by kernel_rfl) rfl plain (by kernel_rfl)
#print axioms proved
end matchNone
end Go.Proofs.YtcpajochmlgocaaGreatDoor
