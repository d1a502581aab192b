/-
  ComposeNone: what the law comes to, told by the kernel. Conditions: what the listed variables hold.
-/
import Derived.Test.YtpcgcghhddnifaaGreatDoorVn
import Derived.Lib.SmallJoins
import Derived.WalkKit
import Derived.OpenShut
import Derived.WideKeyArgs
set_option linter.unusedVariables false
namespace Go.Proofs.YtpcgcghhddnifaaGreatDoor
open Go.RowKit Go.Vx
set_option maxRecDepth 1000000
def spaceZ : List Int := (List.range 256).map fun i => if i = 32 ∨ (9 ≤ i ∧ i ≤ 13) then 1 else 0
/-- What the listed variables give. -/
structure Glob (w : World) : Prop where
  g0 : ∃ te pe, w.cell? ⟨1, 0, none⟩ = some (.iface te pe)
  sp : ∃ e fz cs, w.heap[5]? = some (.cells cs e fz) ∧ cs.toList = spaceZ.map (fun z => .int .u8 z)
theorem gSpace : Tryz.prog.globalNamed "strings.asciiSpace" = some 5 := by kernel_rfl
theorem laid_cell {R : Vx.Ren} {w : World} {g e : Nat} {v : Value} {a : AV} (h : w.cell? ⟨g, 0, none⟩ = some v) (ha : conc R a = v) : ∃ x, w.heap[g]? = some x ∧ ORel R (.row [a] e .ro) x := by
  unfold World.cell? at h
  split at h
  · rename_i c t fz hc
    refine ⟨_, hc, ?_⟩
    simp only [ORel]
    refine ⟨trivial, fun i u hu => ?_⟩
    cases i with
    | zero =>
      simp only [List.getElem?_cons_zero, Option.some.injEq] at hu
      subst hu
      rw [ha]
      simpa using h
    | succ i => simp at hu
  · cases h
theorem laid_of {w : World} (h : Glob w) (R : Vx.Ren) (hv : w.cell? ⟨1, 0, none⟩ = some (conc R (.opq 0))) : Laid R tabs w :=
  allC (laid_cell hv rfl) (allC (by obtain ⟨e, fz, cs, h1, h2⟩ := h.sp; exact laid_tab (t := ⟨5, _, 0⟩) ⟨e, fz, h1⟩ (h2.trans (by kernel_rfl))) allN)
theorem wk_sum : SumOk Tryz.prog 11 8 (memoX 11 tabs [([], .bool true)]) := memo_ok Tryz.call8 tabs_lt (allC ⟨wakes_told, bnd0 (by kernel_rfl)⟩ allN)
noncomputable def envO : Env := withS env [(8, memoX 11 tabs [([], .bool true)])]
theorem envO_ok : envO.Ok Tryz.prog := withS_ok env_ok (allC wk_sum allN)
def noneArgs (b1 b2 : Bool) : List AV := [.opq 1, .agg [.bool b1, .opq 2, .opq 3, .opq 4, .opq 5, .opq 6, .bool b2], .agg [.opq 7, .opq 8]]
theorem none_told : ∀ b1 b2 : Bool, Tells Tryz.prog 11 tabs 7 (noneArgs b1 b2) (.bool true)
  | false, false => tells envO_ok 59 100000 rfl tabs_ok (fn := Tryz.f7) (by kernel_rfl) rfl (by kernel_rfl) (bndL0 (by kernel_rfl))
  | false, true => tells envO_ok 59 100000 rfl tabs_ok (fn := Tryz.f7) (by kernel_rfl) rfl (by kernel_rfl) (bndL0 (by kernel_rfl))
  | true, false => tells envO_ok 59 100000 rfl tabs_ok (fn := Tryz.f7) (by kernel_rfl) rfl (by kernel_rfl) (bndL0 (by kernel_rfl))
  | true, true => tells envO_ok 59 100000 rfl tabs_ok (fn := Tryz.f7) (by kernel_rfl) rfl (by kernel_rfl) (bndL0 (by kernel_rfl))
theorem cells62 {w : World} {r : Reach} {base : Nat} {v : Value} (h : Value.okWide Tryz.prog w r base 62 v) : ∃ cs : List Value, v = .agg ⟨cs⟩ ∧ cs.length = 7 ∧ ∀ (i : Nat) (x : Value), cs[i]? = some x → ∃ u, ([4, 9, 3, 9, 9, 9, 4] : List TypeId)[i]? = some u ∧ Cell.okWide Tryz.prog w r base u x := by
  simp only [Value.okWide, Tryz.underlying62] at h
  obtain ⟨cs, rfl, h2, ts, h3, _, h4⟩ := h
  have ht : ts = [4, 9, 3, 9, 9, 9, 4] := Option.some.inj (h3.symm.trans (show Tryz.prog.cellTypes Tryz.prog.depth 62 = some [4, 9, 3, 9, 9, 9, 4] by kernel_rfl))
  subst ht
  have hs : Tryz.prog.cellsOf 62 = 7 := by kernel_rfl
  rw [hs] at h2
  exact ⟨cs.toList, rfl, by simpa using h2, fun i x hx => by
    have q := h4 i x (by rw [← Array.getElem?_toList]; exact hx)
    have hi : i < cs.toList.length := (List.getElem?_eq_some_iff.1 hx).1
    rw [Nat.mod_eq_of_lt (by rw [Array.length_toList, h2] at hi; simpa using hi)] at q
    exact q⟩
theorem cells25 {w : World} {r : Reach} {base : Nat} {v : Value} (h : Value.okWide Tryz.prog w r base 25 v) : ∃ cs : List Value, v = .agg ⟨cs⟩ ∧ cs.length = 2 ∧ ∀ (i : Nat) (x : Value), cs[i]? = some x → ∃ u, ([23, 9] : List TypeId)[i]? = some u ∧ Cell.okWide Tryz.prog w r base u x := by
  simp only [Value.okWide, Tryz.underlying25] at h
  obtain ⟨cs, rfl, h2, ts, h3, _, h4⟩ := h
  have ht : ts = [23, 9] := Option.some.inj (h3.symm.trans (show Tryz.prog.cellTypes Tryz.prog.depth 25 = some [23, 9] by kernel_rfl))
  subst ht
  have hs : Tryz.prog.cellsOf 25 = 2 := by kernel_rfl
  rw [hs] at h2
  exact ⟨cs.toList, rfl, by simpa using h2, fun i x hx => by
    have q := h4 i x (by rw [← Array.getElem?_toList]; exact hx)
    have hi : i < cs.toList.length := (List.getElem?_eq_some_iff.1 hx).1
    rw [Nat.mod_eq_of_lt (by rw [Array.length_toList, h2] at hi; simpa using hi)] at q
    exact q⟩
theorem bool_of {w : World} {r : Reach} {base : Nat} {v : Value} (h : Cell.okWide Tryz.prog w r base 4 v) : ∃ b, v = .bool b := by
  cases v <;> simp_all [Cell.okWide, Cell.ok, Tryz.underlying4]
theorem at_type {l : List TypeId} {i : Nat} {w : World} {r : Reach} {base : Nat} {x : Value} {t : TypeId} (h : ∃ u, l[i]? = some u ∧ Cell.okWide Tryz.prog w r base u x) (ht : l[i]? = some t) : Cell.okWide Tryz.prog w r base t x := by
  obtain ⟨u, hu, hx⟩ := h
  obtain rfl : t = u := Option.some.inj (ht.symm.trans hu)
  exact hx
theorem meas_cells {w : World} {r : Reach} {base : Nat} {v : Value} (h : Value.okWide Tryz.prog w r base 62 v) : ∃ (b1 b2 : Bool) (c1 c2 c3 c4 c5 : Value), v = .agg ⟨[.bool b1, c1, c2, c3, c4, c5, .bool b2]⟩ ∧ ∀ x ∈ [c1, c2, c3, c4, c5], isCell x := by
  obtain ⟨cs, rfl, hl, ht⟩ := cells62 h
  match cs, hl with
  | [a, b, c, d, e, f, g], _ =>
    obtain ⟨b1, rfl⟩ := bool_of (at_type (ht 0 a rfl) rfl)
    obtain ⟨b2, rfl⟩ := bool_of (at_type (ht 6 g rfl) rfl)
    have n9 : Tryz.prog.underlying 9 ≠ some .bool := fun he => absurd (Tryz.underlying9.symm.trans he) (by simp)
    have n3 : Tryz.prog.underlying 3 ≠ some .bool := fun he => absurd (Tryz.underlying3.symm.trans he) (by simp)
    refine ⟨b1, b2, b, c, d, e, f, rfl, fun x hx => ?_⟩
    simp only [List.mem_cons, List.mem_nil_iff, or_false] at hx
    rcases hx with rfl | rfl | rfl | rfl | rfl
    · exact okWide_cell n9 (at_type (ht 1 _ rfl) rfl)
    · exact okWide_cell n3 (at_type (ht 2 _ rfl) rfl)
    · exact okWide_cell n9 (at_type (ht 3 _ rfl) rfl)
    · exact okWide_cell n9 (at_type (ht 4 _ rfl) rfl)
    · exact okWide_cell n9 (at_type (ht 5 _ rfl) rfl)
theorem list_cells {w : World} {r : Reach} {base : Nat} {v : Value} (h : Value.okWide Tryz.prog w r base 25 v) : ∃ (d1 d2 : Value), v = .agg ⟨[d1, d2]⟩ ∧ ∀ x ∈ [d1, d2], isCell x := by
  obtain ⟨cs, rfl, hl, ht⟩ := cells25 h
  match cs, hl with
  | [a, b], _ =>
    have n9 : Tryz.prog.underlying 9 ≠ some .bool := fun he => absurd (Tryz.underlying9.symm.trans he) (by simp)
    have n23 : Tryz.prog.underlying 23 ≠ some .bool := fun he => absurd (Tryz.underlying23.symm.trans he) (by simp)
    refine ⟨a, b, rfl, fun x hx => ?_⟩
    simp only [List.mem_cons, List.mem_nil_iff, or_false] at hx
    rcases hx with rfl | rfl
    · exact okWide_cell n23 (at_type (ht 0 _ rfl) rfl)
    · exact okWide_cell n9 (at_type (ht 1 _ rfl) rfl)
theorem none_yes (s : Value) (b1 b2 : Bool) (c1 c2 c3 c4 c5 d1 d2 : Value) (hs : isCell s) (hc : ∀ x ∈ [c1, c2, c3, c4, c5], isCell x) (hd : ∀ x ∈ [d1, d2], isCell x) (w : World) (hg : Glob w) :
    Calls Tryz.prog 7 #[s, .agg ⟨[.bool b1, c1, c2, c3, c4, c5, .bool b2]⟩, .agg ⟨[d1, d2]⟩] w fun e w' => e = .returned (.bool true) ∧ Below w.heap.size w w' := by
  obtain ⟨te, pe, h0⟩ := hg.g0
  have hl : ∀ v ∈ [Value.iface te pe, s, c1, c2, c3, c4, c5, d1, d2], isCell v := by
    intro v hv
    rcases List.mem_cons.1 hv with rfl | hv
    · trivial
    · rcases List.mem_cons.1 hv with rfl | hv
      · exact hs
      · rcases List.mem_append.1 (show v ∈ [c1, c2, c3, c4, c5] ++ [d1, d2] from hv) with q | q
        · exact hc v q
        · exact hd v q
  exact none_told b1 b2 (renOf _ hl) w (laid_of hg _ h0) (fun _ _ => rfl)
end Go.Proofs.YtpcgcghhddnifaaGreatDoor
