/-
  A slice of what is said, and what is asked for, among the arguments: what they read as, and that they are handed back as they came. Condition: they lie in memory.
-/
import Derived.Test.YtjmebclcmpfdmaaGreatDoorGk
import Derived.Deep.Strs
import Derived.SliceStrings
import Derived.ProofKit
import Derived.LaidMore
import Derived.LaidLaws
import Derived.OpenShut
import Derived.Lib.SmallJoins
import Derived.SizedLaws
import Derived.WideKeyArgs
import Derived.Lib.LaidU8T
set_option linter.unusedVariables false
set_option linter.unusedSimpArgs false
namespace Go.Proofs.YtjmebclcmpfdmaaGreatDoor
open Go.ChangeShapes Go.WideShapes Go.ChangeAt Go.RowKit Go.ChangeMaps
open Ph
open Go.Deep
theorem bulk_mem {H : Type} {d : DataW H} {l : List (DataW H)} (h : d ∈ l) : Rows.uptoBulk d ≤ Rows.uptoBulkAll l := by
  induction l with
  | nil => cases h
  | cons x r ih =>
    unfold Rows.uptoBulkAll
    rcases List.mem_cons.1 h with e | e
    · subst e; omega
    · have := ih e; omega
theorem weights_all {H : Type} {P : Program} {e : TypeId} {d : DataW H} : ∀ {l : List (DataW H)}, d ∈ l → ∀ n ∈ d.weights P e, n ∈ DataW.weightsAll P e l
  | [], h, _, _ => by cases h
  | x :: r, h, n, hn => by
    rw [DataW.weightsAll, List.mem_append]
    rcases List.mem_cons.1 h with rfl | h
    · exact Or.inl hn
    · exact Or.inr (weights_all h n hn)
theorem cell_block {w : World} {a : Addr} {v : Value} (h : w.cell? a = some v) : a.block < w.heap.size := by
  rcases Nat.lt_or_ge a.block w.heap.size with g | g
  · exact g
  · unfold World.cell? at h
    rw [Array.getElem?_eq_none g] at h
    simp at h
theorem cellsStr : Tryz.prog.cellsOf 9 = 1 := by kernel_rfl
theorem bytesStr : Tryz.prog.bytesOf 9 = 16 := by kernel_rfl
theorem cellsSaid : Tryz.prog.cellsOf 50 = 3 := by kernel_rfl
theorem bytesSaid : Tryz.prog.bytesOf 50 = 48 := by kernel_rfl
theorem cellsAsked : Tryz.prog.cellsOf 40 = 3 := by kernel_rfl
def sdD {H : Type} (p : Sd) : DataW H := .agg [.lit (.string p.loc.data.toList), .lit (.string p.path.data.toList), .lit (.string p.text.data.toList)]
theorem open_sd {H : Type} {enc : TypeId × Value → H} {W : World} {base : Nat} {spare : Nat → Bool} {held : Bool} {fuel : Nat} {a : Addr} {cs : List Value} {x : DataW H × List MemPlace} (hc : W.cells? base a 3 = some cs) (h : DataW.trod enc Tryz.prog W base spare held fuel 50 cs = some x) :
    ∃ p : Sd, (W.cell? a = some (.string p.loc) ∧ W.cell? (a.add 1) = some (.string p.path) ∧ W.cell? (a.add 2) = some (.string p.text)) ∧ x.1 = sdD p := by
  obtain ⟨_, hlen, hcell⟩ := World.cells?_some hc
  obtain ⟨y0, y1, y2, n, rfl, _, g0, g1, g2⟩ := trod_struct3 Tryz.underlying50 h
  simp only [cellsStr] at g0 g1 g2
  match cs, hlen with
  | [v0, v1, v2], _ =>
    have e0 := hcell 0 (by omega)
    have e1 := hcell 1 (by omega)
    have e2 := hcell 2 (by omega)
    obtain ⟨k, q0, r0, _⟩ := DataW.trod_string Tryz.underlying9 g0
    obtain ⟨s, q1, r1, _⟩ := DataW.trod_string Tryz.underlying9 g1
    obtain ⟨m, q2, r2, _⟩ := DataW.trod_string Tryz.underlying9 g2
    simp at q0 q1 q2
    subst q0 q1 q2 r0 r1 r2
    exact ⟨⟨k, s, m⟩, ⟨by simpa [Addr.add] using e0, by simpa using e1, by simpa using e2⟩, rfl⟩
theorem scells_at {l : List Sd} {i : Nat} (hi : i < l.length) : ∀ d u, d < 3 → (scells l)[i * 3 + d]? = some u → u = (match d with | 0 => .string l[i].loc | 1 => .string l[i].path | _ => .string l[i].text) := by
  obtain ⟨h0, h1, h2⟩ := scells_get l i hi
  intro d u hd hu
  match d, hd with
  | 0, _ => rw [Nat.add_zero, h0] at hu; exact (Option.some.inj hu).symm
  | 1, _ => rw [h1] at hu; exact (Option.some.inj hu).symm
  | 2, _ => rw [h2] at hu; exact (Option.some.inj hu).symm
set_option maxRecDepth 100000 in
theorem open_saids {H : Type} {enc : TypeId × Value → H} {W : World} {base : Nat} {v : Value} {d : DataW H} {p : List MemPlace} (h : DataW.Trod enc Tryz.prog W 0 (fun _ => true) true 22 v d p) (hok : Value.okWide Tryz.prog W .any base 22 v) :
    ∃ A l cc, v = .slice A l.length cc ∧ Saids W W.heap.size A l ∧ l.length ≤ cc ∧ (∀ x ∈ l, x.text.size ≤ Rows.uptoBulk d) ∧ ∀ R, (∀ n ∈ d.weights Tryz.prog 22, n ≤ R) → (∀ x ∈ l, x.text.size ≤ R) ∧ l.length * 48 ≤ R := by
  obtain ⟨a0, len, cap, rfl⟩ := okWide_slice Tryz.underlying22 hok
  obtain ⟨fuel, hf⟩ := h
  rcases open_slice Tryz.underlying22 hf with ⟨hcs, hx⟩ | ⟨a, len', cap', m, n, D, Pl, hcs, _, hl, hm, hmm, hx, hcell⟩
  · cases hcs
    exact ⟨none, [], 0, rfl, fun h => absurd h (by simp), Nat.le_refl _, fun x hx => (by cases hx), fun R _ => ⟨fun x hx => (by cases hx), Nat.zero_le _⟩⟩
  · cases hcs
    simp only [if_true] at hmm
    have each : ∀ i, i < len → ∃ q : Sd, (W.cell? (a.add (i * 3)) = some (.string q.loc) ∧ W.cell? ((a.add (i * 3)).add 1) = some (.string q.path) ∧ W.cell? ((a.add (i * 3)).add 2) = some (.string q.text)) ∧ D i = sdD q := fun i hi => by
      obtain ⟨cs', h1, h2⟩ := hcell i (by omega)
      rw [cellsSaid] at h1
      obtain ⟨q, hq, e⟩ := open_sd h1 h2
      exact ⟨q, hq, e⟩
    obtain ⟨l, hll, hq⟩ : ∃ l : List Sd, l.length = len ∧ ∀ i (hi : i < l.length), (W.cell? (a.add (i * 3)) = some (.string l[i].loc) ∧ W.cell? ((a.add (i * 3)).add 1) = some (.string l[i].path) ∧ W.cell? ((a.add (i * 3)).add 2) = some (.string l[i].text)) ∧ D i = sdD l[i] := by
      clear hx hcell hf
      have gen : ∀ k, k ≤ len → ∃ l : List Sd, l.length = k ∧ ∀ i (hi : i < l.length), (W.cell? (a.add (i * 3)) = some (.string l[i].loc) ∧ W.cell? ((a.add (i * 3)).add 1) = some (.string l[i].path) ∧ W.cell? ((a.add (i * 3)).add 2) = some (.string l[i].text)) ∧ D i = sdD l[i] := by
        intro k
        induction k with
        | zero => exact fun _ => ⟨[], rfl, fun i hi => absurd hi (by simp)⟩
        | succ k ih =>
          intro hk
          obtain ⟨l, h1, h2⟩ := ih (by omega)
          obtain ⟨q, hq⟩ := each k (by omega)
          refine ⟨l ++ [q], by simp [h1], fun i hi => ?_⟩
          rw [List.length_append, List.length_singleton] at hi
          rcases Nat.lt_or_ge i l.length with g | g
          · rw [List.getElem_append_left g]; exact h2 i g
          · obtain rfl : i = k := by omega
            rw [List.getElem_append_right g]
            simpa [h1] using hq
      exact gen len (Nat.le_refl _)
    refine ⟨some a, l, cap, by rw [hll], fun h => ⟨a, rfl, ?_, fun j u hu => ?_⟩, by omega, fun x hx2 => ?_, fun R hR => ?_⟩
    · have := cell_block (hq 0 h).1.1
      rw [block_of_add] at this
      exact this
    · have hj : j < l.length * 3 := by
        have := (List.getElem?_eq_some_iff.1 hu).1
        rw [scells_len] at this
        exact this
      have hi : j / 3 < l.length := by omega
      have hd : j % 3 < 3 := Nat.mod_lt _ (by omega)
      have ej : j = j / 3 * 3 + j % 3 := by omega
      obtain ⟨⟨q0, q1, q2⟩, _⟩ := hq _ hi
      rw [add_of_add] at q1 q2
      rw [ej] at hu ⊢
      have := scells_at hi (j % 3) u hd hu
      rw [this]
      rcases (show j % 3 = 0 ∨ j % 3 = 1 ∨ j % 3 = 2 by omega) with e | e | e <;> rw [e]
      · exact q0
      · exact q1
      · exact q2
    · injection hx with hd hp
      subst hd
      obtain ⟨i, hi, rfl⟩ := List.getElem_of_mem hx2
      have hDm : D i ∈ (List.range len).map D := List.mem_map.2 ⟨i, List.mem_range.2 (by omega), rfl⟩
      have h1 := bulk_mem hDm
      rw [(hq i hi).2] at h1
      have h3 : (.lit (.string l[i].text.data.toList) : DataW H) ∈ ([.lit (.string l[i].loc.data.toList), .lit (.string l[i].path.data.toList), .lit (.string l[i].text.data.toList)] : List (DataW H)) := by simp
      have h4 := bulk_mem h3
      have h5 : Rows.uptoBulk (.lit (.string l[i].text.data.toList) : DataW H) = l[i].text.data.toList.length + 1 := by simp [Rows.uptoBulk]
      have h6 : Rows.uptoBulk (sdD l[i] : DataW H) = Rows.uptoBulkAll ([.lit (.string l[i].loc.data.toList), .lit (.string l[i].path.data.toList), .lit (.string l[i].text.data.toList)] : List (DataW H)) + 1 := by simp only [sdD, Rows.uptoBulk]
      have h7 := Lib.size_eq l[i].text
      simp only [Rows.uptoBulk]
      omega
    · injection hx with hd hp
      subst hd
      have h2 : ((((List.range len).map D).length + ((List.range (m - len)).map fun j => D (len + j)).length) * Tryz.prog.bytesOf 50) ≤ R := hR _ (by simp only [DataW.weights, Tryz.underlying22, List.mem_cons]; exact Or.inl trivial)
      have hw : ∀ n ∈ DataW.weightsAll Tryz.prog 50 ((List.range len).map D), n ≤ R := fun n hn => hR n (by simp only [DataW.weights, Tryz.underlying22, List.mem_cons, List.mem_append]; exact Or.inr (Or.inl hn))
      refine ⟨fun x hx => ?_, ?_⟩
      · obtain ⟨i, hi, rfl⟩ := List.getElem_of_mem hx
        have hDm : D i ∈ (List.range len).map D := List.mem_map.2 ⟨i, List.mem_range.2 (by omega), rfl⟩
        refine hw _ (weights_all hDm _ ?_)
        rw [(hq i hi).2]
        simp only [sdD, DataW.weights, Tryz.underlying50, DataW.weightsEach, List.map_cons, List.map_nil, List.nil_append, List.append_nil, List.mem_singleton, List.mem_cons, List.mem_append, Tryz.underlying9]
        exact Or.inr (Or.inr (Or.inl (Lib.size_eq _)))
      · rw [bytesSaid, List.length_map, List.length_range] at h2
        omega
theorem saids_back {H : Type} {enc : TypeId × Value → H} {W W' : World} {v : Value} {d : DataW H} {p : List MemPlace} (h : DataW.Trod enc Tryz.prog W 0 (fun _ => true) true 22 v d p) (hb : Below W.heap.size W W') (hlt : ∀ x ∈ p, x.block < W.heap.size) (sp : Nat → Bool) (hs : ∀ x ∈ p, sp x.block = true) :
    DataW.Trod enc Tryz.prog W' 0 sp true 22 v d p :=
  WideElems.Trod_stays (by kernel_rfl) (by kernel_rfl) (of_decide_eq_true (by kernel_rfl)) h (fun x hx => hb.same (hlt x hx)) hs
theorem sized_of {H : Type} {ts : List TypeId} {ds : List (DataW H)} (hsz : (DataW.weightsEach Tryz.prog ts ds).all (· ≤ reachBytes) = true) {j : Nat} {t : TypeId} {d : DataW H} (ht : ts[j]? = some t) (hd : ds[j]? = some d) : ∀ n ∈ d.weights Tryz.prog t, n ≤ 281474976710656 := fun n hn => by
  have := List.all_eq_true.1 hsz _ (DataW.weights_mem_each ht hd n hn)
  have h2 : n ≤ reachBytes := by simpa using this
  exact Nat.le_trans h2 (by decide)
set_option maxRecDepth 100000 in
theorem open_asked {H : Type} {enc : TypeId × Value → H} {W : World} {base : Nat} {v : Value} {d : DataW H} {p : List MemPlace} (h : DataW.Trod enc Tryz.prog W 0 (fun _ => true) true 40 v d p) (hok : Value.okWide Tryz.prog W .any base 40 v) :
    ∃ (loc sys : ByteArray) (n : Int), v = .agg #[.string loc, .string sys, .int .i64 n] ∧ ∀ R, (∀ n ∈ d.weights Tryz.prog 40, n ≤ R) → sys.size ≤ R := by
  obtain ⟨v0, v1, v2, y0, y1, y2, n, rfl, rfl, rfl, g0, g1, g2⟩ := Joins.open_agg3 Tryz.underlying40 (by kernel_rfl) cellsAsked hok h
  obtain ⟨loc, q0, r0, _⟩ := DataW.trod_string Tryz.underlying9 g0
  obtain ⟨sys, q1, r1, _⟩ := DataW.trod_string Tryz.underlying9 g1
  obtain ⟨k, q2, r2, _⟩ := DataW.trod_int Tryz.underlying3 g2
  obtain rfl : v0 = .string loc := by simpa using q0
  obtain rfl : v1 = .string sys := by simpa using q1
  obtain rfl : v2 = .int .i64 k := by simpa using q2
  subst r0 r1
  refine ⟨loc, sys, k, rfl, fun R hR => hR _ ?_⟩
  simp only [DataW.weights, Tryz.underlying40, DataW.weightsEach, List.map_cons, List.map_nil, List.mem_append, Tryz.underlying9, List.mem_singleton, List.append_nil]
  exact Or.inr (Or.inl (Lib.size_eq _))
theorem asked_back {H : Type} {enc : TypeId × Value → H} {W W' : World} {v : Value} {d : DataW H} {p : List MemPlace} (h : DataW.Trod enc Tryz.prog W 0 (fun _ => true) true 40 v d p) (hb : Below W.heap.size W W') (hlt : ∀ x ∈ p, x.block < W.heap.size) (sp : Nat → Bool) (hs : ∀ x ∈ p, sp x.block = true) :
    DataW.Trod enc Tryz.prog W' 0 sp true 40 v d p :=
  WideElems.Trod_stays (by kernel_rfl) (by kernel_rfl) (of_decide_eq_true (by kernel_rfl)) h (fun x hx => hb.same (hlt x hx)) hs
/-! ### The listed variables -/
theorem first_is : (Rows.laid_unicode_utf8_first : DataW Unit) = Lib.firstData := by kernel_rfl
theorem accept_is : (Rows.laid_unicode_utf8_acceptRanges : DataW Unit) = Lib.acceptData := by kernel_rfl
theorem pow_is : (Rows.laid_internal_strconv_uint64pow10 : DataW Unit) = Lib.tabData .u64 Lib.pow10Tab := by kernel_rfl
theorem cellsPow : Tryz.prog.cellsOf 242 = 20 := by kernel_rfl
theorem cellsU64 : Tryz.prog.cellsOf 169 = 1 := by kernel_rfl
theorem gPow : Tryz.prog.globalNamed "internal/strconv.uint64pow10" = some 3 := by kernel_rfl
theorem gPowT : (Tryz.prog.globals[3]?).map (·.type) = some 242 := by kernel_rfl
theorem gSyntax : Tryz.prog.globalNamed "strconv.ErrSyntax" = some 4 := by kernel_rfl
theorem gSyntaxT : (Tryz.prog.globals[4]?).map (·.type) = some 124 := by kernel_rfl
theorem pow_of {W : World} (h : Lib.VarReads Tryz.prog W "internal/strconv.uint64pow10" Rows.laid_internal_strconv_uint64pow10) : Pow W := by
  obtain ⟨g, t, cs, f, p, hg, ht, hv, hd⟩ := h
  obtain rfl := Option.some.inj (gPow.symm.trans hg)
  obtain rfl := Option.some.inj (gPowT.symm.trans ht)
  unfold Pow Lib.TabIs
  rw [hv]
  congr 1
  rw [pow_is] at hd
  have := Lib.cells_of_tab (k := .u64) (zs := Lib.pow10Tab) Tryz.underlying242 Tryz.underlying169 cellsU64 cellsPow (h := hd)
  exact Array.ext' this
theorem err_of {W : World} {d : DataW Unit} {nm : String} (h : Lib.VarReads Tryz.prog W "strconv.ErrSyntax" (.iface nm d)) : ∃ te pe, W.cell? ⟨4, 0, none⟩ = some (.iface te pe) := by
  obtain ⟨g, t, cs, f, p, hg, ht, hv, hd⟩ := h
  obtain rfl := Option.some.inj (gSyntax.symm.trans hg)
  obtain rfl := Option.some.inj (gSyntaxT.symm.trans ht)
  obtain ⟨_, u, v, hcs, _⟩ := iface_of_trod Tryz.underlying124 hd
  refine ⟨u, v, (World.var?_cell gSyntax hv 0).trans ?_⟩
  rw [← Array.getElem?_toList, hcs]; rfl
theorem utf_of {W : World} (h3 : Lib.VarReads Tryz.prog W "unicode/utf8.first" Rows.laid_unicode_utf8_first) (h4 : Lib.VarReads Tryz.prog W "unicode/utf8.acceptRanges" Rows.laid_unicode_utf8_acceptRanges) : Lib.Utf8Tabs 0 1 W := by
  rw [first_is] at h3
  rw [accept_is] at h4
  exact utf8Tabs_of_readsT (U8Types.of196 Tryz.vs196) ⟨by kernel_rfl, by kernel_rfl, by kernel_rfl, by kernel_rfl, by kernel_rfl, by kernel_rfl, by kernel_rfl⟩ h3 h4
theorem own : ownKnob Tryz.prog.godebug = none := by kernel_rfl
end Go.Proofs.YtjmebclcmpfdmaaGreatDoor
