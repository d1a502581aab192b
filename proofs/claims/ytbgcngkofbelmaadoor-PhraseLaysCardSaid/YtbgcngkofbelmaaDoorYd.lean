/-
  A slice of pieces among the arguments: what it reads as, and that it is handed back as it came. Condition: it lies in memory.
-/
import Derived.Test.YtbgcngkofbelmaaDoorYa
import Derived.Deep.Strs
namespace Go.Proofs.YtbgcngkofbelmaaDoor
open Go.ChangeShapes Go.WideShapes Go.ChangeAt Go.RowKit Go.ChangeMaps
open Ph
open Go.Deep
theorem cells31 : Tryd.prog.cellsOf 31 = 3 := by kernel_rfl
theorem cells3 : Tryd.prog.cellsOf 3 = 1 := by kernel_rfl
theorem bytes31 : Tryd.prog.bytesOf 31 = 32 := by kernel_rfl
def pcD {H : Type} (p : Pc) : DataW H := .agg [.lit (.int .i64 p.kind), .lit (.string p.text.data.toList), .lit (.int .i64 p.place)]
theorem open_pc {H : Type} {enc : TypeId × Value → H} {W : World} {base : Nat} {spare : Nat → Bool} {held : Bool} {fuel : Nat} {a : Addr} {cs : List Value} {x : DataW H × List MemPlace} (hc : W.cells? base a 3 = some cs) (h : DataW.trod enc Tryd.prog W base spare held fuel 31 cs = some x) :
    ∃ p : Pc, (W.cell? a = some (.int .i64 p.kind) ∧ W.cell? (a.add 1) = some (.string p.text) ∧ W.cell? (a.add 2) = some (.int .i64 p.place)) ∧ x.1 = pcD p := by
  obtain ⟨_, hlen, hcell⟩ := World.cells?_some hc
  obtain ⟨y0, y1, y2, n, rfl, _, g0, g1, g2⟩ := trod_struct3 Tryd.underlying31 h
  simp only [cells3, cells9] at g0 g1 g2
  match cs, hlen with
  | [v0, v1, v2], _ =>
    have e0 := hcell 0 (by omega)
    have e1 := hcell 1 (by omega)
    have e2 := hcell 2 (by omega)
    obtain ⟨k, q0, r0, _⟩ := DataW.trod_int Tryd.underlying3 g0
    obtain ⟨s, q1, r1, _⟩ := DataW.trod_string Tryd.underlying9 g1
    obtain ⟨m, q2, r2, _⟩ := DataW.trod_int Tryd.underlying3 g2
    simp at q0 q1 q2
    subst q0 q1 q2 r0 r1 r2
    exact ⟨⟨k, s, m⟩, ⟨by simpa [Addr.add] using e0, by simpa using e1, by simpa using e2⟩, rfl⟩
theorem pcells_at {l : List Pc} {i : Nat} (hi : i < l.length) : ∀ d u, d < 3 → (pcells l)[i * 3 + d]? = some u → u = (match d with | 0 => .int .i64 l[i].kind | 1 => .string l[i].text | _ => .int .i64 l[i].place) := by
  obtain ⟨h0, h1, h2⟩ := pcells_get hi
  intro d u hd hu
  match d, hd with
  | 0, _ => rw [Nat.add_zero, h0] at hu; exact (Option.some.inj hu).symm
  | 1, _ => rw [h1] at hu; exact (Option.some.inj hu).symm
  | 2, _ => rw [h2] at hu; exact (Option.some.inj hu).symm
theorem pcells_len (l : List Pc) : (pcells l).length = l.length * 3 := by
  unfold pcells
  induction l with
  | nil => rfl
  | cons p l ih => rw [List.flatMap_cons, List.length_append, ih, List.length_cons]; simp; omega
set_option maxRecDepth 100000 in
theorem open_pieces {H : Type} {enc : TypeId × Value → H} {W : World} {base : Nat} {v : Value} {d : DataW H} {p : List MemPlace} (h : DataW.Trod enc Tryd.prog W 0 (fun _ => true) true 23 v d p) (hok : Value.okWide Tryd.prog W .any base 23 v) :
    ∃ A l cc, v = .slice A l.length cc ∧ Lists W W.heap.size A l ∧ l.length ≤ cc ∧ (A = none → cc = 0) ∧ ∀ R, (∀ n ∈ d.weights Tryd.prog 23, n ≤ R) → (∀ x ∈ l, x.text.size ≤ R) ∧ l.length ≤ R := by
  obtain ⟨a0, len, cap, rfl⟩ := okWide_slice Tryd.underlying23 hok
  obtain ⟨fuel, hf⟩ := h
  rcases open_slice Tryd.underlying23 hf with ⟨hcs, hx⟩ | ⟨a, len', cap', m, n, D, Pl, hcs, _, hl, hm, hmm, hx, hcell⟩
  · cases hcs
    exact ⟨none, [], 0, rfl, fun h => absurd h (by simp), Nat.le_refl _, fun _ => rfl, fun R _ => ⟨fun x hx => (by cases hx), Nat.zero_le _⟩⟩
  · cases hcs
    simp only [if_true] at hmm
    have each : ∀ i, i < len → ∃ q : Pc, (W.cell? (a.add (i * 3)) = some (.int .i64 q.kind) ∧ W.cell? ((a.add (i * 3)).add 1) = some (.string q.text) ∧ W.cell? ((a.add (i * 3)).add 2) = some (.int .i64 q.place)) ∧ D i = pcD q := fun i hi => by
      obtain ⟨cs', h1, h2⟩ := hcell i (by omega)
      rw [cells31] at h1
      obtain ⟨q, hq, e⟩ := open_pc h1 h2
      exact ⟨q, hq, e⟩
    obtain ⟨l, hll, hq⟩ : ∃ l : List Pc, l.length = len ∧ ∀ i (hi : i < l.length), (W.cell? (a.add (i * 3)) = some (.int .i64 l[i].kind) ∧ W.cell? ((a.add (i * 3)).add 1) = some (.string l[i].text) ∧ W.cell? ((a.add (i * 3)).add 2) = some (.int .i64 l[i].place)) ∧ D i = pcD l[i] := by
      clear hx hcell hf
      have gen : ∀ k, k ≤ len → ∃ l : List Pc, l.length = k ∧ ∀ i (hi : i < l.length), (W.cell? (a.add (i * 3)) = some (.int .i64 l[i].kind) ∧ W.cell? ((a.add (i * 3)).add 1) = some (.string l[i].text) ∧ W.cell? ((a.add (i * 3)).add 2) = some (.int .i64 l[i].place)) ∧ D i = pcD l[i] := by
        intro k
        induction k with
        | zero => exact fun _ => ⟨[], rfl, fun i hi => absurd hi (by simp)⟩
        | succ k ih =>
          intro hk
          obtain ⟨l, h1, h2⟩ := ih (by omega)
          obtain ⟨q, hq⟩ := each k (by omega)
          refine ⟨l ++ [q], by simp [h1], fun i hi => ?_⟩
          rw [List.length_append, List.length_singleton] at hi
          rcases Nat.lt_or_ge i l.length with g | g
          · rw [List.getElem_append_left g]; exact h2 i g
          · obtain rfl : i = k := by omega
            rw [List.getElem_append_right g]
            simpa [h1] using hq
      exact gen len (Nat.le_refl _)
    refine ⟨some a, l, cap, by rw [hll], fun h => ⟨a, rfl, ?_, fun j u hu => ?_⟩, by omega, fun h => (by cases h), fun R hR => ?_⟩
    · have := cell_block (hq 0 h).1.1
      rw [block_of_add] at this
      exact this
    · have hj : j < l.length * 3 := by
        have := (List.getElem?_eq_some_iff.1 hu).1
        rw [pcells_len] at this
        exact this
      have hi : j / 3 < l.length := by omega
      have hd : j % 3 < 3 := Nat.mod_lt _ (by omega)
      have ej : j = j / 3 * 3 + j % 3 := by omega
      obtain ⟨⟨q0, q1, q2⟩, _⟩ := hq _ hi
      rw [add_of_add] at q1 q2
      rw [ej] at hu ⊢
      have := pcells_at hi (j % 3) u hd hu
      rw [this]
      rcases (show j % 3 = 0 ∨ j % 3 = 1 ∨ j % 3 = 2 by omega) with e | e | e <;> rw [e]
      · exact q0
      · exact q1
      · exact q2
    · injection hx with hd hp
      subst hd
      have h2 : ((((List.range len).map D).length + ((List.range (m - len)).map fun j => D (len + j)).length) * Tryd.prog.bytesOf 31) ≤ R := hR _ (by simp only [DataW.weights, Tryd.underlying23, List.mem_cons]; exact Or.inl trivial)
      have hw : ∀ n ∈ DataW.weightsAll Tryd.prog 31 ((List.range len).map D), n ≤ R := fun n hn => hR n (by simp only [DataW.weights, Tryd.underlying23, List.mem_cons, List.mem_append]; exact Or.inr (Or.inl hn))
      refine ⟨fun x hx => ?_, ?_⟩
      · obtain ⟨i, hi, rfl⟩ := List.getElem_of_mem hx
        have hDm : D i ∈ (List.range len).map D := List.mem_map.2 ⟨i, List.mem_range.2 (by omega), rfl⟩
        refine hw _ (weights_all hDm _ ?_)
        rw [(hq i hi).2]
        simp only [pcD, DataW.weights, Tryd.underlying31, DataW.weightsEach, List.map_cons, List.map_nil, List.nil_append, List.append_nil, List.mem_singleton]
        exact Lib.size_eq _
      · rw [bytes31, List.length_map, List.length_range] at h2
        omega
theorem pieces_back {H : Type} {enc : TypeId × Value → H} {W W' : World} {v : Value} {d : DataW H} {p : List MemPlace} (h : DataW.Trod enc Tryd.prog W 0 (fun _ => true) true 23 v d p) (hb : Below W.heap.size W W') (hlt : ∀ x ∈ p, x.block < W.heap.size) (sp : Nat → Bool) (hs : ∀ x ∈ p, sp x.block = true) :
    DataW.Trod enc Tryd.prog W' 0 sp true 23 v d p :=
  WideElems.Trod_stays (by kernel_rfl) (by kernel_rfl) (of_decide_eq_true (by kernel_rfl)) h (fun x hx => hb.same (hlt x hx)) hs
end Go.Proofs.YtbgcngkofbelmaaDoor
