/-
  A slice of texts among the arguments: what it reads as, and that it is handed back as it came. Condition: it lies in memory.
-/
import Derived.Test.YtbgcngkofbelmaaDoorXd
import Derived.Test.YtbgcngkofbelmaaDoorT
import Derived.SliceStrings
namespace Go.Proofs.YtbgcngkofbelmaaDoor
open Go.ChangeShapes Go.WideShapes Go.ChangeAt Go.RowKit Go.ChangeMaps
theorem weights_all {H : Type} {P : Program} {e : TypeId} {d : DataW H} : ∀ {l : List (DataW H)}, d ∈ l → ∀ n ∈ d.weights P e, n ∈ DataW.weightsAll P e l
  | [], h, _, _ => by cases h
  | x :: r, h, n, hn => by
    rw [DataW.weightsAll, List.mem_append]
    rcases List.mem_cons.1 h with rfl | h
    · exact Or.inl hn
    · exact Or.inr (weights_all h n hn)
theorem cell_block {w : World} {a : Addr} {v : Value} (h : w.cell? a = some v) : a.block < w.heap.size := by
  rcases Nat.lt_or_ge a.block w.heap.size with g | g
  · exact g
  · unfold World.cell? at h
    rw [Array.getElem?_eq_none g] at h
    simp at h
theorem cells9 : Tryd.prog.cellsOf 9 = 1 := by kernel_rfl
theorem bytes9 : Tryd.prog.bytesOf 9 = 16 := by kernel_rfl
set_option maxRecDepth 100000 in
theorem open_texts {H : Type} {enc : TypeId × Value → H} {W : World} {base : Nat} {v : Value} {d : DataW H} {p : List MemPlace} (h : DataW.Trod enc Tryd.prog W 0 (fun _ => true) true 38 v d p) (hok : Value.okWide Tryd.prog W .any base 38 v) :
    ∃ A xs cc, v = .slice A xs.length cc ∧ Texts W W.heap.size A xs ∧ xs.length ≤ cc ∧ (A = none → cc = 0) ∧ ∀ R, (∀ n ∈ d.weights Tryd.prog 38, n ≤ R) → (∀ x ∈ xs, x.size ≤ R) ∧ xs.length ≤ R := by
  obtain ⟨a0, len, cap, rfl⟩ := okWide_slice Tryd.underlying38 hok
  obtain ⟨fuel, hf⟩ := h
  rcases open_strings Tryd.underlying38 Tryd.underlying9 cells9 hf with ⟨hcs, hx⟩ | ⟨a, len', cap', ss, hcs, _, hl, hm, hz, hx, hcell, hsz⟩
  · cases hcs
    exact ⟨none, [], 0, rfl, fun h => absurd h (by simp), Nat.le_refl _, fun _ => rfl, fun R _ => ⟨fun x hx => (by cases hx), Nat.zero_le _⟩⟩
  · cases hcs
    simp only [if_true] at hz
    have hlen : (ss.take len).length = len := by rw [List.length_take]; omega
    refine ⟨some a, ss.take len, cap, by rw [hlen], fun h => ⟨a, rfl, ?_, fun j hj => ?_⟩, by rw [hlen]; exact hl, fun h => (by cases h), fun R hR => ?_⟩
    · rw [hlen] at h
      have := cell_block (hcell 0 (by omega))
      rw [block_of_add] at this
      exact this
    · rw [hlen] at hj
      rw [hcell j (by omega), List.getElem_take]
      simp [show j < ss.length by omega]
    · injection hx with hd hp
      subst hd
      have hw : ∀ n ∈ DataW.weightsAll Tryd.prog 9 (strs (H := H) (ss.take len)), n ≤ R := fun n hn => hR n (by simp only [DataW.weights, Tryd.underlying38, List.mem_cons, List.mem_append]; exact Or.inr (Or.inl hn))
      have h2 : ((strs (H := H) (ss.take len)).length + (strs (H := H) (ss.drop len)).length) * Tryd.prog.bytesOf 9 ≤ R := hR _ (by simp only [DataW.weights, Tryd.underlying38, List.mem_cons]; exact Or.inl trivial)
      refine ⟨fun x hx => ?_, ?_⟩
      · exact hw _ (weights_all (d := .lit (.string x.data.toList)) (List.mem_map.2 ⟨x, hx, rfl⟩) _ (by simp only [DataW.weights, List.mem_singleton]; exact Lib.size_eq x))
      · rw [bytes9] at h2
        simp only [strs, List.length_map] at h2
        omega
theorem texts_back {H : Type} {enc : TypeId × Value → H} {W W' : World} {v : Value} {d : DataW H} {p : List MemPlace} (h : DataW.Trod enc Tryd.prog W 0 (fun _ => true) true 38 v d p) (hb : Below W.heap.size W W') (hlt : ∀ x ∈ p, x.block < W.heap.size) (sp : Nat → Bool) (hs : ∀ x ∈ p, sp x.block = true) :
    DataW.Trod enc Tryd.prog W' 0 sp true 38 v d p :=
  WideElems.Trod_stays (by kernel_rfl) (by kernel_rfl) (of_decide_eq_true (by kernel_rfl)) h (fun x hx => hb.same (hlt x hx)) hs
theorem sized_of {H : Type} {ts : List TypeId} {ds : List (DataW H)} (hsz : (DataW.weightsEach Tryd.prog ts ds).all (· ≤ reachBytes) = true) {j : Nat} {t : TypeId} {d : DataW H} (ht : ts[j]? = some t) (hd : ds[j]? = some d) : ∀ n ∈ d.weights Tryd.prog t, n ≤ 281474976710656 := fun n hn => by
  have := List.all_eq_true.1 hsz _ (DataW.weights_mem_each ht hd n hn)
  have h2 : n ≤ reachBytes := by simpa using this
  exact Nat.le_trans h2 (by decide)
end Go.Proofs.YtbgcngkofbelmaaDoor
