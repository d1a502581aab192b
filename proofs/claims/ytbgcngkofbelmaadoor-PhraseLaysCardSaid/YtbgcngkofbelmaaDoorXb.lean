/-
  Contracts of room and texts, the statements' own helpers. Conditions: the texts are in memory, and few.
-/
import Derived.Test.YtbgcngkofbelmaaDoorP
namespace Go.Proofs.YtbgcngkofbelmaaDoor
open Go.RowKit
open Ph
def scells (xs : List ByteArray) : List Value := xs.map .string
def tilde : ByteArray := ⟨#[126]⟩
theorem info9 : (Tryd.prog.info? 9).map (fun i => (i.zero, i.size, i.bytes)) = some (some (.string ⟨#[]⟩), 1, 16) := by kernel_rfl
theorem scells_one (xs : List ByteArray) : ∀ u ∈ scells xs, u.oneCell' = true := by
  intro u hu
  obtain ⟨x, _, rfl⟩ := List.mem_map.1 hu
  rfl
theorem Texts.cells {w : World} {B : Nat} {A : Option Addr} {xs : List ByteArray} (h : Texts w B A xs) : ∀ ad, A = some ad → ∀ j u, (scells xs)[j]? = some u → w.cell? (ad.add j) = some u := by
  intro ad e j u hu
  have hj : j < xs.length := by
    have := (List.getElem?_eq_some_iff.1 hu).1
    simpa [scells] using this
  obtain ⟨ad', e', _, hc⟩ := h (by omega)
  rw [e] at e'
  cases e'
  rw [hc j hj]
  have : (scells xs)[j]? = some (.string xs[j]) := by simp [scells, hj]
  rw [← hu, this]
theorem Texts.grown {w w' : World} {B : Nat} {A : Option Addr} {xs : List ByteArray} (h : Texts w B A xs) {row : Option Nat} (hg : w.grownBy w' row) (hB : B ≤ w.heap.size) (hr : ∀ k, row = some k → B ≤ k) : Texts w' B A xs :=
  h.below ((Below.refl B w).grown hg hB hr)
theorem Texts.of_own {w : World} {base : Nat} {g c : Nat} {xs ys : List ByteArray} (h : w.ownsRow base 9 1 (.slice (some ⟨g, 0, none⟩) (xs ++ ys).length c) (xs ++ ys).length (scells (xs ++ ys))) : Texts w w.heap.size (some ⟨g, 0, none⟩) xs := fun hn => by
  have hl : 0 < (xs ++ ys).length := by simp; omega
  refine ⟨⟨g, 0, none⟩, rfl, (h.lt g rfl).2, fun j hj => ?_⟩
  have := h.cells (g := g) rfl j (.string xs[j]) (by simp [scells, List.getElem?_append_left, hj])
  exact this
theorem reads_new1c (w : World) (a : Value) (t : TypeId) : ∀ j u, [a][j]? = some u → (w.alloc (.cells #[a] t)).cell? ((⟨w.heap.size, 0, none⟩ : Addr).add j) = some u := by
  obtain ⟨ad, e, _, hc⟩ := (reads_new1 w a t).2 (by omega)
  cases e
  exact hc
set_option maxRecDepth 100000 in
set_option maxHeartbeats 4000000 in
theorem room_any (A : Option Addr) (xs : List ByteArray) (cc B : Nat) (w : World) (hX : Texts w B A xs) (hA : A = none → xs.length = 0 ∧ cc = 0) (hB : B ≤ w.heap.size) (hl : xs.length ≤ 1000) :
    Calls Tryd.prog 21 #[.slice A xs.length cc] w fun e w' => e = .returned (.slice (some ⟨w.heap.size, 0, none⟩) (xs.length + 1) (xs.length + 3)) ∧ w'.ownsRow w.heap.size 9 1 (.slice (some ⟨w.heap.size, 0, none⟩) (xs.length + 1) (xs.length + 3)) (xs.length + 1) (scells (xs ++ [tilde])) ∧ Below w.heap.size w w' := by
  obtain ⟨i0, hi0, hz0, hz1, hz2⟩ := info_parts info9
  have hc1 := fun (w1 : World) (hg : w.grownBy w1 none) => (hX.grown hg hB (fun k hk => by cases hk)).cells
  go_enter Tryd.func21, Tryd.ntmps21
  go_wp2_with (first
    | (at_make; refine wpList_make_own _ rfl _ _ 38 rfl w.heap.size 9 i0 _ 1 Tryd.underlying38 hi0 hz0 hz1 .i64 .i64 _ (xs.length + 3) rfl rfl (by simp) (by rw [hz2]; omega) (by unfold maxLen; omega) (Nat.le_refl _) ?_; intro w1 hown1 hg1)
    | (at_builtin; refine wpList_append_fits_any _ rfl (.tmp 6) (.tmp 7) 38 rfl w.heap.size 9 i0 1 Tryd.underlying38 hi0 hz1 w.heap.size 0 (xs.length + 3) [] rfl hown1 A xs.length cc (scells xs) rfl (by simp [scells]) hA (hc1 w1 hg1) (scells_one _) (by omega) ?_; intro w2 hown2 hg2; simp only [Nat.zero_add, List.nil_append] at hown2 ⊢)
    | (at_builtin; go_loud (refine wpList_append_fits _ rfl (.tmp 8) (.tmp 9) 38 rfl w.heap.size 9 i0 1 Tryd.underlying38 hi0 hz1 w.heap.size xs.length (xs.length + 3) _ rfl (hown2.alloc _) ⟨w2.heap.size, 0, none⟩ 1 1 [.string ⟨#[126]⟩] rfl rfl (reads_new1c w2 _ _) (by intro u hu; simp at hu; rcases hu with rfl; rfl) (by omega) ?_); intro w3 hown3 hg3)
    | go_in)
  have s1 := hg1.size
  have b1 := (Below.refl w.heap.size w).grown hg1 (Nat.le_refl _) (fun k hk => by cases hk)
  have b2 := b1.grown hg2 b1.size (fun k hk => by cases hk; exact Nat.le_refl _)
  have b3 := b2.alloc b2.size (.cells #[.string ⟨#[126]⟩] 9)
  have b4 := b3.grown hg3 b3.size (fun k hk => by cases hk; exact Nat.le_refl _)
  refine bodyPost_ret (v := .slice (some ⟨w.heap.size, 0, none⟩) (xs.length + 1) (xs.length + 3)) ?_ rfl ⟨rfl, ?_, b4⟩
  · simp [results, Tryd.results21, go_sem]
  · have e : scells (xs ++ [tilde]) = scells xs ++ [.string ⟨#[126]⟩] := by simp [scells, tilde]
    rw [e]
    exact hown3
set_option maxRecDepth 100000 in
set_option maxHeartbeats 4000000 in
theorem texts_yes (A A' : Option Addr) (xs : List ByteArray) (c c' B B' : Nat) (w : World) (h : Texts w B A xs) (h' : Texts w B' A' xs) (hl : xs.length ≤ 1000000000000) :
    Calls Tryd.prog 23 #[.slice A xs.length c, .slice A' xs.length c'] w fun e w' => e = .returned (.bool true) ∧ Below w.heap.size w w' := by
  go_enter Tryd.func23, Tryd.ntmps23
  go_wp2_with fail
  go_loopw [13] (fun u wr => ∃ i : Nat, u = .int .i64 i ∧ i ≤ xs.length ∧ Texts wr B A xs ∧ Texts wr B' A' xs ∧ Below w.heap.size w wr) (fun u _ => xs.length - (intOf u).toNat)
  case atStart => exact ⟨0, rfl, by omega, h, h', Below.refl _ _⟩
  case round =>
    obtain ⟨i, rfl, hi, g, g', hb⟩ := hrel
    by_cases hlt : i < xs.length
    · obtain ⟨ad, rfl, b0, cx⟩ := g (by omega)
      obtain ⟨ad', rfl, b0', cy⟩ := g' (by omega)
      have c0 := cx i hlt
      have d0 := cy i hlt
      clear cx cy
      go_wp2_with fail
      go_quiet (fail)
      go_wp2_with fail
      go_roundw
      case rel => exact ⟨i + 1, by go_num, by omega, g, g', blw_drewN hb _⟩
      case measure => simp [intOf]; omega
    · go_wp2_with fail
      refine bodyPost_ret (v := .bool true) ?_ rfl ⟨rfl, hb⟩
      simp [results, Tryd.results23, go_sem]
end Go.Proofs.YtbgcngkofbelmaaDoor
