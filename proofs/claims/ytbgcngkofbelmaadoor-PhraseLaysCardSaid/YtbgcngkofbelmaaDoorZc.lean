/-
  The walk of PhrasePrints: it answers yes. Conditions: the pieces' texts are short enough to be in memory; the two listed error variables are laid.
-/
import Derived.Test.YtbgcngkofbelmaaDoorXe
import Derived.Test.YtbgcngkofbelmaaDoorYc
namespace Go.Proofs.YtbgcngkofbelmaaDoor
open Go.RowKit
open Ph
theorem Lists.cells {w : World} {B : Nat} {A : Option Addr} {l : List Pc} (h : Lists w B A l) : ∀ ad, A = some ad → ∀ j u, (pcells l)[j]? = some u → w.cell? (ad.add j) = some u := by
  intro ad e j u hu
  have hj : 0 < l.length := by
    rcases Nat.eq_zero_or_pos l.length with z | z
    · rw [List.eq_nil_of_length_eq_zero z] at hu; simp [pcells] at hu
    · exact z
  obtain ⟨ad', e', _, hc⟩ := h hj
  rw [e] at e'
  cases e'
  exact hc j u hu
theorem Lists.grown {w w' : World} {B : Nat} {A : Option Addr} {xs : List Pc} (h : Lists w B A xs) {row : Option Nat} (hg : w.grownBy w' row) (hB : B ≤ w.heap.size) (hr : ∀ k, row = some k → B ≤ k) : Lists w' B A xs :=
  h.below ((Below.refl B w).grown hg hB hr)
theorem pcells_size (l : List Pc) : (pcells l).length = l.length * 3 := by
  unfold pcells
  induction l with
  | nil => rfl
  | cons p l ih => rw [List.flatMap_cons, List.length_append, ih, List.length_cons]; simp; omega
theorem reads_new3c (w : World) (a b c : Value) (t : TypeId) : ∀ j u, [a, b, c][j]? = some u → (w.alloc (.cells #[a, b, c] t)).cell? ((⟨w.heap.size, 0, none⟩ : Addr).add j) = some u := by
  obtain ⟨ad, e, _, hc⟩ := (reads_new3 w a b c t).2 (by omega)
  cases e
  exact hc
theorem Lists.of_room {w : World} {base g n c : Nat} {ys : List Pc} {more : List Value} (h : w.ownsRow base 31 3 (.slice (some ⟨g, 0, none⟩) n c) n (pcells ys ++ more)) : Lists w w.heap.size (some ⟨g, 0, none⟩) ys := fun _ => by
  refine ⟨⟨g, 0, none⟩, rfl, (h.lt g rfl).2, fun j u hu => h.cells (g := g) rfl j u ?_⟩
  rw [List.getElem?_append_left (List.getElem?_eq_some_iff.1 hu).1]
  exact hu
theorem room_seven {w : World} {base g n c : Nat} {ys : List Pc} (h : w.ownsRow base 31 3 (.slice (some ⟨g, 0, none⟩) n c) n (pcells ys ++ [.int .i64 7, .string ⟨#[]⟩, .int .i64 0])) : w.cell? ⟨g, ys.length * 3, none⟩ = some (.int .i64 7) := by
  have := h.cells (g := g) rfl (ys.length * 3) (.int .i64 7) (by rw [List.getElem?_append_right (by rw [pcells_size]; omega), pcells_size]; simp)
  rw [show (⟨g, 0, none⟩ : Addr).add (ys.length * 3) = ⟨g, ys.length * 3, none⟩ by
    unfold Addr.add; split
    · rename_i h; rw [h]
    · simp] at this
  exact this
set_option maxRecDepth 100000 in
set_option maxHeartbeats 8000000 in
theorem pprints_yes (A : Option Addr) (l0 : List Pc) (cc B : Nat) (hls : ∀ p ∈ l0, p.text.size ≤ 281474976710656) (hcc : l0.length ≤ cc) (hA : A = none → cc = 0)
    (w : World) (hg : Glob w) (hX : Lists w B A l0) (hB : B ≤ w.heap.size) : Calls Tryd.prog 10 #[.slice A l0.length cc] w fun e w' => e = .returned (.bool true) ∧ Below w.heap.size w w' := by
  have HW := wakes_yes w hg
  obtain ⟨ys, hys⟩ : ∃ ys, ys = l0.take 200 := ⟨_, rfl⟩
  have hyl : ys.length = min l0.length 200 := by rw [hys, List.length_take]; omega
  have hm1 : min (l0.length : Int) 200 = (ys.length : Int) := by omega
  have hm2 : ys.length ≤ cc := by omega
  have hY : Lists w B A ys := hys ▸ hX.take 200
  have hysz : ∀ p ∈ ys, p.text.size ≤ 281474976710656 := fun x hx => hls x (List.mem_of_mem_take (hys ▸ hx))
  have hys4 : ys.length ≤ 200 := by omega
  have htY := tells_all hysz
  have hAy : A = none → ys.length = 0 ∧ cc = 0 := fun h => by have := hA h; omega
  clear hys hyl hls hX
  obtain ⟨fa, fb, hfv⟩ : ∃ fa fb : Int, faultV (badAt ys) = .agg #[.int .i64 fa, .int .i64 fb] := by
    cases badAt ys with
    | none => exact ⟨0, 0, rfl⟩
    | some k => exact ⟨2, k, rfl⟩
  have HC := fun A c B w h1 h2 => check_any A ys c B htY (by omega) w h1 h2
  have HR := fun A c B w h1 h2 => refCheck A ys c B hysz (by omega) w h1 h2
  rw [hfv] at HC HR
  obtain ⟨i0, hi0, hz0, hz1, hz2⟩ := info_parts info31
  have hpl := pcells_size ys
  go_enter Tryd.func10, Tryd.ntmps10
  go_wp2_with (first
    | (go_at_call 11; refine HW.mono ?_; rintro e w1 ⟨rfl, hb1⟩; have hY1 := hY.below (hb1.mono hB); have hB1 := Nat.le_trans hB hb1.size; have hc1 := fun (w2 : World) (hg : w1.grownBy w2 none) => (hY1.grown hg hB1 (fun k hk => by cases hk)).cells)
    | (at_make; refine wpList_make_own _ rfl _ _ 23 rfl w1.heap.size 31 i0 _ 3 Tryd.underlying23 hi0 hz0 hz1 .i64 .i64 _ (ys.length + 3) rfl rfl (by simp) (by rw [hz2]; omega) (by unfold maxLen; omega) (Nat.le_refl _) ?_; intro w2 hown1 hg1)
    | (at_builtin; refine wpList_append_fits_any _ rfl (.tmp 18) (.tmp 19) 23 rfl w1.heap.size 31 i0 3 Tryd.underlying23 hi0 hz1 w1.heap.size 0 (ys.length + 3) [] rfl hown1 A ys.length cc (pcells ys) rfl hpl hAy (hc1 w2 hg1) (pcells_one _) (by omega) ?_; intro w3 hown2 hg2; simp only [Nat.zero_add, List.nil_append] at hown2 ⊢)
    | (at_builtin; refine wpList_append_fits _ rfl (.tmp 20) (.tmp 22) 23 rfl w1.heap.size 31 i0 3 Tryd.underlying23 hi0 hz1 w1.heap.size ys.length (ys.length + 3) _ rfl (hown2.alloc _) ⟨w3.heap.size, 0, none⟩ 1 1 [.int .i64 7, .string ⟨#[]⟩, .int .i64 0] rfl rfl (reads_new3c w3 _ _ _ _) (by intro u hu; simp at hu; rcases hu with rfl | rfl | rfl <;> rfl) (by omega) ?_; intro w4 hown3 hg3)
    | (go_at_call 18; have b2 := (Below.refl w1.heap.size w1).grown hg1 (Nat.le_refl _) (fun k hk => by cases hk); have b3 := b2.grown hg2 b2.size (fun k hk => by cases hk; exact Nat.le_refl _); have b4 := b3.alloc b3.size (.cells #[.int .i64 7, .string ⟨#[]⟩, .int .i64 0] 31); have b5 := b4.grown hg3 b4.size (fun k hk => by cases hk; exact Nat.le_refl _); have hbW := hb1.trans (b5.mono hb1.size); have hT4 := Lists.of_room hown3; have h7 := room_seven hown3; have hlt4 := (hown3.lt w1.heap.size rfl).2; have hY4 := hY.below (hbW.mono hB); refine (print_any _ ys (ys.length + 3) w4.heap.size htY (by omega) w4 hT4 (Nat.le_refl _)).mono ?_; unfold printR; rintro e w5 ⟨rfl, hb5⟩)
    | (go_at_call 25; have hb6 := hbW.trans (hb5.mono hbW.size); have hT5 := hT4.below hb5; have h75 := (hb5.cell (p := ⟨w1.heap.size, ys.length * 3, none⟩) hlt4).trans h7; have hY5 := hY4.below (hb5.mono (Nat.le_trans hB hbW.size)); refine (refPrint A ys cc B hysz (by omega) w5 hY5 (Nat.le_trans hB hb6.size)).mono ?_; unfold printR; rintro e w6 ⟨rfl, hb7⟩)
    | (go_at_call 19; have hb8 := hb6.trans (hb7.mono hb6.size); have hT6 := hT5.below (hb7.mono hb5.size); have h76 := (hb7.cell (p := ⟨w1.heap.size, ys.length * 3, none⟩) (Nat.lt_of_lt_of_le hlt4 hb5.size)).trans h75; have hY6 := hY5.below (hb7.mono (Nat.le_trans hB hb6.size)); refine (HC _ (ys.length + 3) w4.heap.size w6 hT6 (Nat.le_trans hb5.size hb7.size)).mono ?_; rintro e w7 ⟨rfl, hb9⟩)
    | (go_at_call 26; have hb10 := hb8.trans (hb9.mono hb8.size); have n7 := Nat.le_trans hb5.size hb7.size; have hT7 := hT6.below (hb9.mono n7); have h77 := (hb9.cell (p := ⟨w1.heap.size, ys.length * 3, none⟩) (Nat.lt_of_lt_of_le hlt4 n7)).trans h76; have hY7 := hY6.below (hb9.mono (Nat.le_trans hB hb8.size)); refine (HR A cc B w7 hY7 (Nat.le_trans hB hb10.size)).mono ?_; rintro e w8 ⟨rfl, hb11⟩)
    | (go_at_call 14; have hb12 := hb10.trans (hb11.mono hb10.size); have n8 := Nat.le_trans n7 hb9.size; have hT8 := hT7.below (hb11.mono n8); have h78 := (hb11.cell (p := ⟨w1.heap.size, ys.length * 3, none⟩) (Nat.lt_of_lt_of_le hlt4 n8)).trans h77; have hY8 := hY7.below (hb11.mono (Nat.le_trans hB hb10.size)); refine (exact_yes _ A ys (ys.length + 3) cc _ _ w8 hT8 hY8 (by omega)).mono ?_; rintro e w9 ⟨rfl, hb13⟩; have h79 := (hb13.cell (p := ⟨w1.heap.size, ys.length * 3, none⟩) (Nat.lt_of_lt_of_le hlt4 (Nat.le_trans n8 hb11.size))).trans h78; have hb14 := hb12.trans (hb13.mono hb12.size))
    | go_in)
  refine bodyPost_ret (v := .bool true) ?_ rfl ⟨rfl, hb14⟩
  simp [results, Tryd.results10, go_sem]
end Go.Proofs.YtbgcngkofbelmaaDoor
