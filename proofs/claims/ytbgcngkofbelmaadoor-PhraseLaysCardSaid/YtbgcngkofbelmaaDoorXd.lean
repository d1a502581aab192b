/-
  The walk of PhraseFills: it answers yes. Conditions: the texts are short enough to be in memory; the two listed error variables are laid.
-/
import Derived.Test.YtbgcngkofbelmaaDoorXb
import Derived.Test.YtbgcngkofbelmaaDoorXc
import Derived.Test.YtbgcngkofbelmaaDoorVa
import Derived.Test.YtbgcngkofbelmaaDoorS
namespace Go.Proofs.YtbgcngkofbelmaaDoor
open Go.RowKit
open Ph
theorem par_sizes {s : ByteArray} {i : Nat} {r : Except Nat (List Pc)} (h : Par s i r) : ∀ l, r = .ok l → ∀ p ∈ l, p.text.size ≤ s.size := by
  induction h with
  | fin i h => rintro l ⟨⟩ p hp; cases hp
  | opens i j n r h h1 hj hj' h2 h3 hp hr ih =>
    intro l e
    cases r with
    | error k => cases e
    | ok m =>
      simp only [pre, Except.ok.injEq] at e
      subst e
      intro p hm
      rcases List.mem_cons.1 hm with rfl | hm
      · exact Nat.zero_le _
      · exact ih m rfl p hm
  | noclose i h h1 h3 => rintro l ⟨⟩
  | badplace i j h h1 hj hj' h2 h3 hp => rintro l ⟨⟩
  | closes i h h1 => rintro l ⟨⟩
  | text i k r h hk hk' h1 h2 hr ih =>
    intro l e
    cases r with
    | error k => cases e
    | ok m =>
      simp only [pre, Except.ok.injEq] at e
      subst e
      intro p hm
      rcases List.mem_cons.1 hm with rfl | hm
      · show (s.extract i k).size ≤ s.size
        rw [ByteArray.size_extract]; omega
      · exact ih m rfl p hm
theorem Fine.sizes {s : ByteArray} {l : List Pc} (h : Fine s l) (hs : s.size ≤ 281474976710656) : ∀ p ∈ l, p.text.size ≤ 281474976710656 := fun p hp => Nat.le_trans (par_sizes h.2.2 l rfl p hp) hs
theorem Texts.drewN {w : World} {B : Nat} {A : Option Addr} {xs : List ByteArray} (h : Texts w B A xs) (k : Nat) : Texts (w.drewN k) B A xs := h
theorem Lists.drewN {w : World} {B : Nat} {A : Option Addr} {xs : List Pc} (h : Lists w B A xs) (k : Nat) : Lists (w.drewN k) B A xs := h
theorem Texts.take {w : World} {B : Nat} {A : Option Addr} {xs : List ByteArray} (h : Texts w B A xs) (n : Nat) : Texts w B A (xs.take n) := fun hn => by
  obtain ⟨ad, e, hb, hc⟩ := h (by have := List.length_take_le n xs; rw [List.length_take] at hn; omega)
  refine ⟨ad, e, hb, fun j hj => ?_⟩
  rw [List.length_take] at hj
  rw [hc j (by omega), List.getElem_take]
set_option maxRecDepth 100000 in
set_option maxHeartbeats 8000000 in
theorem pfills_wrong {s : ByteArray} {a b : Int} (A : Option Addr) (xs : List ByteArray) (cc B : Nat) (hs : s.size ≤ 281474976710656) (hf : Wrong s a b) (hxs : ∀ x ∈ xs, x.size ≤ 281474976710656) (hcc : xs.length ≤ cc) (hA : A = none → cc = 0)
    (w : World) (hg : Glob w) (hX : Texts w B A xs) (hB : B ≤ w.heap.size) : Calls Tryd.prog 8 #[.string s, .slice A xs.length cc] w fun e w' => e = .returned (.bool true) ∧ Below w.heap.size w w' := by
  have HW := wakes_yes w hg
  obtain ⟨ys, hys⟩ : ∃ ys, ys = xs.take 20 := ⟨_, rfl⟩
  have hyl : ys.length = min xs.length 20 := by rw [hys, List.length_take]; omega
  have hm1 : min (xs.length : Int) 20 = (ys.length : Int) := by omega
  have hm2 : ys.length ≤ cc := by omega
  have hY : Texts w B A ys := hys ▸ hX.take 20
  have hysz : ∀ x ∈ ys, x.size ≤ 281474976710656 := fun x hx => hxs x (List.mem_of_mem_take (hys ▸ hx))
  have hAy : A = none → ys.length = 0 ∧ cc = 0 := fun h => by have := hA h; omega
  have hys4 : ys.length ≤ 20 := by omega
  clear hys hyl
  have hz := hf.nz
  have t1 : (a == 0) = false := by simpa using hz
  go_enter Tryd.func8, Tryd.ntmps8
  go_wp2_with (go_at_call 11; refine HW.mono ?_; rintro e w1 ⟨rfl, hb1⟩)
  have hY1 := hY.below (hb1.mono hB)
  have HR := room_any A ys cc B w1 hY1 hAy (Nat.le_trans hB hb1.size) (by omega)
  refine HR.mono ?_
  rintro e w2 ⟨rfl, ho, hb2⟩
  have hb3 := hb1.trans (hb2.mono hb1.size)
  have hT2 : Texts w2 w2.heap.size (some ⟨w1.heap.size, 0, none⟩) ys := Texts.of_own (ys := [tilde]) (by rw [List.length_append]; exact ho)
  have hY2 := hY.below (hb3.mono hB)
  have hcell : w2.cell? ⟨w1.heap.size, ys.length, none⟩ = some (.string tilde) := by
    rw [ho.cellAt ys.length (by omega)]
    simp [scells]
  have hlt2 := (ho.lt w1.heap.size rfl).2
  have hys3 : ys.length ≤ ys.length + 3 := by omega
  unfold tilde at hcell
  clear ho HR hY1 HW
  have HF := fill_wrong hs hf (.slice (some ⟨w1.heap.size, 0, none⟩) ys.length (ys.length + 3)) w2 (hg.below hb3 hg.size)
  go_wp2_with (go_at_call 17; refine HF.mono ?_; rintro e w3 ⟨rfl, hb4⟩)
  have hb5 := hb3.trans (hb4.mono hb3.size)
  refine (WrongP.calls (ref_wrong hs hf w3)).mono ?_
  rintro e w4 ⟨rfl, hb6⟩
  have hb7 := hb5.trans (hb6.mono hb5.size)
  have hS := Blk.new w4 26 #[.int .i64 a, .int .i64 b]
  have hc4 : w4.cell? ⟨w1.heap.size, ys.length, none⟩ = some (.string ⟨#[126]⟩) := (hb6.cell (p := ⟨w1.heap.size, ys.length, none⟩) (Nat.lt_of_lt_of_le hlt2 hb4.size)).trans ((hb4.cell (p := ⟨w1.heap.size, ys.length, none⟩) hlt2).trans hcell)
  have hT4 := (hT2.below hb4).below (hb6.mono hb4.size)
  have hY4 := (hY.below (hb7.mono hB))
  have c0 := hS.at_ 0 (v := .int .i64 a) rfl
  have c1 := hS.at_ 1 (v := .int .i64 b) rfl
  have hb8 := hb7.alloc hb7.size (.cells #[.int .i64 a, .int .i64 b] 26)
  have hT5 := hT4.alloc (Nat.le_trans hb4.size hb6.size) (.cells #[.int .i64 a, .int .i64 b] 26)
  have hY5 := hY4.alloc (Nat.le_trans hB hb7.size) (.cells #[.int .i64 a, .int .i64 b] 26)
  have hc5 : (w4.alloc (.cells #[.int .i64 a, .int .i64 b] 26)).cell? ⟨w1.heap.size, ys.length, none⟩ = some (.string ⟨#[126]⟩) := ((((Below.refl _ w4).alloc (Nat.le_refl _) (.cells #[.int .i64 a, .int .i64 b] 26)).cell (p := ⟨w1.heap.size, ys.length, none⟩) (Nat.lt_of_lt_of_le hlt2 (Nat.le_trans hb4.size hb6.size)))).trans hc4
  have s4 := Nat.lt_of_lt_of_le hlt2 (Nat.le_trans hb4.size hb6.size)
  clear HF hcell hT2 hY2 hT4 hY4 hY
  go_wp2_with fail
  go_quiet (fail)
  go_wp2_with fail
  refine (texts_yes _ _ ys _ _ _ _ _ (hT5.drewN nq) (hY5.drewN nq) (by omega)).mono ?_
  rintro e w5 ⟨rfl, hb9⟩
  have hc6 : w5.cell? ⟨w1.heap.size, ys.length, none⟩ = some (.string ⟨#[126]⟩) := (hb9.cell (p := ⟨w1.heap.size, ys.length, none⟩) (Nat.lt_of_lt_of_le s4 (by simp))).trans hc5
  go_wp2_with fail
  refine bodyPost_ret (v := .bool true) ?_ rfl ⟨rfl, (blw_drewN hb8 _).trans (hb9.mono (Nat.le_trans hb8.size (Nat.le_refl _)))⟩
  simp [results, Tryd.results8, go_sem]
set_option maxRecDepth 100000 in
set_option maxHeartbeats 8000000 in
theorem pfills_fine {s : ByteArray} {l : List Pc} (A : Option Addr) (xs : List ByteArray) (cc B : Nat) (hs : s.size ≤ 281474976710656) (hf : Fine s l) (hxs : ∀ x ∈ xs, x.size ≤ 281474976710656) (hcc : xs.length ≤ cc) (hA : A = none → cc = 0)
    (w : World) (hg : Glob w) (hX : Texts w B A xs) (hB : B ≤ w.heap.size) : Calls Tryd.prog 8 #[.string s, .slice A xs.length cc] w fun e w' => e = .returned (.bool true) ∧ Below w.heap.size w w' := by
  have HW := wakes_yes w hg
  obtain ⟨ys, hys⟩ : ∃ ys, ys = xs.take 20 := ⟨_, rfl⟩
  have hyl : ys.length = min xs.length 20 := by rw [hys, List.length_take]; omega
  have hm1 : min (xs.length : Int) 20 = (ys.length : Int) := by omega
  have hm2 : ys.length ≤ cc := by omega
  have hY : Texts w B A ys := hys ▸ hX.take 20
  have hysz : ∀ x ∈ ys, x.size ≤ 281474976710656 := fun x hx => hxs x (List.mem_of_mem_take (hys ▸ hx))
  have hAy : A = none → ys.length = 0 ∧ cc = 0 := fun h => by have := hA h; omega
  have hys4 : ys.length ≤ 20 := by omega
  clear hys hyl
  have hsz := hf.sizes hs
  have ht := tells_all hsz
  have hln := hf.len
  go_enter Tryd.func8, Tryd.ntmps8
  go_wp2_with (go_at_call 11; refine HW.mono ?_; rintro e w1 ⟨rfl, hb1⟩)
  have hY1 := hY.below (hb1.mono hB)
  have HR := room_any A ys cc B w1 hY1 hAy (Nat.le_trans hB hb1.size) (by omega)
  refine HR.mono ?_
  rintro e w2 ⟨rfl, ho, hb2⟩
  have hb3 := hb1.trans (hb2.mono hb1.size)
  have hT2 : Texts w2 w2.heap.size (some ⟨w1.heap.size, 0, none⟩) ys := Texts.of_own (ys := [tilde]) (by rw [List.length_append]; exact ho)
  have hY2 := hY.below (hb3.mono hB)
  have hcell : w2.cell? ⟨w1.heap.size, ys.length, none⟩ = some (.string tilde) := by
    rw [ho.cellAt ys.length (by omega)]
    simp [scells]
  have hlt2 := (ho.lt w1.heap.size rfl).2
  have hys3 : ys.length ≤ ys.length + 3 := by omega
  unfold tilde at hcell
  clear ho HR hY1 HW
  have HF := fill_fine (some ⟨w1.heap.size, 0, none⟩) ys (ys.length + 3) w2.heap.size hs hf ht (by omega) hysz w2 (hg.below hb3 hg.size) hT2 (Nat.le_refl _)
  unfold layR at HF
  go_wp2_with (go_at_call 17; refine HF.mono ?_; rintro e w3 ⟨rfl, hb4⟩)
  have hb5 := hb3.trans (hb4.mono hb3.size)
  refine (FineP.calls (ref_fine hs hf w3)).mono ?_
  rintro e w4 ⟨L, lc, rfl, _, hL, hb6⟩
  have hb7 := hb5.trans (hb6.mono hb5.size)
  have hS := Blk.new w4 26 #[.int .i64 0, .int .i64 0]
  have hT4 := (hT2.below hb4).below (hb6.mono hb4.size)
  have hY4 := (hY.below (hb7.mono hB))
  have c0 := hS.at_ 0 (v := .int .i64 0) rfl
  have c1 := hS.at_ 1 (v := .int .i64 0) rfl
  have hb8 := hb7.alloc hb7.size (.cells #[.int .i64 0, .int .i64 0] 26)
  have hT5 := hT4.alloc (Nat.le_trans hb4.size hb6.size) (.cells #[.int .i64 0, .int .i64 0] 26)
  have hY5 := hY4.alloc (Nat.le_trans hB hb7.size) (.cells #[.int .i64 0, .int .i64 0] 26)
  have hL5 := hL.alloc (Nat.le_refl _) (.cells #[.int .i64 0, .int .i64 0] 26)
  have s4 := Nat.lt_of_lt_of_le hlt2 (Nat.le_trans hb4.size hb6.size)
  have hc5 : (w4.alloc (.cells #[.int .i64 0, .int .i64 0] 26)).cell? ⟨w1.heap.size, ys.length, none⟩ = some (.string ⟨#[126]⟩) := ((((Below.refl _ w4).alloc (Nat.le_refl _) (.cells #[.int .i64 0, .int .i64 0] 26)).cell (p := ⟨w1.heap.size, ys.length, none⟩) s4)).trans ((hb6.cell (p := ⟨w1.heap.size, ys.length, none⟩) (Nat.lt_of_lt_of_le hlt2 hb4.size)).trans ((hb4.cell (p := ⟨w1.heap.size, ys.length, none⟩) hlt2).trans hcell))
  clear HF hcell hT2 hY2 hT4 hY4 hY hL hf ht
  go_wp2_with fail
  go_quiet (fail)
  go_wp2_with fail
  have HQ := refLay L l lc w4.heap.size A ys cc hsz (by omega) (by omega) hysz _ (hL5.drewN nq) (Texts.more (hY5.drewN nq) (Nat.le_trans hB hb7.size)) (by simp)
  unfold layR at HQ
  generalize (layP ys l).1 = q1 at *
  generalize (layP ys l).2 = q2 at *
  refine HQ.mono ?_
  rintro e w5 ⟨rfl, hb9⟩
  have hT6 := (hT5.drewN nq).below (hb9.mono (Nat.le_of_lt (Nat.lt_of_le_of_lt (Nat.le_trans hb4.size hb6.size) (by simp))))
  have hY6 := (hY5.drewN nq).below (hb9.mono (Nat.le_trans hB hb8.size))
  have hc6 : w5.cell? ⟨w1.heap.size, ys.length, none⟩ = some (.string ⟨#[126]⟩) := (hb9.cell (p := ⟨w1.heap.size, ys.length, none⟩) (Nat.lt_of_lt_of_le s4 (by simp))).trans hc5
  have hb10 := (blw_drewN hb8 _).trans (hb9.mono hb8.size)
  go_wp2_with fail
  refine (texts_yes _ _ ys _ _ _ _ _ hT6 hY6 (by omega)).mono ?_
  rintro e w6 ⟨rfl, hb11⟩
  have hc7 : w6.cell? ⟨w1.heap.size, ys.length, none⟩ = some (.string ⟨#[126]⟩) := (hb11.cell (p := ⟨w1.heap.size, ys.length, none⟩) (Nat.lt_of_lt_of_le s4 (Nat.le_trans (by simp) hb9.size))).trans hc6
  go_wp2_with fail
  refine bodyPost_ret (v := .bool true) ?_ rfl ⟨rfl, hb10.trans (hb11.mono hb10.size)⟩
  simp [results, Tryd.results8, go_sem]
end Go.Proofs.YtbgcngkofbelmaaDoor
