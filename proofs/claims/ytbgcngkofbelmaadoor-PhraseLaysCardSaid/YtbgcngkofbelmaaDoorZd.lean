/-
  The walk of PhraseLays: it answers yes. Conditions: the texts are short enough to be in memory; the two listed error variables are laid.
-/
import Derived.Test.YtbgcngkofbelmaaDoorZc
namespace Go.Proofs.YtbgcngkofbelmaaDoor
open Go.RowKit
open Ph
theorem Lists.reads {w : World} {B : Nat} {A : Option Addr} {l : List Pc} (h : Lists w B A l) : Reads w B 3 A l.length (pcells l) := ⟨pcells_size l, h⟩
set_option maxRecDepth 100000 in
set_option maxHeartbeats 8000000 in
theorem plays_yes (A : Option Addr) (l0 : List Pc) (cc B : Nat) (AA : Option Addr) (xs : List ByteArray) (dd : Nat) (hls : ∀ p ∈ l0, p.text.size ≤ 281474976710656) (hcc : l0.length ≤ cc)
    (hxs : ∀ x ∈ xs, x.size ≤ 281474976710656) (hdd : xs.length ≤ dd) (hAA : AA = none → dd = 0)
    (w : World) (hg : Glob w) (hL0 : Lists w B A l0) (hX0 : Texts w B AA xs) (hB : B ≤ w.heap.size) : Calls Tryd.prog 9 #[.slice A l0.length cc, .slice AA xs.length dd] w fun e w' => e = .returned (.bool true) ∧ Below w.heap.size w w' := by
  have HW := wakes_yes w hg
  obtain ⟨ys, hys⟩ : ∃ ys, ys = l0.take 200 := ⟨_, rfl⟩
  have hyl : ys.length = min l0.length 200 := by rw [hys, List.length_take]; omega
  have hm1 : min (l0.length : Int) 200 = (ys.length : Int) := by omega
  have hm2 : ys.length ≤ cc := by omega
  have hY : Lists w B A ys := hys ▸ hL0.take 200
  have hysz : ∀ p ∈ ys, p.text.size ≤ 281474976710656 := fun x hx => hls x (List.mem_of_mem_take (hys ▸ hx))
  have hys4 : ys.length ≤ 200 := by omega
  have htY := tells_all hysz
  clear hys hyl hls hL0
  obtain ⟨zs, hzs⟩ : ∃ zs, zs = xs.take 20 := ⟨_, rfl⟩
  have hzl : zs.length = min xs.length 20 := by rw [hzs, List.length_take]; omega
  have hn1 : min (xs.length : Int) 20 = (zs.length : Int) := by omega
  have hn2 : zs.length ≤ dd := by omega
  have hZ : Texts w B AA zs := hzs ▸ hX0.take 20
  have hzsz : ∀ x ∈ zs, x.size ≤ 281474976710656 := fun x hx => hxs x (List.mem_of_mem_take (hzs ▸ hx))
  have hzs4 : zs.length ≤ 20 := by omega
  have hAz : AA = none → zs.length = 0 ∧ dd = 0 := fun h => by have := hAA h; omega
  clear hzs hzl hxs hX0
  obtain ⟨i0, hi0, hz0, hz1, hz2⟩ := info_parts info31
  have hpl := pcells_size ys
  go_enter Tryd.func9, Tryd.ntmps9
  go_wp2_with (go_at_call 11; refine HW.mono ?_; rintro e w1 ⟨rfl, hb1⟩)
  go_quiet (fail)
  go_wp2_with fail
  have hbv := blw_drewN hb1 nq
  generalize w1.drewN nq = v1 at *
  have hZ1 := hZ.below (hbv.mono hB)
  have HRoom := room_any AA zs dd B v1 hZ1 hAz (Nat.le_trans hB hbv.size) (by omega)
  go_wp2_with (first
    | (go_at_call 21; refine HRoom.mono ?_; rintro e w2 ⟨rfl, ho, hb2⟩; have hb3 := hbv.trans (hb2.mono hbv.size); have hT2 : Texts w2 w2.heap.size (some ⟨v1.heap.size, 0, none⟩) zs := Texts.of_own (ys := [tilde]) (by rw [List.length_append]; exact ho); have hY2 := (hY.below (hb3.mono hB)).alloc (Nat.le_trans hB hb3.size) (.cells #[] 31))
    | (at_builtin; refine wpList_append_any _ rfl (.tmp 25) (.tmp 26) 23 rfl w2.heap.size 31 i0 _ 3 32 Tryd.underlying23 hi0 hz0 hz1 hz2 rfl (by omega) _ 0 [] rfl (World.ownsRow_made w2 #[] 0 (Nat.le_refl _) (by unfold maxLen; omega) rfl) B A ys.length cc (pcells ys) rfl hY2.reads (pcells_one _) (by unfold maxLen; omega) (by omega) (by simp) ?_; intro vP w3 hoP hgP _; simp only [Nat.zero_add, List.nil_append] at hoP; obtain ⟨PA, pc, rfl, hP⟩ := Lists.of_own hoP)
    | (go_at_call 24; have b3 := ((Below.refl w2.heap.size w2).alloc (Nat.le_refl _) (.cells #[] 31)).grown hgP (by simp) (fun k hk => by have hk2 : some w2.heap.size = some k := hk; cases hk2; exact Nat.le_refl _); have hb4 := hb3.trans (b3.mono hb3.size); have hT3 := hT2.below b3; have hY3 := hY.below (hb4.mono hB); have hZ3 := hZ.below (hb4.mono hB); refine (lay_any PA ys pc w3.heap.size _ zs (zs.length + 3) htY (by omega) (by omega) hzsz w3 hP (Texts.more hT3 b3.size) (Nat.le_refl _)).mono ?_; unfold layR; rintro e w4 ⟨rfl, hb5⟩)
    | (go_at_call 22; have hb6 := hb4.trans (hb5.mono hb4.size); have hY4 := hY3.below (hb5.mono (Nat.le_trans hB hb4.size)); have hZ4 := hZ3.below (hb5.mono (Nat.le_trans hB hb4.size)); have hT4 := hT3.below (hb5.mono b3.size); have hP4 := hP.below hb5; refine (refLay A ys cc B AA zs dd hysz (by omega) (by omega) hzsz w4 hY4 hZ4 (Nat.le_trans hB hb6.size)).mono ?_; unfold layR; rintro e w5 ⟨rfl, hb7⟩)
    | (go_at_call 23; have hb8 := hb6.trans (hb7.mono hb6.size); have hY5 := hY4.below (hb7.mono (Nat.le_trans hB hb6.size)); have hZ5 := hZ4.below (hb7.mono (Nat.le_trans hB hb6.size)); have hT5 := hT4.below (hb7.mono (Nat.le_trans b3.size hb5.size)); have hP5 := hP4.below (hb7.mono hb5.size); refine (texts_yes _ AA zs (zs.length + 3) dd _ _ w5 hT5 hZ5 (by omega)).mono ?_; rintro e w6 ⟨rfl, hb9⟩)
    | (go_at_call 14; have hb10 := hb8.trans (hb9.mono hb8.size); have hY6 := hY5.below (hb9.mono (Nat.le_trans hB hb8.size)); have hP6 := hP5.below (hb9.mono (Nat.le_trans hb5.size hb7.size)); refine (exact_yes PA A ys pc cc _ _ w6 hP6 hY6 (by omega)).mono ?_; rintro e w7 ⟨rfl, hb11⟩; have hb12 := hb10.trans (hb11.mono hb10.size))
    | go_in)
  refine bodyPost_ret (v := .bool true) ?_ rfl ⟨rfl, hb12⟩
  simp [results, Tryd.results9, go_sem]
end Go.Proofs.YtbgcngkofbelmaaDoor
