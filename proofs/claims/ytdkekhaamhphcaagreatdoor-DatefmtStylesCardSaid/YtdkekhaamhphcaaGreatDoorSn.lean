/-
  A skeleton's fields, or what is wrong: the layer's skeleton and the reference's Skeleton. Condition: the text is short enough to be in memory.
-/
import Derived.Test.YtdkekhaamhphcaaGreatDoorRo
set_option linter.unusedVariables false
set_option linter.unusedSimpArgs false
namespace Go.Proofs.YtdkekhaamhphcaaGreatDoor
open Go.RowKit
/-- what a text's skeleton is told as -/
def SkelP (s : ByteArray) (w : World) (e : Ending) (w' : World) : Prop :=
  (∃ (l : List Fd) (v : Value), s.size ≤ 64 ∧ skelR s = .inr l ∧ e = .returned (.tuple #[v, sp 0 0]) ∧ w'.ownsRow w.heap.size 64 3 v l.length (fcells l) ∧ Below w.heap.size w w') ∨
  (∃ j : Nat, s.size ≤ 64 ∧ skelR s = .inl j ∧ e = .returned (.tuple #[.slice none 0 0, sp 272 j]) ∧ Below w.heap.size w w') ∨
  (64 < s.size ∧ e = .returned (.tuple #[.slice none 0 0, sp 3 0]) ∧ Below w.heap.size w w')
set_option maxRecDepth 100000 in
set_option maxHeartbeats 4000000 in
theorem skel_any (s : ByteArray) (hs : s.size ≤ 281474976710656) (w : World) : Calls Tryz.prog 39 #[.string s] w (SkelP s w) := by
  by_cases h64 : s.size ≤ 64
  · have c64 : ¬ (s.size : Int) > 64 := by omega
    obtain ⟨R, hR⟩ : ∃ R, skelR s = R := ⟨_, rfl⟩
    have HR0 := Lib.hid hR
    go_enter Tryz.func39, Tryz.ntmps39
    go_wp2_with fail
    go_loopw [4, 5, 6] (fun u v x wr => ∃ (a last f : Nat) (l : List Fd), v = .int .i64 last ∧ x = .int .i64 a ∧ wr.ownsRow (w.heap.size + 1) 64 3 u l.length (fcells l) ∧ Blk wr w.heap.size 35 #[.int .i64 0, .int .i64 0] ∧ Below w.heap.size w wr ∧ a ≤ s.size ∧ l.length ≤ last ∧ last ≤ 13 ∧ skelF s f a last l = R ∧ s.size - a < f) (fun _ _ x _ => s.size - (intOf x).toNat)
    case atStart =>
      refine ⟨0, 0, s.size + 1, [], rfl, rfl, ⟨by simp [fcells], Or.inl ⟨rfl, rfl⟩⟩, Blk.new _ _ _, (Below.refl _ w).alloc (Nat.le_refl _) _, by omega, by simp, by omega, hR, by omega⟩
    case round =>
      obtain ⟨a, last, f, l, rfl, rfl, hown, hB, hb, ha, hll, h13, hF, hf9⟩ := hrel
      have HF := Lib.hid hF
      clear hF
      have hl9 : l.length ≤ 1000000000000 := by omega
      by_cases hlt : a < s.size
      · have hn1 := runAt_pos hlt
        have hn2 := runAt_le hlt
        have HGo := Lib.hid (skel_go (s := s) (f := f) (a := a) (last := last) (acc := l) HF.out hf9 hlt)
        have HBad := Lib.hid (skel_bad (s := s) (f := f) (a := a) (last := last) (acc := l) HF.out hf9 hlt)
        go_wp2_with fail
        obtain ⟨wo, hwo⟩ : ∃ x, x = wr := ⟨_, rfl⟩
        subst hwo
        go_loop [8] (fun u => ∃ k : Nat, u = .int .i64 k ∧ 1 ≤ k ∧ a + k ≤ s.size ∧ ∀ (j : Nat) (hj : j < s.size), a ≤ j → j < a + k → s[j] = s[a]) (fun u => s.size - (intOf u).toNat)
        case atStart => exact ⟨1, rfl, by omega, by omega, fun j hj h1 h2 => by
          have e : j = a := by omega
          subst e
          rfl⟩
        case round =>
          obtain ⟨k, rfl, hk1, hk2, heq⟩ := hrel
          have HE := Lib.hid heq
          clear heq
          have hmore : a + k < s.size ∧ (∃ h : a + k < s.size, s[a + k] = s[a]) ∨ runAt s a = k := by
            by_cases g : a + k < s.size
            · by_cases q : s[a + k] = s[a]
              · exact Or.inl ⟨g, g, q⟩
              · exact Or.inr (runAt_eq hlt hk1 hk2 HE.out (fun hj => q))
            · exact Or.inr (runAt_eq hlt hk1 hk2 HE.out (fun hj => absurd hj g))
          by_cases hgo : ∃ h : a + k < s.size, s[a + k] = s[a]
          · obtain ⟨hkl, hq⟩ := hgo
            have c1 : (a : Int) + k < s.size := by omega
            have t1 : ((s[a + k].toNat : Int) == (s[a].toNat : Int)) = true := by rw [hq]; simp
            have HQ := Lib.hid hq
            clear hq hmore
            go_wp2_with fail
            go_round
            case rel => exact ⟨k + 1, by go_num, by omega, by omega, fun j hj g1 g2 => by
              rcases Nat.lt_or_ge j (a + k) with g | g
              · exact HE.out j hj g1 g
              · obtain rfl : j = a + k := by omega
                exact HQ.out⟩
            case measure => simp [intOf]; omega
          · have hkr : runAt s a = k := by
              rcases hmore with ⟨h1, h2⟩ | h
              · exact absurd h2 hgo
              · exact h
            rw [hkr] at HGo HBad hn1 hn2
            clear hmore
            have hR1 := Rank_any s[a]
            have hr13 := rankN_le s[a]
            obtain ⟨r, hr⟩ : ∃ r, rankN s[a].toNat = r := ⟨_, rfl⟩
            rw [hr] at hR1 hr13
            have HR := hR1
            have HM := most_any r hr13
            have HP := plain_any s[a]
            by_cases hkl : a + k < s.size
            · have c1 : (a : Int) + k < s.size := by omega
              have hq : s[a + k] ≠ s[a] := fun q => hgo ⟨hkl, q⟩
              have hq2 := u8_ne hq
              have t1 : ((s[a + k].toNat : Int) == (s[a].toNat : Int)) = false := beq_eq_false_iff_ne.2 (by omega)
              clear hq hq2 hgo
              by_cases h1 : r ≤ last
              · have d1 : (r : Int) ≤ last := by omega
                have hbad : runBad s[a] k last = true := by unfold runBad; rw [hr]; simp; omega
                have HX := Lib.hid (HBad.out hbad)
                clear hbad HGo HBad
                have hc0 := hB.at_ 0 (v := .int .i64 0) rfl
                have hc1 := hB.at_ 1 (v := .int .i64 0) rfl
                have hf := hB.frozen
                go_wp2_with (first | (go_at_call 62; refine (HR _).mono ?_; rintro e w1 ⟨rfl, rfl⟩) | (go_at_call 63; refine (HM _).mono ?_; rintro e w1 ⟨rfl, rfl⟩))
                refine bodyPost_ret (v := .tuple #[.slice none 0 0, sp 272 a]) ?_ rfl (Or.inr (Or.inl ⟨a, h64, by rw [HR0.out, HX.out], rfl, ?_⟩))
                · simp [sp, results, Tryz.results39, go_sem, hc0, hc1]
                · exact (hb.setCell (by simp) _).setCell (by simp) _
              · have d1 : ¬ (r : Int) ≤ last := by omega
                by_cases h8 : r = 8
                · have d8 : ((r : Int) == 8) = true := by rw [h8]; rfl
                  have hbad : runBad s[a] k last = true := by unfold runBad; rw [hr]; simp; omega
                  have HX := Lib.hid (HBad.out hbad)
                  clear hbad HGo HBad
                  have hc0 := hB.at_ 0 (v := .int .i64 0) rfl
                  have hc1 := hB.at_ 1 (v := .int .i64 0) rfl
                  have hf := hB.frozen
                  go_wp2_with (first | (go_at_call 62; refine (HR _).mono ?_; rintro e w1 ⟨rfl, rfl⟩) | (go_at_call 63; refine (HM _).mono ?_; rintro e w1 ⟨rfl, rfl⟩))
                  refine bodyPost_ret (v := .tuple #[.slice none 0 0, sp 272 a]) ?_ rfl (Or.inr (Or.inl ⟨a, h64, by rw [HR0.out, HX.out], rfl, ?_⟩))
                  · simp [sp, results, Tryz.results39, go_sem, hc0, hc1]
                  · exact (hb.setCell (by simp) _).setCell (by simp) _
                · have d8 : ((r : Int) == 8) = false := beq_eq_false_iff_ne.2 (by omega)
                  by_cases hm : mostN r < k
                  · have dm : (k : Int) > (mostN r : Nat) := by omega
                    have hbad : runBad s[a] k last = true := by unfold runBad; rw [hr]; simp; omega
                    have HX := Lib.hid (HBad.out hbad)
                    clear hbad HGo HBad
                    have hc0 := hB.at_ 0 (v := .int .i64 0) rfl
                    have hc1 := hB.at_ 1 (v := .int .i64 0) rfl
                    have hf := hB.frozen
                    go_wp2_with (first | (go_at_call 62; refine (HR _).mono ?_; rintro e w1 ⟨rfl, rfl⟩) | (go_at_call 63; refine (HM _).mono ?_; rintro e w1 ⟨rfl, rfl⟩))
                    refine bodyPost_ret (v := .tuple #[.slice none 0 0, sp 272 a]) ?_ rfl (Or.inr (Or.inl ⟨a, h64, by rw [HR0.out, HX.out], rfl, ?_⟩))
                    · simp [sp, results, Tryz.results39, go_sem, hc0, hc1]
                    · exact (hb.setCell (by simp) _).setCell (by simp) _
                  · have dm : ¬ (k : Int) > (mostN r : Nat) := by omega
                    have hok : runBad s[a] k last = false := by unfold runBad; rw [hr]; simp; omega
                    obtain ⟨hstep, hf10⟩ := HGo.out hok
                    have HX := Lib.hid hstep
                    have hc0 := hB.at_ 0 (v := .int .i64 0) rfl
                    have hc1 := hB.at_ 1 (v := .int .i64 0) rfl
                    have hf := hB.frozen
                    have hpl : (UInt8.ofNat (plainN s[a].toNat)).toNat = plainN s[a].toNat := by
                      have h1 := rank_ascii (b := s[a]) (by rw [hr]; omega)
                      have := plain_ascii s[a].toNat h1.1 h1.2
                      rw [UInt8.toNat_ofNat', Nat.mod_eq_of_lt (by omega)]
                    rw [← hpl] at HP
                    clear hok hstep hpl HGo HBad
                    go_wp2_with (first | (go_at_call 62; refine (HR _).mono ?_; rintro e w1 ⟨rfl, rfl⟩) | (go_at_call 63; refine (HM _).mono ?_; rintro e w1 ⟨rfl, rfl⟩) | (go_at_call 64; refine (HP _).mono ?_; rintro e w1 ⟨rfl, rfl⟩) | (at_builtin; refine wpFd rfl (.tmp 55) (.tmp 60) rfl (w.heap.size + 1) _ _ l ⟨UInt8.ofNat (plainN s[a].toNat), (k : Nat), ⟨#[]⟩⟩ rfl hown rfl hl9 (by have := hB.lt; omega) ?_; intro v1 w1 hown2 hg1))
                    have hB1 := (hB.alloc (.cells #[.int .u8 (UInt8.ofNat (plainN s[a].toNat)).toNat, .int .i64 (k : Nat), .string ⟨#[]⟩] 64)).grown hg1 (fun e => own_blk_ne hown hB (by decide) e.symm)
                    have hb1 := (hb.alloc hb.size (.cells #[.int .u8 (UInt8.ofNat (plainN s[a].toNat)).toNat, .int .i64 (k : Nat), .string ⟨#[]⟩] 64)).grown hg1 (by simp only [World.size_alloc]; have := hb.size; omega) (fun k hk => by have := (hown.lt k hk).1; omega)
                    clear hg1 hown hB hb hc0 hc1 hf
                    go_wp2_with fail
                    go_roundw
                    case rel => exact ⟨a + k, r, f - 1, l ++ [⟨UInt8.ofNat (plainN s[a].toNat), (k : Nat), ⟨#[]⟩⟩], rfl, by go_num, hown2, hB1, hb1, hn2, by simp; omega, hr13, by rw [← hr]; exact HX.out, hf10⟩
                    case measure => simp [intOf]; omega
            · have c1 : ¬ (a : Int) + k < s.size := by omega
              clear hgo
              by_cases h1 : r ≤ last
              · have d1 : (r : Int) ≤ last := by omega
                have hbad : runBad s[a] k last = true := by unfold runBad; rw [hr]; simp; omega
                have HX := Lib.hid (HBad.out hbad)
                clear hbad HGo HBad
                have hc0 := hB.at_ 0 (v := .int .i64 0) rfl
                have hc1 := hB.at_ 1 (v := .int .i64 0) rfl
                have hf := hB.frozen
                go_wp2_with (first | (go_at_call 62; refine (HR _).mono ?_; rintro e w1 ⟨rfl, rfl⟩) | (go_at_call 63; refine (HM _).mono ?_; rintro e w1 ⟨rfl, rfl⟩))
                refine bodyPost_ret (v := .tuple #[.slice none 0 0, sp 272 a]) ?_ rfl (Or.inr (Or.inl ⟨a, h64, by rw [HR0.out, HX.out], rfl, ?_⟩))
                · simp [sp, results, Tryz.results39, go_sem, hc0, hc1]
                · exact (hb.setCell (by simp) _).setCell (by simp) _
              · have d1 : ¬ (r : Int) ≤ last := by omega
                by_cases h8 : r = 8
                · have d8 : ((r : Int) == 8) = true := by rw [h8]; rfl
                  have hbad : runBad s[a] k last = true := by unfold runBad; rw [hr]; simp; omega
                  have HX := Lib.hid (HBad.out hbad)
                  clear hbad HGo HBad
                  have hc0 := hB.at_ 0 (v := .int .i64 0) rfl
                  have hc1 := hB.at_ 1 (v := .int .i64 0) rfl
                  have hf := hB.frozen
                  go_wp2_with (first | (go_at_call 62; refine (HR _).mono ?_; rintro e w1 ⟨rfl, rfl⟩) | (go_at_call 63; refine (HM _).mono ?_; rintro e w1 ⟨rfl, rfl⟩))
                  refine bodyPost_ret (v := .tuple #[.slice none 0 0, sp 272 a]) ?_ rfl (Or.inr (Or.inl ⟨a, h64, by rw [HR0.out, HX.out], rfl, ?_⟩))
                  · simp [sp, results, Tryz.results39, go_sem, hc0, hc1]
                  · exact (hb.setCell (by simp) _).setCell (by simp) _
                · have d8 : ((r : Int) == 8) = false := beq_eq_false_iff_ne.2 (by omega)
                  by_cases hm : mostN r < k
                  · have dm : (k : Int) > (mostN r : Nat) := by omega
                    have hbad : runBad s[a] k last = true := by unfold runBad; rw [hr]; simp; omega
                    have HX := Lib.hid (HBad.out hbad)
                    clear hbad HGo HBad
                    have hc0 := hB.at_ 0 (v := .int .i64 0) rfl
                    have hc1 := hB.at_ 1 (v := .int .i64 0) rfl
                    have hf := hB.frozen
                    go_wp2_with (first | (go_at_call 62; refine (HR _).mono ?_; rintro e w1 ⟨rfl, rfl⟩) | (go_at_call 63; refine (HM _).mono ?_; rintro e w1 ⟨rfl, rfl⟩))
                    refine bodyPost_ret (v := .tuple #[.slice none 0 0, sp 272 a]) ?_ rfl (Or.inr (Or.inl ⟨a, h64, by rw [HR0.out, HX.out], rfl, ?_⟩))
                    · simp [sp, results, Tryz.results39, go_sem, hc0, hc1]
                    · exact (hb.setCell (by simp) _).setCell (by simp) _
                  · have dm : ¬ (k : Int) > (mostN r : Nat) := by omega
                    have hok : runBad s[a] k last = false := by unfold runBad; rw [hr]; simp; omega
                    obtain ⟨hstep, hf10⟩ := HGo.out hok
                    have HX := Lib.hid hstep
                    have hc0 := hB.at_ 0 (v := .int .i64 0) rfl
                    have hc1 := hB.at_ 1 (v := .int .i64 0) rfl
                    have hf := hB.frozen
                    have hpl : (UInt8.ofNat (plainN s[a].toNat)).toNat = plainN s[a].toNat := by
                      have h1 := rank_ascii (b := s[a]) (by rw [hr]; omega)
                      have := plain_ascii s[a].toNat h1.1 h1.2
                      rw [UInt8.toNat_ofNat', Nat.mod_eq_of_lt (by omega)]
                    rw [← hpl] at HP
                    clear hok hstep hpl HGo HBad
                    go_wp2_with (first | (go_at_call 62; refine (HR _).mono ?_; rintro e w1 ⟨rfl, rfl⟩) | (go_at_call 63; refine (HM _).mono ?_; rintro e w1 ⟨rfl, rfl⟩) | (go_at_call 64; refine (HP _).mono ?_; rintro e w1 ⟨rfl, rfl⟩) | (at_builtin; refine wpFd rfl (.tmp 55) (.tmp 60) rfl (w.heap.size + 1) _ _ l ⟨UInt8.ofNat (plainN s[a].toNat), (k : Nat), ⟨#[]⟩⟩ rfl hown rfl hl9 (by have := hB.lt; omega) ?_; intro v1 w1 hown2 hg1))
                    have hB1 := (hB.alloc (.cells #[.int .u8 (UInt8.ofNat (plainN s[a].toNat)).toNat, .int .i64 (k : Nat), .string ⟨#[]⟩] 64)).grown hg1 (fun e => own_blk_ne hown hB (by decide) e.symm)
                    have hb1 := (hb.alloc hb.size (.cells #[.int .u8 (UInt8.ofNat (plainN s[a].toNat)).toNat, .int .i64 (k : Nat), .string ⟨#[]⟩] 64)).grown hg1 (by simp only [World.size_alloc]; have := hb.size; omega) (fun k hk => by have := (hown.lt k hk).1; omega)
                    clear hg1 hown hB hb hc0 hc1 hf
                    go_wp2_with fail
                    go_roundw
                    case rel => exact ⟨a + k, r, f - 1, l ++ [⟨UInt8.ofNat (plainN s[a].toNat), (k : Nat), ⟨#[]⟩⟩], rfl, by go_num, hown2, hB1, hb1, hn2, by simp; omega, hr13, by rw [← hr]; exact HX.out, hf10⟩
                    case measure => simp [intOf]; omega
      · obtain rfl : a = s.size := by omega
        have hX := skel_end HF.out (by omega)
        have HX := Lib.hid hX
        clear hX
        have hc0 := hB.at_ 0 (v := .int .i64 0) rfl
        have hc1 := hB.at_ 1 (v := .int .i64 0) rfl
        have hf := hB.frozen
        have ho := own_base hown (show w.heap.size ≤ w.heap.size + 1 by omega)
        have hne := own_blk_ne hown hB (by decide)
        have hbf := (hb.setCell (p := ⟨w.heap.size, 0, none⟩) (Nat.le_refl _) (.int .i64 0)).setCell (p := ⟨w.heap.size, 1, none⟩) (Nat.le_refl _) (.int .i64 0)
        have hof := own_far (own_far ho (p := ⟨w.heap.size, 0, none⟩) hne (.int .i64 0)) (p := ⟨w.heap.size, 1, none⟩) hne (.int .i64 0)
        have HO := Lib.hid hof
        clear ho hof
        go_wp2_with fail
        refine bodyPost_ret (v := .tuple #[u4, sp 0 0]) ?_ rfl (Or.inl ⟨l, _, h64, by rw [HR0.out, HX.out], rfl, HO.out, hbf⟩)
        simp [sp, results, Tryz.results39, go_sem, hc0, hc1]
  · have c64 : (s.size : Int) > 64 := by omega
    go_enter Tryz.func39, Tryz.ntmps39
    go_wp2_with fail
    refine bodyPost_ret (v := .tuple #[.slice none 0 0, sp 3 0]) ?_ rfl (Or.inr (Or.inr ⟨by omega, rfl, ?_⟩))
    · simp [sp, results, Tryz.results39, go_sem]
    · exact (Below.refl w.heap.size w).alloc (Nat.le_refl _) _
set_option maxRecDepth 100000 in
set_option maxHeartbeats 4000000 in
theorem refSkel_any (s : ByteArray) (hs : s.size ≤ 281474976710656) (w : World) : Calls Tryz.prog 8 #[.string s] w (SkelP s w) := by
  by_cases h64 : s.size ≤ 64
  · have c64 : ¬ (s.size : Int) > 64 := by omega
    obtain ⟨R, hR⟩ : ∃ R, skelR s = R := ⟨_, rfl⟩
    have HR0 := Lib.hid hR
    go_enter Tryz.func8, Tryz.ntmps8
    go_wp2_with fail
    go_loopw [4, 5, 6] (fun u v x wr => ∃ (a last f : Nat) (l : List Fd), v = .int .i64 last ∧ x = .int .i64 a ∧ wr.ownsRow (w.heap.size + 1) 64 3 u l.length (fcells l) ∧ Blk wr w.heap.size 35 #[.int .i64 0, .int .i64 0] ∧ Below w.heap.size w wr ∧ a ≤ s.size ∧ l.length ≤ last ∧ last ≤ 13 ∧ skelF s f a last l = R ∧ s.size - a < f) (fun _ _ x _ => s.size - (intOf x).toNat)
    case atStart =>
      refine ⟨0, 0, s.size + 1, [], rfl, rfl, ⟨by simp [fcells], Or.inl ⟨rfl, rfl⟩⟩, Blk.new _ _ _, (Below.refl _ w).alloc (Nat.le_refl _) _, by omega, by simp, by omega, hR, by omega⟩
    case round =>
      obtain ⟨a, last, f, l, rfl, rfl, hown, hB, hb, ha, hll, h13, hF, hf9⟩ := hrel
      have HF := Lib.hid hF
      clear hF
      have hl9 : l.length ≤ 1000000000000 := by omega
      by_cases hlt : a < s.size
      · have hn1 := runAt_pos hlt
        have hn2 := runAt_le hlt
        have HGo := Lib.hid (skel_go (s := s) (f := f) (a := a) (last := last) (acc := l) HF.out hf9 hlt)
        have HBad := Lib.hid (skel_bad (s := s) (f := f) (a := a) (last := last) (acc := l) HF.out hf9 hlt)
        have HW := row_any s a hlt hs
        have hRk := refRank_any s[a]
        have hr13 := rankN_le s[a]
        obtain ⟨k, hkr⟩ : ∃ k, runAt s a = k := ⟨_, rfl⟩
        obtain ⟨r, hr⟩ : ∃ r, rankN s[a].toNat = r := ⟨_, rfl⟩
        rw [hkr] at HGo HBad HW hn1 hn2
        rw [hr] at hRk hr13
        have HR := hRk
        by_cases h1 : r ≤ last
        · have d1 : (r : Int) ≤ last := by omega
          have hbad : runBad s[a] k last = true := by unfold runBad; rw [hr]; simp; omega
          have HX := Lib.hid (HBad.out hbad)
          clear hbad HGo HBad
          have hc0 := hB.at_ 0 (v := .int .i64 0) rfl
          have hc1 := hB.at_ 1 (v := .int .i64 0) rfl
          have hf := hB.frozen
          go_wp2_with (first | (go_at_call 20; refine (HR _).mono ?_; rintro e w1 ⟨rfl, rfl⟩) | (go_at_call 21; refine (HM _).mono ?_; rintro e w1 ⟨rfl, rfl⟩) | (go_at_call 19; refine (HW _).mono ?_; rintro e wq ⟨rfl, hq⟩; have hb := hb.trans (hq.mono hb.size); have hown := own_below hown hq; have hB := hB.below hq hB.lt; have hc0 := hB.at_ 0 (v := .int .i64 0) rfl; have hc1 := hB.at_ 1 (v := .int .i64 0) rfl; have hf := hB.frozen))
          refine bodyPost_ret (v := .tuple #[.slice none 0 0, sp 272 a]) ?_ rfl (Or.inr (Or.inl ⟨a, h64, by rw [HR0.out, HX.out], rfl, ?_⟩))
          · simp [sp, results, Tryz.results8, go_sem, hc0, hc1]
          · exact (hb.setCell (by simp) _).setCell (by simp) _
        · have d1 : ¬ (r : Int) ≤ last := by omega
          by_cases h8 : r = 8
          · have d8 : ((r : Int) == 8) = true := by rw [h8]; rfl
            have hbad : runBad s[a] k last = true := by unfold runBad; rw [hr]; simp; omega
            have HX := Lib.hid (HBad.out hbad)
            clear hbad HGo HBad
            have hc0 := hB.at_ 0 (v := .int .i64 0) rfl
            have hc1 := hB.at_ 1 (v := .int .i64 0) rfl
            have hf := hB.frozen
            go_wp2_with (first | (go_at_call 20; refine (HR _).mono ?_; rintro e w1 ⟨rfl, rfl⟩) | (go_at_call 21; refine (HM _).mono ?_; rintro e w1 ⟨rfl, rfl⟩) | (go_at_call 19; refine (HW _).mono ?_; rintro e wq ⟨rfl, hq⟩; have hb := hb.trans (hq.mono hb.size); have hown := own_below hown hq; have hB := hB.below hq hB.lt; have hc0 := hB.at_ 0 (v := .int .i64 0) rfl; have hc1 := hB.at_ 1 (v := .int .i64 0) rfl; have hf := hB.frozen))
            refine bodyPost_ret (v := .tuple #[.slice none 0 0, sp 272 a]) ?_ rfl (Or.inr (Or.inl ⟨a, h64, by rw [HR0.out, HX.out], rfl, ?_⟩))
            · simp [sp, results, Tryz.results8, go_sem, hc0, hc1]
            · exact (hb.setCell (by simp) _).setCell (by simp) _
          · have d8 : ((r : Int) == 8) = false := beq_eq_false_iff_ne.2 (by omega)
            have HM := Most_any r (by omega) hr13
            by_cases hm : mostN r < k
            · have dm : (k : Int) > (mostN r : Nat) := by omega
              have hbad : runBad s[a] k last = true := by unfold runBad; rw [hr]; simp; omega
              have HX := Lib.hid (HBad.out hbad)
              clear hbad HGo HBad
              have hc0 := hB.at_ 0 (v := .int .i64 0) rfl
              have hc1 := hB.at_ 1 (v := .int .i64 0) rfl
              have hf := hB.frozen
              go_wp2_with (first | (go_at_call 20; refine (HR _).mono ?_; rintro e w1 ⟨rfl, rfl⟩) | (go_at_call 21; refine (HM _).mono ?_; rintro e w1 ⟨rfl, rfl⟩) | (go_at_call 19; refine (HW _).mono ?_; rintro e wq ⟨rfl, hq⟩; have hb := hb.trans (hq.mono hb.size); have hown := own_below hown hq; have hB := hB.below hq hB.lt; have hc0 := hB.at_ 0 (v := .int .i64 0) rfl; have hc1 := hB.at_ 1 (v := .int .i64 0) rfl; have hf := hB.frozen))
              refine bodyPost_ret (v := .tuple #[.slice none 0 0, sp 272 a]) ?_ rfl (Or.inr (Or.inl ⟨a, h64, by rw [HR0.out, HX.out], rfl, ?_⟩))
              · simp [sp, results, Tryz.results8, go_sem, hc0, hc1]
              · exact (hb.setCell (by simp) _).setCell (by simp) _
            · have dm : ¬ (k : Int) > (mostN r : Nat) := by omega
              have HP := refPlain_any s[a] (by rw [hr]; omega) (by rw [hr]; exact h8)
              have hok : runBad s[a] k last = false := by unfold runBad; rw [hr]; simp; omega
              obtain ⟨hstep, hf10⟩ := HGo.out hok
              have HX := Lib.hid hstep
              have hc0 := hB.at_ 0 (v := .int .i64 0) rfl
              have hc1 := hB.at_ 1 (v := .int .i64 0) rfl
              have hf := hB.frozen
              have hpl : (UInt8.ofNat (plainN s[a].toNat)).toNat = plainN s[a].toNat := by
                have h1 := rank_ascii (b := s[a]) (by rw [hr]; omega)
                have := plain_ascii s[a].toNat h1.1 h1.2
                rw [UInt8.toNat_ofNat', Nat.mod_eq_of_lt (by omega)]
              rw [← hpl] at HP
              clear hok hstep hpl HGo HBad
              go_wp2_with (first | (go_at_call 20; refine (HR _).mono ?_; rintro e w1 ⟨rfl, rfl⟩) | (go_at_call 21; refine (HM _).mono ?_; rintro e w1 ⟨rfl, rfl⟩) | (go_at_call 22; refine (HP _).mono ?_; rintro e w1 ⟨rfl, rfl⟩) | (go_at_call 19; refine (HW _).mono ?_; rintro e wq ⟨rfl, hq⟩; have hb := hb.trans (hq.mono hb.size); have hown := own_below hown hq; have hB := hB.below hq hB.lt; have hc0 := hB.at_ 0 (v := .int .i64 0) rfl; have hc1 := hB.at_ 1 (v := .int .i64 0) rfl; have hf := hB.frozen) | (at_builtin; refine wpFd rfl (.tmp 39) (.tmp 46) rfl (w.heap.size + 1) _ _ l ⟨UInt8.ofNat (plainN s[a].toNat), (k : Nat), ⟨#[]⟩⟩ rfl hown rfl hl9 (by have := hB.lt; omega) ?_; intro v1 w1 hown2 hg1))
              have hB1 := (hB.alloc (.cells #[.int .u8 (UInt8.ofNat (plainN s[a].toNat)).toNat, .int .i64 (k : Nat), .string ⟨#[]⟩] 64)).grown hg1 (fun e => own_blk_ne hown hB (by decide) e.symm)
              have hb1 := (hb.alloc hb.size (.cells #[.int .u8 (UInt8.ofNat (plainN s[a].toNat)).toNat, .int .i64 (k : Nat), .string ⟨#[]⟩] 64)).grown hg1 (by simp only [World.size_alloc]; have := hb.size; omega) (fun k hk => by have := (hown.lt k hk).1; omega)
              clear hg1 hown hB hb hc0 hc1 hf
              go_wp2_with fail
              go_roundw
              case rel => exact ⟨a + k, r, f - 1, l ++ [⟨UInt8.ofNat (plainN s[a].toNat), (k : Nat), ⟨#[]⟩⟩], rfl, by go_num, hown2, hB1, hb1, hn2, by simp; omega, hr13, by rw [← hr]; exact HX.out, hf10⟩
              case measure => simp [intOf]; omega
      · obtain rfl : a = s.size := by omega
        have hX := skel_end HF.out (by omega)
        have HX := Lib.hid hX
        clear hX
        have hc0 := hB.at_ 0 (v := .int .i64 0) rfl
        have hc1 := hB.at_ 1 (v := .int .i64 0) rfl
        have hf := hB.frozen
        have ho := own_base hown (show w.heap.size ≤ w.heap.size + 1 by omega)
        have hne := own_blk_ne hown hB (by decide)
        have hbf := (hb.setCell (p := ⟨w.heap.size, 0, none⟩) (Nat.le_refl _) (.int .i64 0)).setCell (p := ⟨w.heap.size, 1, none⟩) (Nat.le_refl _) (.int .i64 0)
        have hof := own_far (own_far ho (p := ⟨w.heap.size, 0, none⟩) hne (.int .i64 0)) (p := ⟨w.heap.size, 1, none⟩) hne (.int .i64 0)
        have HO := Lib.hid hof
        clear ho hof
        go_wp2_with fail
        refine bodyPost_ret (v := .tuple #[u4, sp 0 0]) ?_ rfl (Or.inl ⟨l, _, h64, by rw [HR0.out, HX.out], rfl, HO.out, hbf⟩)
        simp [sp, results, Tryz.results8, go_sem, hc0, hc1]
  · have c64 : (s.size : Int) > 64 := by omega
    go_enter Tryz.func8, Tryz.ntmps8
    go_wp2_with fail
    refine bodyPost_ret (v := .tuple #[.slice none 0 0, sp 3 0]) ?_ rfl (Or.inr (Or.inr ⟨by omega, rfl, ?_⟩))
    · simp [sp, results, Tryz.results8, go_sem]
    · exact (Below.refl w.heap.size w).alloc (Nat.le_refl _) _
end Go.Proofs.YtdkekhaamhphcaaGreatDoor
