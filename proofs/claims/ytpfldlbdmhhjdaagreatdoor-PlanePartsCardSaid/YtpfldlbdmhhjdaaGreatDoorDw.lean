/-
  ref29.Part at every word. Conditions: sizes.
-/
import Derived.Test.YtpfldlbdmhhjdaaGreatDoorDv
set_option linter.unusedVariables false
set_option linter.unusedSimpArgs false
namespace Go.Proofs.YtpfldlbdmhhjdaaGreatDoor
open Go.RowKit Go.Fl Go.Sort
set_option maxRecDepth 100000 in
set_option maxHeartbeats 1000000 in
theorem refPart_bad (a : Nat) (ha : a < 18446744073709551616) (hf : finW a = false) (x : Int) (w : World) :
    Calls Tryz.prog 8 #[.int .u64 (a : Int), .int .i64 x] w fun e w' => e = .returned (.tuple #[.agg #[.bool false, .string ⟨#[]⟩, .int .i64 0], .bool false]) ∧ Below w.heap.size w w' := by
  have hE : a / 4503599627370496 % 2048 = 2047 := by
    have := of_decide_eq_false hf
    omega
  have g1 : (a : Int) / 4503599627370496 = ((a / 4503599627370496 : Nat) : Int) := by omega
  generalize a / 4503599627370496 = T at *
  have g2 : (T : Int) % 2048 = 2047 := by omega
  clear hE hf
  go_enter Tryz.func8, Tryz.ntmps8
  go_wp2_with fail
  refine bodyPost_ret (v := .tuple #[.agg #[.bool false, .string ⟨#[]⟩, .int .i64 0], .bool false]) ?_ rfl ⟨rfl, ?_⟩
  · simp [results, Tryz.results8, go_sem]
  · go_grown
set_option maxRecDepth 100000 in
set_option maxHeartbeats 1000000 in
theorem refPart_good (a : Nat) (ha : a < 18446744073709551616) (hf : finW a = true) (sc : Nat) (hsc : sc ≤ 40) (w : World) :
    Calls Tryz.prog 8 #[.int .u64 (a : Int), .int .i64 (sc : Int)] w fun e w' => e = .returned (.tuple #[decV (decide (a / 9223372036854775808 = 1)) (numF a sc) sc, .bool true]) ∧ Below w.heap.size w w' := by
  have hxl : a / 4503599627370496 % 2048 < 2047 := by
    have := of_decide_eq_true hf
    omega
  have hlim := numF_lt hf hsc
  have hml := mant_lt a
  have hnF : numF a sc = if 1074 - expo a ≤ sc then mant a * 2 ^ (expo a - 1074) * 5 ^ (1074 - expo a) * 10 ^ (sc - (1074 - expo a)) else rnd (mant a * 5 ^ (1074 - expo a)) (1074 - expo a - sc) := rfl
  have hmv : mant a = if a / 4503599627370496 % 2048 = 0 then a % 4503599627370496 else a % 4503599627370496 + 4503599627370496 := rfl
  have hx1 : expo a = a / 4503599627370496 % 2048 - 1 := rfl
  have g1 : (a : Int) / 4503599627370496 = ((a / 4503599627370496 : Nat) : Int) := by omega
  have g3 : (a : Int) % 4503599627370496 = ((a % 4503599627370496 : Nat) : Int) := by omega
  have g4 : (a : Int) / 9223372036854775808 = ((a / 9223372036854775808 : Nat) : Int) := by omega
  have hm2 : a % 4503599627370496 < 4503599627370496 := by omega
  obtain ⟨R, hR⟩ : ∃ R, R = numF a sc := ⟨_, rfl⟩
  rw [← hR] at hlim ⊢
  rw [← hR] at hnF
  clear hR hf
  generalize mant a = M at *
  generalize expo a = X at *
  generalize hEE : a / 4503599627370496 % 2048 = E at *
  generalize a % 4503599627370496 = m at *
  generalize a / 9223372036854775808 = S at *
  generalize a / 4503599627370496 = T at *
  have g2 : (T : Int) % 2048 = (E : Int) := by omega
  have HLIM := Lib.hid hlim
  have HNF := Lib.hid hnF
  clear hlim hEE hnF
  obtain ⟨h, hh⟩ : ∃ h, h = 1074 - X := ⟨_, rfl⟩
  obtain ⟨d, hd⟩ : ∃ d, d = X - 1074 := ⟨_, rfl⟩
  have x1 : max (0 : Int) (1074 - (X : Int)) = (h : Int) := by omega
  have x2 : max (0 : Int) ((X : Int) - 1074) = (d : Int) := by omega
  have hb1 : h ≤ 1100 := by omega
  have hb2 : d ≤ 1100 := by omega
  have HF := fun W : World => refFloat_any M h d (by omega) hb1 hb2 W
  have hX0 : X ≤ 2046 := by omega
  have B0 := (Below.refl w.heap.size w).alloc (Nat.le_refl _) (.cells #[.bool false, .string ⟨#[]⟩, .int .i64 0] 27)
  by_cases hE0 : E = 0
  · obtain rfl : X = E := by omega
    obtain rfl : M = m := by rw [hmv, if_pos hE0]
    have q1 : ¬ (0 : Int) < (X : Int) := by omega
    have q3 : decide (0 < X) = false := decide_eq_false (by omega)
    have q2 : ((X : Int) == 2047) = false := by rw [beq_eq_false_iff_ne]; omega
    have HH := Lib.hid hh
    have HD := Lib.hid hd
    clear hmv hx1 hE0 hh hd
    go_enter Tryz.func8, Tryz.ntmps8
    go_wp2_with fail
    refine (HF _).mono ?_
    rintro e w1 ⟨v1, l1, rfl, hr1, hd1, hv1, hp1, hl1, hbf⟩
    have hbw : Below (w.heap.size + 1) (w.alloc (.cells #[.bool false, .string ⟨#[]⟩, .int .i64 0] 27)) w1 := by
      have e := hbf
      rw [World.size_alloc] at e
      exact e
    have hB1 := B0.trans (hbf.mono B0.size)
    have hz1 : w.heap.size + 1 ≤ w1.heap.size := by have := hbw.size; rw [World.size_alloc] at this; exact this
    have HV1 := Lib.hid hv1
    clear hbf HF hv1 B0
    have hn : ¬ h ≤ sc := by omega
    have n1 : (sc : Int) < (h : Int) := by omega
    have n2 : decide (sc < h) = true := decide_eq_true (by omega)
    obtain ⟨K, hK⟩ : ∃ K, K = h - sc := ⟨_, rfl⟩
    have n3 : (h : Int) - (sc : Int) = (K : Int) := by omega
    obtain ⟨k, hk⟩ : ∃ k, k = K - 1 := ⟨_, rfl⟩
    have HR := fun (nb : Bool) => Round_any nb v1 l1 w1.heap.size K k (by omega) hd1 (by omega) (by omega) w1 (Nat.le_refl _) hr1
    have HK := Lib.hid hK
    clear hK hk
    go_wp2_with fail
    refine (HR _).mono ?_
    rintro e w2 ⟨v3, l3, rfl, hr3, hd3, hv3, hl3, hb3⟩
    have HV3 := Lib.hid hv3
    have hB2 := hB1.trans (hb3.mono hB1.size)
    have hbw2 := hbw.trans (hb3.mono hz1)
    have hz2 : w.heap.size + 1 ≤ w2.heap.size := Nat.le_trans hz1 hb3.size
    clear hv3 HR hr1 hB1 hbw hb3
    go_wp2_with fail
    refine wp_loop_rounds 1 ?_
    rw [rounds_succ]
    have q0 : ¬ (sc : Int) < (sc : Int) := by omega
    go_wp2_with (at_builtin; refine wpRowI rfl (.tmp 63) (.tmp 64) rfl w2.heap.size _ (.slice none 0 0) v3 [] l3 (by rfl) (World.ownsRow_nil ..) (by rfl) w2.heap.size hr3 (by simp; omega) (Nat.le_refl _) ?_; intro v2 wp hown2 hg2)
    rw [List.nil_append] at hown2
    have hbq := (Below.refl w2.heap.size w2).grown hg2 (Nat.le_refl _) (fun k hk => by cases hk)
    have hPr := RowI.of_own hown2
    have hBp := hB2.trans (hbq.mono hB2.size)
    have hbp := hbw2.trans (hbq.mono hz2)
    have hzp : w.heap.size + 1 ≤ wp.heap.size := Nat.le_trans hz2 hbq.size
    have hPl : l3.length ≤ 50000 := by omega
    have hPval : vL l3 = R := by
      have e1 := HH.out
      have e2 := HD.out
      have e3 : d = 0 := by omega
      rw [HNF.out, if_neg (by omega), HV3.out, HV1.out, e3, Nat.pow_zero, Nat.mul_one, HK.out, ← HH.out]
    have hPv : vL l3 < 10 ^ 400 := by rw [hPval]; exact HLIM.out
    have hPd := hd3
    generalize l3 = P at *
    clear hown2 hg2 hbq hbw2 hB2 hr3 q0
    obtain ⟨nb, hnb⟩ : ∃ nb, nb = (((S : Int) == 1) && decide (vL P ≠ 0)) := ⟨_, rfl⟩
    obtain ⟨sb, hsb⟩ : ∃ sb : ByteArray, sb = ⟨(Lib.decDigits (vL P)).toArray⟩ := ⟨_, rfl⟩
    have hdv : decV ((S : Int) == 1) (vL P) sc = .agg #[.bool nb, .string sb, .int .i64 (sc : Int)] := by rw [hnb, hsb]; rfl
    have HM := Made_any ((S : Int) == 1) v2 P wp.heap.size hPd hPl hPv sc (by omega) wp (Nat.le_refl _) hPr
    rw [hdv] at HM
    have HFIN := Lib.hid (show decV (decide (S = 1)) (R) sc = .agg #[.bool nb, .string sb, .int .i64 (sc : Int)] by
      rw [← hPval, ← hdv]
      congr 1
      rw [Bool.eq_iff_iff, decide_eq_true_eq, beq_iff_eq]
      omega)
    clear hnb hsb hdv hPval hPv hPd hPl
    go_wp2_with fail
    refine HM.mono ?_
    rintro e w5 ⟨rfl, hb5⟩
    have hB5 := hBp.trans (hb5.mono hBp.size)
    have hb6 := hbp.trans (hb5.mono hzp)
    have hz5 : w.heap.size + 1 ≤ w5.heap.size := Nat.le_trans hzp hb5.size
    obtain ⟨f0, f1, f2, z0, z1, z2⟩ := keepC (hb6.alloc hz5 (.cells #[.bool nb, .string sb, .int .i64 (sc : Int)] 27))
    have hBz := hB5.alloc hB5.size (.cells #[.bool nb, .string sb, .int .i64 (sc : Int)] 27)
    clear HM hPr hb5
    go_wp2_with fail
    refine bodyPost_ret (v := .tuple #[.agg #[.bool nb, .string sb, .int .i64 (sc : Int)], .bool true]) ?_ rfl ⟨?_, ?_⟩
    · obtain ⟨e0, e1, e2⟩ := agg_back f0 f1 f2 (.bool nb) (.string sb) (.int .i64 (sc : Int))
      simp [results, Tryz.results8, go_sem, e0, e1, e2]
    · rw [HFIN.out]
    · exact ((hBz.setCell (by simp) _).setCell (by simp) _).setCell (by simp) _
  · have e1 : (E : Int) - 1 = (X : Int) := by omega
    have e2 : (m : Int) + 4503599627370496 = (M : Int) := by rw [hmv, if_neg hE0]; omega
    have q1 : (0 : Int) < (E : Int) := by omega
    have q3 : decide (0 < E) = true := decide_eq_true (by omega)
    have q2 : ((E : Int) == 2047) = false := by rw [beq_eq_false_iff_ne]; omega
    have HH := Lib.hid hh
    have HD := Lib.hid hd
    clear hmv hx1 hE0 hh hd
    go_enter Tryz.func8, Tryz.ntmps8
    go_wp2_with fail
    refine (HF _).mono ?_
    rintro e w1 ⟨v1, l1, rfl, hr1, hd1, hv1, hp1, hl1, hbf⟩
    have hbw : Below (w.heap.size + 1) (w.alloc (.cells #[.bool false, .string ⟨#[]⟩, .int .i64 0] 27)) w1 := by
      have e := hbf
      rw [World.size_alloc] at e
      exact e
    have hB1 := B0.trans (hbf.mono B0.size)
    have hz1 : w.heap.size + 1 ≤ w1.heap.size := by have := hbw.size; rw [World.size_alloc] at this; exact this
    have HV1 := Lib.hid hv1
    clear hbf HF hv1 B0
    by_cases hn : h ≤ sc
    · have n1 : ¬ (sc : Int) < (h : Int) := by omega
      have n2 : decide (sc < h) = false := decide_eq_false (by omega)
      go_wp2_with fail
      go_loopw [11, 12] (fun u v wr => ∃ (j : Nat) (O : List Nat), v = .int .i64 (j : Int) ∧ h ≤ j ∧ j ≤ sc ∧ O = List.replicate (j - h) 0 ∧ O.length = j - h ∧ wr.ownsRow w1.heap.size 3 1 u O.length (ncells O) ∧ Below w1.heap.size w1 wr) (fun _ v _ => sc - (intOf v).toNat)
      case atStart => exact ⟨h, [], rfl, Nat.le_refl _, hn, by simp, by simp, World.ownsRow_nil .., Below.refl _ _⟩
      case round =>
        obtain ⟨j, O, rfl, hj1, hj2, hO, hOl, hown, hb⟩ := hrel
        have HO := Lib.hid hO
        have HOL := Lib.hid hOl
        clear hO hOl
        by_cases hlt : j < sc
        · have q0 : (j : Int) < (sc : Int) := by omega
          have hO2 : O.length ≤ 1000000000000 := by have := HOL.out; omega
          have hbz := hb.size
          go_wp2_with (at_builtin; refine wpNat rfl (.tmp 60) (.tmp 61) rfl w1.heap.size _ u11 O 0 0 rfl (by rfl) hown (by rfl) hO2 hbz ?_; intro v2 w2 hown2 hg2)
          go_roundw
          case rel =>
            have e3 : j + 1 - h = (j - h) + 1 := by omega
            refine ⟨j + 1, O ++ [0], by go_num, by omega, by omega, ?_, ?_, hown2, own_below hb hown hg2⟩
            · rw [HO.out, e3, List.replicate_succ']
            · rw [List.length_append, HOL.out, e3]; rfl
          case measure => simp [intOf]; omega
        · have hjs : j = sc := by omega
          rw [hjs] at HO HOL
          have q0 : ¬ (j : Int) < (sc : Int) := by omega
          have hr2 := hr1.below hb
          have hbz := hb.size
          have hln : O.length + l1.length ≤ 1000000000000 := by have := HOL.out; omega
          clear hjs
          go_wp2_with (at_builtin; refine wpRowI rfl (.tmp 63) (.tmp 64) rfl w1.heap.size _ u11 v1 O l1 (by rfl) hown (by rfl) w1.heap.size hr2 hln hbz ?_; intro v2 wp hown2 hg2)
          have hbq := hb.grown hg2 hb.size (fun k hk => (hown.lt k hk).1)
          have hPr := RowI.of_own hown2
          have hBp := hB1.trans (hbq.mono hB1.size)
          have hbp := hbw.trans (hbq.mono hz1)
          have hzp : w.heap.size + 1 ≤ wp.heap.size := Nat.le_trans hz1 hbq.size
          have hPd : Dig (O ++ l1) := dig_app.2 ⟨by rw [HO.out]; exact dig_rep _, hd1⟩
          have hPl : (O ++ l1).length ≤ 50000 := by rw [List.length_append]; have := HOL.out; omega
          have hPval : vL (O ++ l1) = R := by
            have := HH.out
            have := HD.out
            rw [HNF.out, if_pos (by omega), vL_app, HOL.out, HO.out, vL_rep, HV1.out, ← HH.out, ← HD.out, Nat.zero_add, Nat.mul_comm]
          have hPv : vL (O ++ l1) < 10 ^ 400 := by rw [hPval]; exact HLIM.out
          generalize O ++ l1 = P at *
          clear hown hown2 hg2 hr2 hb hbq HO HOL hbw hB1 hr1
          obtain ⟨nb, hnb⟩ : ∃ nb, nb = (((S : Int) == 1) && decide (vL P ≠ 0)) := ⟨_, rfl⟩
          obtain ⟨sb, hsb⟩ : ∃ sb : ByteArray, sb = ⟨(Lib.decDigits (vL P)).toArray⟩ := ⟨_, rfl⟩
          have hdv : decV ((S : Int) == 1) (vL P) sc = .agg #[.bool nb, .string sb, .int .i64 (sc : Int)] := by rw [hnb, hsb]; rfl
          have HM := Made_any ((S : Int) == 1) v2 P wp.heap.size hPd hPl hPv sc (by omega) wp (Nat.le_refl _) hPr
          rw [hdv] at HM
          have HFIN := Lib.hid (show decV (decide (S = 1)) (R) sc = .agg #[.bool nb, .string sb, .int .i64 (sc : Int)] by
            rw [← hPval, ← hdv]
            congr 1
            rw [Bool.eq_iff_iff, decide_eq_true_eq, beq_iff_eq]
            omega)
          clear hnb hsb hdv hPval hPv hPd hPl
          go_wp2_with fail
          refine HM.mono ?_
          rintro e w5 ⟨rfl, hb5⟩
          have hB5 := hBp.trans (hb5.mono hBp.size)
          have hb6 := hbp.trans (hb5.mono hzp)
          have hz5 : w.heap.size + 1 ≤ w5.heap.size := Nat.le_trans hzp hb5.size
          obtain ⟨f0, f1, f2, z0, z1, z2⟩ := keepC (hb6.alloc hz5 (.cells #[.bool nb, .string sb, .int .i64 (sc : Int)] 27))
          have hBz := hB5.alloc hB5.size (.cells #[.bool nb, .string sb, .int .i64 (sc : Int)] 27)
          clear HM hPr hb5
          go_wp2_with fail
          refine bodyPost_ret (v := .tuple #[.agg #[.bool nb, .string sb, .int .i64 (sc : Int)], .bool true]) ?_ rfl ⟨?_, ?_⟩
          · obtain ⟨e0, e1, e2⟩ := agg_back f0 f1 f2 (.bool nb) (.string sb) (.int .i64 (sc : Int))
            simp [results, Tryz.results8, go_sem, e0, e1, e2]
          · rw [HFIN.out]
          · exact ((hBz.setCell (by simp) _).setCell (by simp) _).setCell (by simp) _
    · have n1 : (sc : Int) < (h : Int) := by omega
      have n2 : decide (sc < h) = true := decide_eq_true (by omega)
      obtain ⟨K, hK⟩ : ∃ K, K = h - sc := ⟨_, rfl⟩
      have n3 : (h : Int) - (sc : Int) = (K : Int) := by omega
      obtain ⟨k, hk⟩ : ∃ k, k = K - 1 := ⟨_, rfl⟩
      have HR := fun (nb : Bool) => Round_any nb v1 l1 w1.heap.size K k (by omega) hd1 (by omega) (by omega) w1 (Nat.le_refl _) hr1
      have HK := Lib.hid hK
      clear hK hk
      go_wp2_with fail
      refine (HR _).mono ?_
      rintro e w2 ⟨v3, l3, rfl, hr3, hd3, hv3, hl3, hb3⟩
      have HV3 := Lib.hid hv3
      have hB2 := hB1.trans (hb3.mono hB1.size)
      have hbw2 := hbw.trans (hb3.mono hz1)
      have hz2 : w.heap.size + 1 ≤ w2.heap.size := Nat.le_trans hz1 hb3.size
      clear hv3 HR hr1 hB1 hbw hb3
      go_wp2_with fail
      refine wp_loop_rounds 1 ?_
      rw [rounds_succ]
      have q0 : ¬ (sc : Int) < (sc : Int) := by omega
      go_wp2_with (at_builtin; refine wpRowI rfl (.tmp 63) (.tmp 64) rfl w2.heap.size _ (.slice none 0 0) v3 [] l3 (by rfl) (World.ownsRow_nil ..) (by rfl) w2.heap.size hr3 (by simp; omega) (Nat.le_refl _) ?_; intro v2 wp hown2 hg2)
      rw [List.nil_append] at hown2
      have hbq := (Below.refl w2.heap.size w2).grown hg2 (Nat.le_refl _) (fun k hk => by cases hk)
      have hPr := RowI.of_own hown2
      have hBp := hB2.trans (hbq.mono hB2.size)
      have hbp := hbw2.trans (hbq.mono hz2)
      have hzp : w.heap.size + 1 ≤ wp.heap.size := Nat.le_trans hz2 hbq.size
      have hPl : l3.length ≤ 50000 := by omega
      have hPval : vL l3 = R := by
        have e1 := HH.out
        have e2 := HD.out
        have e3 : d = 0 := by omega
        rw [HNF.out, if_neg (by omega), HV3.out, HV1.out, e3, Nat.pow_zero, Nat.mul_one, HK.out, ← HH.out]
      have hPv : vL l3 < 10 ^ 400 := by rw [hPval]; exact HLIM.out
      have hPd := hd3
      generalize l3 = P at *
      clear hown2 hg2 hbq hbw2 hB2 hr3 q0
      obtain ⟨nb, hnb⟩ : ∃ nb, nb = (((S : Int) == 1) && decide (vL P ≠ 0)) := ⟨_, rfl⟩
      obtain ⟨sb, hsb⟩ : ∃ sb : ByteArray, sb = ⟨(Lib.decDigits (vL P)).toArray⟩ := ⟨_, rfl⟩
      have hdv : decV ((S : Int) == 1) (vL P) sc = .agg #[.bool nb, .string sb, .int .i64 (sc : Int)] := by rw [hnb, hsb]; rfl
      have HM := Made_any ((S : Int) == 1) v2 P wp.heap.size hPd hPl hPv sc (by omega) wp (Nat.le_refl _) hPr
      rw [hdv] at HM
      have HFIN := Lib.hid (show decV (decide (S = 1)) (R) sc = .agg #[.bool nb, .string sb, .int .i64 (sc : Int)] by
        rw [← hPval, ← hdv]
        congr 1
        rw [Bool.eq_iff_iff, decide_eq_true_eq, beq_iff_eq]
        omega)
      clear hnb hsb hdv hPval hPv hPd hPl
      go_wp2_with fail
      refine HM.mono ?_
      rintro e w5 ⟨rfl, hb5⟩
      have hB5 := hBp.trans (hb5.mono hBp.size)
      have hb6 := hbp.trans (hb5.mono hzp)
      have hz5 : w.heap.size + 1 ≤ w5.heap.size := Nat.le_trans hzp hb5.size
      obtain ⟨f0, f1, f2, z0, z1, z2⟩ := keepC (hb6.alloc hz5 (.cells #[.bool nb, .string sb, .int .i64 (sc : Int)] 27))
      have hBz := hB5.alloc hB5.size (.cells #[.bool nb, .string sb, .int .i64 (sc : Int)] 27)
      clear HM hPr hb5
      go_wp2_with fail
      refine bodyPost_ret (v := .tuple #[.agg #[.bool nb, .string sb, .int .i64 (sc : Int)], .bool true]) ?_ rfl ⟨?_, ?_⟩
      · obtain ⟨e0, e1, e2⟩ := agg_back f0 f1 f2 (.bool nb) (.string sb) (.int .i64 (sc : Int))
        simp [results, Tryz.results8, go_sem, e0, e1, e2]
      · rw [HFIN.out]
      · exact ((hBz.setCell (by simp) _).setCell (by simp) _).setCell (by simp) _
end Go.Proofs.YtpfldlbdmhhjdaaGreatDoor
