/-
  dec.Float at a finite number. Conditions: sizes, the table of powers.
-/
import Derived.Test.YtpfldlbdmhhjdaaGreatDoorDj
import Derived.Deep.RegionHeld3
import Derived.Deep.QuietTactic
import Derived.BigQuiet
set_option linter.unusedVariables false
namespace Go.Proofs.YtpfldlbdmhhjdaaGreatDoor
open Go.RowKit Go.Fl Go.Sort
set_option maxRecDepth 100000 in
set_option maxHeartbeats 1500000 in
theorem Float_near (a : Nat) (ha : a < 18446744073709551616) (hf : finW a = true) (sc : Nat) (hsc : sc ≤ 40) (hcs : ¬ 1074 - expo a ≤ sc) (w : World) (htab : ∀ w', Below w.heap.size w w' → Lib.TabIs Tryz.prog w' "internal/strconv.uint64pow10" .u64 Lib.pow10Tab) :
    Calls Tryz.prog 13 #[.float .f64 a, .int .i64 sc] w fun e w' => e = .returned (.tuple #[decV (decide (a / 9223372036854775808 = 1)) (numF a sc) sc, .int .i64 0]) ∧ Below w.heap.size w w' := by
  have h1 : ¬ (sc : Int) < 0 := by omega
  have h2 : ¬ 40 < (sc : Int) := by omega
  have HN := fun w : World => IsNaN_any a w
  have hnan : nanW a = false := by
    have := of_decide_eq_true hf
    unfold nanW
    rw [decide_eq_false this, Bool.false_and]
  rw [hnan] at HN
  have HI := fun w : World => IsInf_any a ha hnan w
  rw [hf, Bool.not_true] at HI
  have HB := run_bits a
  have he1 := and_expo a ha
  have hm1 := and_mant a ha
  have hx1 : expo a = a / 4503599627370496 % 2048 - 1 := rfl
  have hxl : a / 4503599627370496 % 2048 < 2047 := by
    have := of_decide_eq_true hf
    omega
  have hmv : mant a = if a / 4503599627370496 % 2048 = 0 then a % 4503599627370496 else a % 4503599627370496 + 4503599627370496 := rfl
  have hml := mant_lt a
  have horm := or_mant (a % 4503599627370496) (by omega)
  have HF := fun w (h : Lib.TabIs Tryz.prog w "internal/strconv.uint64pow10" .u64 Lib.pow10Tab) => FormatUint_any (mant a) (by omega) w h
  obtain ⟨D0, hD0, hd0, hv0, hl0⟩ := digs (mant a)
  rw [hd0] at HF
  have hl20 : D0.length ≤ 20 := by
    have := dec_len (n := mant a) 20 (by decide) (by omega)
    rwa [hd0, chM_len] at this
  have hb1 := (Below.refl w.heap.size w).alloc (Nat.le_refl _) (.cells #[.bool false, .string ⟨#[]⟩, .int .i64 0] 27)
  have hlim := numF_lt hf hsc
  have hnF : numF a sc = if 1074 - expo a ≤ sc then mant a * 2 ^ (expo a - 1074) * 5 ^ (1074 - expo a) * 10 ^ (sc - (1074 - expo a)) else rnd (mant a * 5 ^ (1074 - expo a)) (1074 - expo a - sc) := rfl
  rw [hnF] at hlim ⊢
  clear hnF
  generalize mant a = M at *
  have HCS := Lib.hid hcs
  clear hcs
  generalize expo a = X at *
  generalize hE : a / 4503599627370496 % 2048 = E at *
  generalize a % 4503599627370496 = m at *
  have hA63 : (a : Int) / 9223372036854775808 = ((a / 9223372036854775808 : Nat) : Int) := by omega
  have hA52 : (a : Int) / 4503599627370496 = ((a / 4503599627370496 : Nat) : Int) := by omega
  generalize a / 9223372036854775808 = S at *
  clear hE
  generalize a / 4503599627370496 = T at *
  have HX := Lib.hid hx1
  have HLIM := Lib.hid hlim
  have HM := Lib.hid hmv
  have HV := Lib.hid hv0
  clear hlim hx1 hmv hv0 hd0 hnan hf
  go_enter Tryz.func13, Tryz.ntmps13
  go_wp2_with (first | (go_at_call 23; refine (HN _).mono ?_; rintro e w1 ⟨rfl, rfl⟩) | (go_at_call 24; refine (HI _).mono ?_; rintro e w2 ⟨rfl, rfl⟩) | (go_at_call 26; (first | rw [show (m : Int) + 4503599627370496 = (M : Int) by (have := HM.out; split at this <;> omega), show (E : Int) - 1 - 1074 = (X : Int) - 1074 by (have := HX.out; omega)] | rw [show (m : Int) = (M : Int) by (have := HM.out; split at this <;> omega), show (E : Int) - 1074 = (X : Int) - 1074 by (have := HX.out; omega)]); refine (HF _ (htab _ hb1)).mono ?_; rintro e w3 ⟨rfl, hb3⟩; obtain ⟨c3, w4, hc3, hr3, hl3, hb4⟩ := conv_run w3 ⟨(chM D0).toArray⟩; rw [size_of (s := ⟨(chM D0).toArray⟩) (D := D0) rfl] at hc3))
  all_goals
    rw [World.size_alloc] at hb3
    have hw3 : w.heap.size + 1 ≤ w3.heap.size := by have := hb3.size; rw [World.size_alloc] at this; exact this
    have hB4 : Below (w.heap.size + 1) (w.alloc (.cells #[.bool false, .string ⟨#[]⟩, .int .i64 0] 27)) w4 := hb3.trans (hb4.mono hw3)
    go_loopw [8, 10] (fun u v wr => ∃ (i g c : Nat) (D : List Nat) (x : Int), u = .int .i64 x ∧ x = (X : Int) - 1074 - i ∧ i ≤ X - 1074 ∧ v = .slice (some ⟨g, 0, none⟩) D.length c ∧ Dig D ∧ vM 0 D = M * 2 ^ i ∧ 0 < D.length ∧ D.length ≤ 20 + i ∧ RowAt wr ⟨g, 0, none⟩ (chM D) ∧ g < wr.heap.size ∧ Below (w.heap.size + 1) (w.alloc (.cells #[.bool false, .string ⟨#[]⟩, .int .i64 0] 27)) wr) (fun u _ _ => (intOf u).toNat)
    case atStart => exact ⟨0, w3.heap.size, c3, D0, _, rfl, by omega, by omega, rfl, hD0, by rw [HV.out]; simp, hl0, by omega, hr3, hl3, hB4⟩
    case round =>
      clear hB4 hw3 hr3 hl3 hc3 hb4 hb3 hD0 hl0 hl20 HV HM HF
      obtain ⟨i, g, c, D, x, rfl, hx, hi, rfl, hD, hv, h0, hl, hr, hg, hb⟩ := hrel
      have hbz : w.heap.size + 1 ≤ wr.heap.size := by have := hb.size; rw [World.size_alloc] at this; exact this
      have hXl : X ≤ 2046 := by have := HX.out; omega
      have hxu : x ≤ 1000 := by omega
      by_cases hlt : 0 < x
      · obtain ⟨p1, p2, p3⟩ := dbl_row D hD
        have HP := plus_any ⟨g, 0, none⟩ ⟨g, 0, none⟩ D.reverse D.reverse c c rfl (by rw [List.length_reverse]; exact h0) (by rw [List.length_reverse]; omega) (dig_rev.2 hD) (dig_rev.2 hD) wr (by rw [txt_chM, List.reverse_reverse]; exact hr) (by rw [txt_chM, List.reverse_reverse]; exact hr) hg hg
        rw [List.length_reverse, txt_chM] at HP
        generalize (plusL D.reverse D.reverse 0).reverse = P at *
        have HXX := Lib.hid hx
        have HVV := Lib.hid hv
        have HPP := Lib.hid p2
        have HP3 := Lib.hid p3
        clear hx hv p2 p3 hXl
        go_wp2_with (go_at_call 27; refine HP.mono ?_; rintro e w5 ⟨rfl, hb5⟩; obtain ⟨c6, w6, hc6, hr6, hl6, hb6⟩ := conv_run w5 ⟨(chM P).toArray⟩; rw [size_of (s := ⟨(chM P).toArray⟩) (D := P) rfl] at hc6)
        go_roundw
        case rel =>
          have q1 := HXX.out
          have q2 := HPP.out
          have q3 := HP3.out
          refine ⟨i + 1, w5.heap.size, c6, P, _, rfl, by omega, by omega, rfl, p1, by rw [q2, HVV.out, Nat.pow_succ, Nat.mul_comm, Nat.mul_assoc], by omega, by omega, hr6, hl6, (hb.trans (hb5.mono hbz)).trans (hb6.mono (Nat.le_trans hbz hb5.size))⟩
        case measure => simp [intOf]; omega
      · obtain rfl : i = X - 1074 := by omega
        obtain rfl : x = ((X - 1074 : Nat) : Int) - ((X - 1074 : Nat) : Int) - ((1074 - X : Nat) : Int) := by omega
        obtain ⟨K, hK⟩ : ∃ K : Nat, K = 1074 - X := ⟨_, rfl⟩
        rw [← hK]
        rw [show ((X - 1074 : Nat) : Int) - ((X - 1074 : Nat) : Int) - (K : Int) = -(K : Int) by omega]
        have hlx : D.length ≤ 1200 := by omega
        have hK9 : K ≤ 1074 := by omega
        generalize hV : M * 2 ^ (X - 1074) = V at *
        have hVV := Lib.hid hV
        have HK := Lib.hid hK
        clear hx hV hl hxu hlt hi
        clear hK
        have hnp : ¬ (0 : Int) < -(K : Int) := by omega
        go_wp2_with fail
        have H0 : vM 0 D = V * 5 ^ 0 := by rw [hv]; simp
        go_loopw [8, 10, 11] (fun u v t wr => ∃ (i g c : Nat) (D : List Nat) (x : Int), u = .int .i64 x ∧ x = (i : Int) - (K : Int) ∧ i ≤ K ∧ v = .slice (some ⟨g, 0, none⟩) D.length c ∧ t = .int .i64 i ∧ Dig D ∧ vM 0 D = V * 5 ^ i ∧ i < D.length ∧ D.length ≤ 1200 + i ∧ RowAt wr ⟨g, 0, none⟩ (chM D) ∧ g < wr.heap.size ∧ Below (w.heap.size + 1) (w.alloc (.cells #[.bool false, .string ⟨#[]⟩, .int .i64 0] 27)) wr) (fun u _ _ _ => (- intOf u).toNat)
        case atStart => exact ⟨0, g, c, D, _, rfl, by omega, by omega, rfl, rfl, hD, H0, h0, by omega, hr, hg, hb⟩
        case round =>
          clear H0 hbz hb hg hr h0 hD hv hlx hnp
          obtain ⟨i, g, c, D, x, rfl, hx, hi, rfl, rfl, hD, hv, h0, hl, hr, hg, hb⟩ := hrel
          have hbz : w.heap.size + 1 ≤ wr.heap.size := by have := hb.size; rw [World.size_alloc] at this; exact this
          by_cases hlt : x < 0
          · have HP := halved_any ⟨g, 0, none⟩ D c hD (by omega) (by omega) wr hr hg
            have p1 : Dig (halveM 0 (D ++ [0])) := halve_dig _ _ (dig_app.2 ⟨hD, dig_cons.2 ⟨by decide, dig_nil⟩⟩) (by decide)
            have p2 := halved_val D
            have p3 : (halveM 0 (D ++ [0])).length = D.length + 1 := by rw [halve_len, List.length_append]; rfl
            rw [← p3] at HP
            generalize halveM 0 (D ++ [0]) = P at *
            have hxl : -1100 ≤ x := by omega
            have hil : i ≤ 1100 := by omega
            have HXX := Lib.hid hx
            have HVV := Lib.hid hv
            have HPP := Lib.hid p2
            have HP3 := Lib.hid p3
            clear hx hv p2 p3
            go_wp2_with (go_at_call 28; refine HP.mono ?_; rintro e w5 ⟨g5, c5, rfl, hr5, hl5, hb5⟩)
            go_roundw
            case rel =>
              have q1 := HXX.out
              have q2 := HPP.out
              have q3 := HP3.out
              refine ⟨i + 1, g5, c5, P, _, rfl, by omega, by omega, rfl, by go_num, p1, by rw [q2, HVV.out, Nat.pow_succ, Nat.mul_left_comm, Nat.mul_comm 5], by omega, by omega, hr5, hl5, hb.trans (hb5.mono hbz)⟩
            case measure => simp [intOf]; omega
          · obtain rfl : i = K := by omega
            obtain rfl : x = 0 := by omega
            clear hx hlt
            by_cases hkc : i ≤ sc
            · exact absurd (by rw [← HK.out]; exact hkc) HCS.out
            · obtain ⟨r, hrr⟩ : ∃ r, r + 1 = i - sc := ⟨i - sc - 1, by omega⟩
              obtain ⟨h, hh⟩ : ∃ h, h + 1 + (r + 1) = D.length := ⟨D.length - (r + 1) - 1, by omega⟩
              have hks : ¬ 1074 - X ≤ sc := by rw [← HK.out]; exact hkc
              have hpos : (0 : Int) < (i : Int) - (sc : Int) := by omega
              have hmx : (i : Int) - (sc : Int) + 1 - (D.length : Int) ≤ 0 := by omega
              have hown0 : ((wr.alloc (.cells #[.int .u8 48] 5)).alloc (.cells #[] 5)).ownsRow (wr.heap.size + 1) 5 1 (.slice (some ⟨wr.heap.size + 1, 0, none⟩) 0 0) ([] : List UInt8).length (bcells []) :=
                ⟨by simp [bcells], Or.inr ⟨wr.heap.size + 1, 0, #[], rfl, Nat.le_refl _, by have := heap_alloc_new (wr.alloc (.cells #[.int .u8 48] 5)) (.cells #[] 5); rwa [World.size_alloc] at this, Nat.le_refl _, Nat.zero_le _, by simp, by simp [bcells]⟩⟩
              have hB2 := ((Below.refl wr.heap.size wr).alloc (Nat.le_refl _) (.cells #[.int .u8 48] 5)).alloc (by rw [World.size_alloc]; omega) (.cells #[] 5)
              have hr2 := hr.below hB2 hg
              have h1D : 0 < (chM D).length := by rw [chM_len]; omega
              have hDl : D.length ≤ 2400 := by omega
              clear HN HI HB HX hm1 horm hA63 hA52 he1 htab ha hml hxl
              go_wp2_with (first | (go_at_call 29; rw [show max (0 : Int) ((i : Int) - (sc : Int) + 1 - (D.length : Int)) = 0 by omega]; refine (Repeat0_any _ wr.heap.size (by simp)).mono ?_; rintro e w5 ⟨rfl, rfl⟩) | (at_builtin; refine wpRow rfl (.tmp 82) (.tmp 83) rfl (wr.heap.size + 1) _ (.slice (some ⟨wr.heap.size + 1, 0, none⟩) 0 0) [] (chM D) (by first | rfl | simp) hown0 ⟨g, 0, none⟩ c (by rw [chM_len]; rfl) hr2 h1D (by rw [chM_len]; simp only [List.length_nil]; omega) (by simp) (wr.heap.size + 2) (by simp) ?_; intro yb ycap w7 hown7 hgrow7 hat7 hlt7))
              have hcap := own_cap hown7
              obtain ⟨hry, _⟩ := RowAt.of_own hown7
              rw [List.nil_append] at hry
              have hnl : ([] : List UInt8).length + (chM D).length = D.length := by rw [chM_len]; simp
              rw [hnl] at hcap
              first | rw [hnl] | rw [chM_len]
              have hyw : wr.heap.size + 1 ≤ yb := by
                rcases hat7 with e | e
                · injection e with e; simp only at e; omega
                · omega
              have hB7 : Below (w.heap.size + 1) (w.alloc (.cells #[.bool false, .string ⟨#[]⟩, .int .i64 0] 27)) w7 := (hb.trans (hB2.mono hbz)).grown hgrow7 (by simp; omega) (fun k hk => by injection hk with hk; simp only at hk; omega)
              have hT7 : RowAt w7 ⟨yb, h + 1, none⟩ (chM (D.drop (h + 1))) := fun j hj => by
                have hj2 : h + 1 + j < (chM D).length := by rw [chM_len] at hj ⊢; rw [List.length_drop] at hj; omega
                have := hry (h + 1 + j) hj2
                rw [Lib.add_plain, Nat.zero_add] at this
                rw [Lib.add_plain, this]
                simp [chM]
              have hTl : (chM (D.drop (h + 1))).length = r + 1 := by rw [chM_len, List.length_drop]; omega
              have hcv := fun (q cc : Nat) => run_convert_bytes_back (P := Tryz.prog) (w7.drewN q) 67 9 5 ⟨yb, h + 1, none⟩ cc (chM (D.drop (h + 1))) Tryz.underlying67 Tryz.underlying5 Tryz.underlying9 (fun j hj => by rw [World.cell?_drewN]; exact hT7 j hj)
              rw [hTl] at hcv
              have hs2 : (⟨(chM (D.drop (h + 1))).toArray⟩ : ByteArray).data.toList = chM (D.drop (h + 1)) := rfl
              generalize (⟨(chM (D.drop (h + 1))).toArray⟩ : ByteArray) = s2 at *
              obtain ⟨n, hn⟩ : ∃ n, D.length = n := ⟨_, rfl⟩
              rw [hn] at hcap ⊢
              have hw1 : IntKind.i64.wrap ((n : Int) - ((i : Int) - (sc : Int))) = ((h + 1 : Nat) : Int) := by rw [IntWalk.i64_in _ (by omega)]; omega
              have hsl : n - (h + 1) = r + 1 := by omega
              have g1 : (0 : Int) ≤ ((h + 1 : Nat) : Int) := by omega
              have g2 : ((h + 1 : Nat) : Int) ≤ (n : Int) := by omega
              have g3 : ((h + 1 : Nat) : Int) ≤ (ycap : Int) := by omega
              have g4 : (n : Int) ≤ (ycap : Int) := by omega
              have g5 : h + 1 ≤ n := by omega
              have g6 : h + 1 ≤ ycap := by omega
              have HH := Lib.hid hh
              have HRR := Lib.hid hrr
              have HN := Lib.hid hn
              clear hh hrr hn
              go_quiet (fail)
              have hry8 : RowAt (w7.drewN nq) ⟨yb, 0, none⟩ (chM D) := fun j hj => by rw [World.cell?_drewN]; exact hry j hj
              have hB8 := blw_drewN hB7 nq
              have hl8 : yb < (w7.drewN nq).heap.size := hlt7
              generalize w7.drewN nq = w8 at *
              have hDD : D = (D.take h ++ [D[h]'(by have := HH.out; omega)]) ++ D.drop (h + 1) := by
                rw [← List.take_succ_eq_append_getElem, List.take_append_drop]
              have hHd : D.take (h + 1) = D.take h ++ [D[h]'(by have := HH.out; omega)] := List.take_succ_eq_append_getElem _
              have hdd := dig_get hD (show h < D.length by have := HH.out; omega)
              have hcl := hry8 h (by rw [chM_len]; have := HH.out; omega)
              have hce : (chM D)[h]'(by rw [chM_len]; have := HH.out; omega) = chr (D[h]'(by have := HH.out; omega)) := by simp [chM]
              rw [hce, chr_int hdd, Lib.add_plain, Nat.zero_add] at hcl
              have hrH : RowAt w8 ⟨yb, 0, none⟩ (chM (D.take (h + 1))) := fun j hj => by
                have hj2 : j < (chM D).length := by rw [chM_len] at hj ⊢; rw [List.length_take] at hj; omega
                rw [hry8 j hj2]
                simp [chM]
              have hHl : (D.take (h + 1)).length = h + 1 := by rw [List.length_take]; have := HH.out; omega
              have hdH : Dig (D.take (h + 1)) := fun d hd => hD d (List.mem_of_mem_take hd)
              have hdT : Dig (D.drop (h + 1)) := fun d hd => hD d (List.mem_of_mem_drop hd)
              have hTl2 : (D.drop (h + 1)).length = r + 1 := by rw [chM_len] at hTl; exact hTl
              generalize D[h]'(by have := HH.out; omega) = d at *
              generalize hHD : D.take (h + 1) = Hd at *
              generalize hTT : D.drop (h + 1) = TT at *
              have hx : bits .and .u8 ((48 : Int) + (d : Int)) 1 = ((d % 2 : Nat) : Int) := by
                have e := u8_and_nat (48 + d) 1 (by omega) (by decide)
                have e2 : 48 + d &&& 1 = d % 2 := by rw [Nat.and_one_is_mod]; omega
                rw [e2] at e
                exact e
              obtain ⟨x, hxx⟩ : ∃ x : Int, x = (48 : Int) + (d : Int) := ⟨_, rfl⟩
              rw [← hxx] at hx hcl
              obtain ⟨o, ho⟩ : ∃ o, o = d % 2 := ⟨_, rfl⟩
              rw [← ho] at hx
              have HU := fun w : World => up_any ((S : Int) == 1) ((o : Int) == 1) s2 TT hdT r hTl2 (by have := HH.out; omega) hs2 w
              obtain ⟨b, hbb⟩ : ∃ b, b = (decide (10 ^ (r + 1) < 2 * vM 0 TT) || (decide (2 * vM 0 TT = 10 ^ (r + 1)) && ((o : Int) == 1))) := ⟨_, rfl⟩
              rw [← hbb] at HU
              have hcv2 := run_convert_bytes_back (P := Tryz.prog) w8 67 9 5 ⟨yb, 0, none⟩ ycap (chM Hd) Tryz.underlying67 Tryz.underlying5 Tryz.underlying9 hrH
              rw [chM_len, hHl] at hcv2
              have hs1 : (⟨(chM Hd).toArray⟩ : ByteArray).data.toList = chM Hd := rfl
              generalize (⟨(chM Hd).toArray⟩ : ByteArray) = s1 at *
              have h0h : (0 : Int) ≤ (h : Int) := by omega
              have hhn : h ≤ 2400 := by have := HH.out; omega
              have HBB := Lib.hid hbb
              have HXX := Lib.hid hxx
              have HO := Lib.hid ho
              have HHD := Lib.hid hHd
              have HDDD := Lib.hid hDD
              have HTL := Lib.hid hTl2
              have HHL := Lib.hid hHl
              have hz8 : w.heap.size + 1 ≤ w8.heap.size := by have := hB8.size; rw [World.size_alloc] at this; exact this
              clear hbb hxx ho hHd hDD hTl2 hHl hHD hTT hcv hsl hw1 hTl hce hry hry8 hr2 hB2 hown0 hmx
              have hlim3 : rnd (M * 5 ^ (1074 - X)) (1074 - X - sc) < 10 ^ 400 := by
                have := HLIM.out
                rw [if_neg hks] at this
                exact this
              have hfin0 : rnd (M * 5 ^ (1074 - X)) (1074 - X - sc) = if b = true then vM 0 Hd + 1 else vM 0 Hd := by
                have q1 : X - 1074 = 0 := by have := HK.out; omega
                have q2 := hVV.out
                rw [q1, Nat.pow_zero, Nat.mul_one] at q2
                have q3 : i - sc = TT.length := by rw [HTL.out]; exact HRR.out.symm
                rw [← HK.out, q2, ← hv, q3, HDDD.out, rnd_cut _ _ _ hdT, HBB.out, HO.out, HTL.out, HHD.out]
              obtain ⟨R, hR⟩ : ∃ R, R = rnd (M * 5 ^ (1074 - X)) (1074 - X - sc) := ⟨_, rfl⟩
              rw [← hR] at hlim3 hfin0
              have HFIN := Lib.hid hR.symm
              clear hR hv
              cases b with
              | true =>
                rw [if_pos rfl] at hfin0
                have hdm : Dig (List.replicate h 0 ++ [1]).reverse := dig_rev.2 (dig_app.2 ⟨dig_rep h, dig_cons.2 ⟨by decide, dig_nil⟩⟩)
                have hvm : vL (List.replicate h 0 ++ [1]).reverse = 1 := by
                  rw [← vM_eq, vM_app, vM_rep]
                  simp [vM]
                have hlm : (List.replicate h 0 ++ [1]).reverse.length = h + 1 := by simp
                have hll : Hd.reverse.length = h + 1 := by rw [List.length_reverse, HHL.out]
                have hpl : Dig (plusL Hd.reverse (List.replicate h 0 ++ [1]).reverse 0) := plusL_dig _ _ _ (dig_rev.2 hdH) hdm (by decide)
                have HVAL : vL (plusL Hd.reverse (List.replicate h 0 ++ [1]).reverse 0) = R := by
                  rw [plusL_val _ _ _ (by rw [hll, hlm]), hvm, ← vM_eq, hfin0]
                have hs5 : (⟨(txt (plusL Hd.reverse (List.replicate h 0 ++ [1]).reverse 0)).toArray⟩ : ByteArray).data.toList = txt (plusL Hd.reverse (List.replicate h 0 ++ [1]).reverse 0) := rfl
                have hz5 : (⟨(txt (plusL Hd.reverse (List.replicate h 0 ++ [1]).reverse 0)).toArray⟩ : ByteArray).size ≤ 281474976710656 := by
                  show (txt (plusL Hd.reverse (List.replicate h 0 ++ [1]).reverse 0)).toArray.size ≤ _
                  rw [List.size_toArray, txt_len, plusL_len _ _ _ (by rw [hll, hlm]), hll]
                  omega
                have HMd := fun w : World => made_any ((S : Int) == 1) _ hpl _ hs5 hz5 sc (by omega) (by rw [HVAL]; exact hlim3) w
                rw [HVAL] at HMd
                obtain ⟨nb, hnb⟩ : ∃ nb, nb = (((S : Int) == 1) && decide (R ≠ 0)) := ⟨_, rfl⟩
                obtain ⟨ds, hds⟩ : ∃ ds : ByteArray, ds = ⟨(Lib.decDigits R).toArray⟩ := ⟨_, rfl⟩
                have hdec : decV ((S : Int) == 1) R sc = .agg #[.bool nb, .string ds, .int .i64 (sc : Int)] := by rw [hnb, hds]; rfl
                have hfin := Lib.hid (show decV (decide (S = 1)) (rnd (M * 5 ^ (1074 - X)) (1074 - X - sc)) sc = .agg #[.bool nb, .string ds, .int .i64 (sc : Int)] by
                  rw [HFIN.out, ← hdec]
                  congr 1
                  rw [Bool.eq_iff_iff, decide_eq_true_eq, beq_iff_eq]
                  omega)
                rw [hdec] at HMd
                clear hnb hds hdec
                have H1 := fun w : World => Tryz.strings_Repeat ⟨#[48]⟩ h w (by omega) (by show 1 * h ≤ _; omega)
                rw [rep_zero] at H1
                have hs6 : (⟨(chM (List.replicate h 0)).toArray⟩ : ByteArray).data.toList = chM (List.replicate h 0) := rfl
                have hz6 := size_of hs6
                rw [List.length_replicate] at hz6
                generalize (⟨(chM (List.replicate h 0)).toArray⟩ : ByteArray) = r2 at *
                have hno : ¬ 9223372036854775807 < r2.size + 1 := by omega
                have hs7 : (r2 ++ (⟨#[49]⟩ : ByteArray)).data.toList = chM (List.replicate h 0 ++ [1]) := by
                  rw [ByteArray.data_append, Array.toList_append, hs6, chM_app]
                  rfl
                obtain ⟨r3, hr3⟩ : ∃ r3, r2 ++ (⟨#[49]⟩ : ByteArray) = r3 := ⟨_, rfl⟩
                rw [hr3] at hs7
                have hz7 := size_of hs7
                rw [List.length_append, List.length_replicate] at hz7
                simp only [List.length_cons, List.length_nil, Nat.zero_add] at hz7
                have HZ7 := Lib.hid hz7
                have HS7 := Lib.hid hs7
                have HLL := Lib.hid hll
                have HLM := Lib.hid hlm
                have hrm : txt (List.replicate h 0 ++ [1]).reverse = chM (List.replicate h 0 ++ [1]) := by rw [txt_chM, List.reverse_reverse]
                have hrd : txt Hd.reverse = chM Hd := by rw [txt_chM, List.reverse_reverse]
                have HRM := Lib.hid hrm
                have HRD := Lib.hid hrd
                clear hz6 hs6 hs7 hz7 hll hlm hrm hrd HVAL hvm hfin0 hlim3 hs5 hz5
                have hyl : (⟨yb, 0, none⟩ : Addr).block < w8.heap.size := hl8
                have HPL := fun (W : World) (ad : Addr) (cc : Nat) (h1 : RowAt W ⟨yb, 0, none⟩ (chM Hd)) (h2 : RowAt W ad (chM (List.replicate h 0 ++ [1]))) (h3 : yb < W.heap.size) (h4 : ad.block < W.heap.size) => plus_any ⟨yb, 0, none⟩ ad Hd.reverse (List.replicate h 0 ++ [1]).reverse ycap cc (by rw [HLL.out, HLM.out]) (by rw [HLL.out]; omega) (by rw [HLL.out]; omega) (dig_rev.2 hdH) hdm W (by rw [HRD.out]; exact h1) (by rw [HRM.out]; exact h2) h3 h4
                rw [HLL.out, HLM.out] at HPL
                generalize (⟨(txt (plusL Hd.reverse (List.replicate h 0 ++ [1]).reverse 0)).toArray⟩ : ByteArray) = r5 at *
                go_wp2_with (first | (go_at_call 30; refine (HU _).mono ?_; rintro e w9 ⟨rfl, hb9⟩) | (go_at_call 31; refine (H1 _).mono ?_; rintro e w10 ⟨rfl, hb10⟩; obtain ⟨c11, w11, hc11, hr11, hl11, hb11⟩ := conv_run w10 r3; rw [HZ7.out] at hc11; rw [HS7.out] at hr11; have hB11 := (hb9.trans (hb10.mono hb9.size)).trans (hb11.mono (Nat.le_trans hb9.size hb10.size)); have hr12 := hrH.below hB11 hl8; have hl12 := Nat.lt_of_lt_of_le hl8 hB11.size) | (go_at_call 27; refine (HPL _ _ _ hr12 hr11 hl12 hl11).mono ?_; rintro e w12 ⟨rfl, hb12⟩) | (go_at_call 32; refine (HMd _).mono ?_; rintro e w13 ⟨rfl, hb13⟩; have hB13 := ((hB8.trans (hB11.mono hz8)).trans (hb12.mono (Nat.le_trans hz8 hB11.size))).trans (hb13.mono (Nat.le_trans (Nat.le_trans hz8 hB11.size) hb12.size)); obtain ⟨hc0, hc1, hc2, hf0, hf1, hf2⟩ := keepC hB13; have hBz := hb1.trans (hB13.mono (Nat.le_succ _))))
                refine bodyPost_ret (v := .tuple #[.agg #[.bool nb, .string ds, .int .i64 (sc : Int)], .int .i64 0]) ?_ rfl ⟨?_, ?_⟩
                · obtain ⟨e0, e1, e2⟩ := agg_back hc0 hc1 hc2 (.bool nb) (.string ds) (.int .i64 (sc : Int))
                  simp [results, Tryz.results13, go_sem, e0, e1, e2]
                · rw [hfin.out]
                · exact ((hBz.setCell (by simp) _).setCell (by simp) _).setCell (by simp) _
              | false =>
                rw [if_neg (by decide)] at hfin0
                have HVAL : vL Hd.reverse = R := by rw [← vM_eq, hfin0]
                have hz5 : s1.size ≤ 281474976710656 := by rw [size_of hs1, HHL.out]; omega
                have HMd := fun w : World => made_any ((S : Int) == 1) Hd.reverse (dig_rev.2 hdH) s1 (by rw [txt_chM, List.reverse_reverse]; exact hs1) hz5 sc (by omega) (by rw [HVAL]; exact hlim3) w
                rw [HVAL] at HMd
                obtain ⟨nb, hnb⟩ : ∃ nb, nb = (((S : Int) == 1) && decide (R ≠ 0)) := ⟨_, rfl⟩
                obtain ⟨ds, hds⟩ : ∃ ds : ByteArray, ds = ⟨(Lib.decDigits R).toArray⟩ := ⟨_, rfl⟩
                have hdec : decV ((S : Int) == 1) R sc = .agg #[.bool nb, .string ds, .int .i64 (sc : Int)] := by rw [hnb, hds]; rfl
                have hfin := Lib.hid (show decV (decide (S = 1)) (rnd (M * 5 ^ (1074 - X)) (1074 - X - sc)) sc = .agg #[.bool nb, .string ds, .int .i64 (sc : Int)] by
                  rw [HFIN.out, ← hdec]
                  congr 1
                  rw [Bool.eq_iff_iff, decide_eq_true_eq, beq_iff_eq]
                  omega)
                rw [hdec] at HMd
                clear hnb hds hdec
                clear HVAL hz5 hlim3 hfin0
                go_wp2_with (first | (go_at_call 30; refine (HU _).mono ?_; rintro e w9 ⟨rfl, hb9⟩) | (go_at_call 32; refine (HMd _).mono ?_; rintro e w13 ⟨rfl, hb13⟩; have hB13 := (hB8.trans (hb9.mono hz8)).trans (hb13.mono (Nat.le_trans hz8 hb9.size)); obtain ⟨hc0, hc1, hc2, hf0, hf1, hf2⟩ := keepC hB13; have hBz := hb1.trans (hB13.mono (Nat.le_succ _))))
                refine bodyPost_ret (v := .tuple #[.agg #[.bool nb, .string ds, .int .i64 (sc : Int)], .int .i64 0]) ?_ rfl ⟨?_, ?_⟩
                · obtain ⟨e0, e1, e2⟩ := agg_back hc0 hc1 hc2 (.bool nb) (.string ds) (.int .i64 (sc : Int))
                  simp [results, Tryz.results13, go_sem, e0, e1, e2]
                · rw [hfin.out]
                · exact ((hBz.setCell (by simp) _).setCell (by simp) _).setCell (by simp) _
theorem Float_any (a : Nat) (ha : a < 18446744073709551616) (hf : finW a = true) (sc : Nat) (hsc : sc ≤ 40) (w : World) (htab : ∀ w', Below w.heap.size w w' → Lib.TabIs Tryz.prog w' "internal/strconv.uint64pow10" .u64 Lib.pow10Tab) :
    Calls Tryz.prog 13 #[.float .f64 a, .int .i64 sc] w fun e w' => e = .returned (.tuple #[decV (decide (a / 9223372036854775808 = 1)) (numF a sc) sc, .int .i64 0]) ∧ Below w.heap.size w w' := by
  by_cases h : 1074 - expo a ≤ sc
  · exact Float_deep a ha hf sc hsc h w htab
  · exact Float_near a ha hf sc hsc h w htab
end Go.Proofs.YtpfldlbdmhhjdaaGreatDoor
