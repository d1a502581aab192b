/-
  dec.Float at a finite number. Conditions: sizes, the table of powers.
-/
import Derived.Test.YtpfldlbdmhhjdaaGreatDoorDi
import Derived.Deep.RegionHeld3
import Derived.Deep.QuietTactic
import Derived.BigQuiet
set_option linter.unusedVariables false
namespace Go.Proofs.YtpfldlbdmhhjdaaGreatDoor
open Go.RowKit Go.Fl Go.Sort
theorem and_expo (a : Nat) (ha : a < 18446744073709551616) : bits .and .u64 ((a / 4503599627370496 : Nat) : Int) 2047 = ((a / 4503599627370496 % 2048 : Nat) : Int) := by
  have e := u64_and_nat (a / 4503599627370496) 2047 (by omega) (by decide)
  have e2 : a / 4503599627370496 &&& 2047 = a / 4503599627370496 % 2048 := Nat.and_two_pow_sub_one_eq_mod _ 11
  rw [e2] at e
  exact e
theorem and_mant (a : Nat) (ha : a < 18446744073709551616) : bits .and .u64 (a : Int) 4503599627370495 = ((a % 4503599627370496 : Nat) : Int) := by
  have e := u64_and_nat a 4503599627370495 ha (by decide)
  have e2 : a &&& 4503599627370495 = a % 4503599627370496 := Nat.and_two_pow_sub_one_eq_mod _ 52
  rw [e2] at e
  exact e
theorem or_mant (m : Nat) (hm : m < 4503599627370496) : bits .or .u64 (m : Int) 4503599627370496 = ((m + 4503599627370496 : Nat) : Int) := by
  have e := u64_or_nat m 4503599627370496 (by omega) (by decide)
  have e2 : m ||| 4503599627370496 = m + 4503599627370496 := by
    have := Nat.two_pow_add_eq_or_of_lt (i := 52) hm 1
    rw [Nat.mul_one] at this
    rw [Nat.or_comm, ← this, Nat.add_comm]
  rw [e2] at e
  exact e
theorem conv_run (W : World) (s : ByteArray) : ∃ c W', (convert 9 67 (.string s)).run Tryz.prog W = .ok (.slice (some ⟨W.heap.size, 0, none⟩) s.size c) W' ∧ RowAt W' ⟨W.heap.size, 0, none⟩ s.data.toList ∧ W.heap.size < W'.heap.size ∧ Below W.heap.size W W' := by
  refine ⟨_, _, run_bytes_of_string W 9 67 5 s Tryz.underlying9 Tryz.underlying67 Tryz.underlying5, ?_, ?_, ?_⟩
  · exact RowAt.conv W.drew s _ _ _
  · rw [World.size_alloc]; exact Nat.lt_succ_self _
  · exact (blw_drewN (Below.refl W.heap.size W) 1).alloc (Nat.le_refl _) _
/-- a row doubled, by the adding of it to itself -/
theorem dbl_row (D : List Nat) (hD : Dig D) : Dig (plusL D.reverse D.reverse 0).reverse ∧ vM 0 (plusL D.reverse D.reverse 0).reverse = 2 * vM 0 D ∧ (plusL D.reverse D.reverse 0).reverse.length = D.length + 1 := by
  refine ⟨dig_rev.2 (plusL_dig _ _ _ (dig_rev.2 hD) (dig_rev.2 hD) (by decide)), ?_, ?_⟩
  · rw [vM_rev, plusL_val _ _ _ rfl, ← vM_eq]
    omega
  · rw [List.length_reverse, plusL_len _ _ _ rfl, List.length_reverse]
def InS (w : World) (o : Obj) (g : Nat) (l : List UInt8) (W : World) : Prop := RowAt W ⟨g, 0, none⟩ l ∧ g < W.heap.size ∧ Below (w.heap.size + 1) (w.alloc o) W
theorem keepS {w W W' : World} {o : Obj} {g : Nat} {l : List UInt8} (h : InS w o g l W) (hb : Below W.heap.size W W') : InS w o g l W' := by
  have hz : w.heap.size + 1 ≤ W.heap.size := by have := h.2.2.size; rw [World.size_alloc] at this; exact this
  exact ⟨h.1.below hb h.2.1, Nat.lt_of_lt_of_le h.2.1 hb.size, h.2.2.trans (hb.mono hz)⟩
theorem keepH {w W : World} {g : Nat} {l : List UInt8} (h : InS w (.cells #[.bool false, .string ⟨#[]⟩, .int .i64 0] 27) g l W) : W.cell? ⟨w.heap.size, 0, none⟩ = some (.bool false) ∧ W.cell? ⟨w.heap.size, 1, none⟩ = some (.string ⟨#[]⟩) ∧ W.cell? ⟨w.heap.size, 2, none⟩ = some (.int .i64 0) ∧ W.frozen? ⟨w.heap.size, 0, none⟩ = false ∧ W.frozen? ⟨w.heap.size, 1, none⟩ = false ∧ W.frozen? ⟨w.heap.size, 2, none⟩ = false ∧ InS w (.cells #[.bool false, .string ⟨#[]⟩, .int .i64 0] 27) g l W := by
  have e : W.heap[w.heap.size]? = some (.cells #[.bool false, .string ⟨#[]⟩, .int .i64 0] 27) := (h.2.2.block _ (Nat.lt_succ_self _)).trans (heap_alloc_new w _)
  refine ⟨?_, ?_, ?_, ?_, ?_, ?_, h⟩ <;> simp [World.cell?, World.frozen?, e]
theorem agg_back {W : World} {n : Nat} {v0 v1 v2 : Value} (h0 : W.cell? ⟨n, 0, none⟩ = some v0) (h1 : W.cell? ⟨n, 1, none⟩ = some v1) (h2 : W.cell? ⟨n, 2, none⟩ = some v2) (a b c : Value) :
    (W.setCell ⟨n, 0, none⟩ a).cell? ⟨n, 0, none⟩ = some a ∧ ((W.setCell ⟨n, 0, none⟩ a).setCell ⟨n, 1, none⟩ b).cell? ⟨n, 1, none⟩ = some b ∧ (((W.setCell ⟨n, 0, none⟩ a).setCell ⟨n, 1, none⟩ b).setCell ⟨n, 2, none⟩ c).cell? ⟨n, 2, none⟩ = some c := by
  have o1 : (W.setCell ⟨n, 0, none⟩ a).cell? ⟨n, 1, none⟩ = some v1 := by rw [World.cell?_setCell_other _ _ _ _ (fun e => by cases e)]; exact h1
  have o2 : (W.setCell ⟨n, 0, none⟩ a).cell? ⟨n, 2, none⟩ = some v2 := by rw [World.cell?_setCell_other _ _ _ _ (fun e => by cases e)]; exact h2
  have o3 : ((W.setCell ⟨n, 0, none⟩ a).setCell ⟨n, 1, none⟩ b).cell? ⟨n, 2, none⟩ = some v2 := by rw [World.cell?_setCell_other _ _ _ _ (fun e => by cases e)]; exact o2
  exact ⟨World.cell?_setCell_same _ _ _ h0, World.cell?_setCell_same _ _ _ o1, World.cell?_setCell_same _ _ _ o3⟩
theorem own_cap {w : World} {base g n cap m : Nat} {xs : List Value} (h : w.ownsRow base 5 1 (.slice (some ⟨g, 0, none⟩) n cap) m xs) : n ≤ cap := by
  rcases h.2 with ⟨e, _⟩ | ⟨g', cap', cur, e, hb, hg, hn, hm, hs, ht⟩
  · cases e
  · injection e with e1 e2 e3
    omega
theorem rnd_cut (l : List Nat) (d : Nat) (T : List Nat) (hT : Dig T) : rnd (vM 0 ((l ++ [d]) ++ T)) T.length = if (decide (10 ^ T.length < 2 * vM 0 T) || (decide (2 * vM 0 T = 10 ^ T.length) && (((d % 2 : Nat) : Int) == 1))) = true then vM 0 (l ++ [d]) + 1 else vM 0 (l ++ [d]) := by
  obtain ⟨e1, e2⟩ := vM_cut (l ++ [d]) T hT
  unfold rnd
  rw [e1, e2]
  have e3 : vM 0 (l ++ [d]) % 2 = d % 2 := by
    rw [vM_app]
    simp only [vM]
    omega
  rw [e3]
  have e4 : (((d % 2 : Nat) : Int) == 1) = decide (d % 2 = 1) := by
    rw [Bool.eq_iff_iff, decide_eq_true_eq, beq_iff_eq]
    omega
  rw [e4]
  simp only [Bool.or_eq_true, Bool.and_eq_true, decide_eq_true_eq]
theorem keepC {w W : World} (h : Below (w.heap.size + 1) (w.alloc (.cells #[.bool false, .string ⟨#[]⟩, .int .i64 0] 27)) W) : W.cell? ⟨w.heap.size, 0, none⟩ = some (.bool false) ∧ W.cell? ⟨w.heap.size, 1, none⟩ = some (.string ⟨#[]⟩) ∧ W.cell? ⟨w.heap.size, 2, none⟩ = some (.int .i64 0) ∧ W.frozen? ⟨w.heap.size, 0, none⟩ = false ∧ W.frozen? ⟨w.heap.size, 1, none⟩ = false ∧ W.frozen? ⟨w.heap.size, 2, none⟩ = false := by
  have e : W.heap[w.heap.size]? = some (.cells #[.bool false, .string ⟨#[]⟩, .int .i64 0] 27) := (h.block _ (Nat.lt_succ_self _)).trans (heap_alloc_new w _)
  refine ⟨?_, ?_, ?_, ?_, ?_, ?_⟩ <;> simp [World.cell?, World.frozen?, e]
set_option maxRecDepth 100000 in
set_option maxHeartbeats 1500000 in
theorem Float_deep (a : Nat) (ha : a < 18446744073709551616) (hf : finW a = true) (sc : Nat) (hsc : sc ≤ 40) (hcs : 1074 - expo a ≤ sc) (w : World) (htab : ∀ w', Below w.heap.size w w' → Lib.TabIs Tryz.prog w' "internal/strconv.uint64pow10" .u64 Lib.pow10Tab) :
    Calls Tryz.prog 13 #[.float .f64 a, .int .i64 sc] w fun e w' => e = .returned (.tuple #[decV (decide (a / 9223372036854775808 = 1)) (numF a sc) sc, .int .i64 0]) ∧ Below w.heap.size w w' := by
  have h1 : ¬ (sc : Int) < 0 := by omega
  have h2 : ¬ 40 < (sc : Int) := by omega
  have HN := fun w : World => IsNaN_any a w
  have hnan : nanW a = false := by
    have := of_decide_eq_true hf
    unfold nanW
    rw [decide_eq_false this, Bool.false_and]
  rw [hnan] at HN
  have HI := fun w : World => IsInf_any a ha hnan w
  rw [hf, Bool.not_true] at HI
  have HB := run_bits a
  have he1 := and_expo a ha
  have hm1 := and_mant a ha
  have hx1 : expo a = a / 4503599627370496 % 2048 - 1 := rfl
  have hxl : a / 4503599627370496 % 2048 < 2047 := by
    have := of_decide_eq_true hf
    omega
  have hmv : mant a = if a / 4503599627370496 % 2048 = 0 then a % 4503599627370496 else a % 4503599627370496 + 4503599627370496 := rfl
  have hml := mant_lt a
  have horm := or_mant (a % 4503599627370496) (by omega)
  have HF := fun w (h : Lib.TabIs Tryz.prog w "internal/strconv.uint64pow10" .u64 Lib.pow10Tab) => FormatUint_any (mant a) (by omega) w h
  obtain ⟨D0, hD0, hd0, hv0, hl0⟩ := digs (mant a)
  rw [hd0] at HF
  have hl20 : D0.length ≤ 20 := by
    have := dec_len (n := mant a) 20 (by decide) (by omega)
    rwa [hd0, chM_len] at this
  have hb1 := (Below.refl w.heap.size w).alloc (Nat.le_refl _) (.cells #[.bool false, .string ⟨#[]⟩, .int .i64 0] 27)
  have hlim := numF_lt hf hsc
  have hnF : numF a sc = if 1074 - expo a ≤ sc then mant a * 2 ^ (expo a - 1074) * 5 ^ (1074 - expo a) * 10 ^ (sc - (1074 - expo a)) else rnd (mant a * 5 ^ (1074 - expo a)) (1074 - expo a - sc) := rfl
  rw [hnF] at hlim ⊢
  clear hnF
  generalize mant a = M at *
  have HCS := Lib.hid hcs
  clear hcs
  generalize expo a = X at *
  generalize hE : a / 4503599627370496 % 2048 = E at *
  generalize a % 4503599627370496 = m at *
  have hA63 : (a : Int) / 9223372036854775808 = ((a / 9223372036854775808 : Nat) : Int) := by omega
  have hA52 : (a : Int) / 4503599627370496 = ((a / 4503599627370496 : Nat) : Int) := by omega
  generalize a / 9223372036854775808 = S at *
  clear hE
  generalize a / 4503599627370496 = T at *
  have HX := Lib.hid hx1
  have HLIM := Lib.hid hlim
  have HM := Lib.hid hmv
  have HV := Lib.hid hv0
  clear hlim hx1 hmv hv0 hd0 hnan hf
  go_enter Tryz.func13, Tryz.ntmps13
  go_wp2_with (first | (go_at_call 23; refine (HN _).mono ?_; rintro e w1 ⟨rfl, rfl⟩) | (go_at_call 24; refine (HI _).mono ?_; rintro e w2 ⟨rfl, rfl⟩) | (go_at_call 26; (first | rw [show (m : Int) + 4503599627370496 = (M : Int) by (have := HM.out; split at this <;> omega), show (E : Int) - 1 - 1074 = (X : Int) - 1074 by (have := HX.out; omega)] | rw [show (m : Int) = (M : Int) by (have := HM.out; split at this <;> omega), show (E : Int) - 1074 = (X : Int) - 1074 by (have := HX.out; omega)]); refine (HF _ (htab _ hb1)).mono ?_; rintro e w3 ⟨rfl, hb3⟩; obtain ⟨c3, w4, hc3, hr3, hl3, hb4⟩ := conv_run w3 ⟨(chM D0).toArray⟩; rw [size_of (s := ⟨(chM D0).toArray⟩) (D := D0) rfl] at hc3))
  all_goals
    rw [World.size_alloc] at hb3
    have hw3 : w.heap.size + 1 ≤ w3.heap.size := by have := hb3.size; rw [World.size_alloc] at this; exact this
    have hB4 : Below (w.heap.size + 1) (w.alloc (.cells #[.bool false, .string ⟨#[]⟩, .int .i64 0] 27)) w4 := hb3.trans (hb4.mono hw3)
    go_loopw [8, 10] (fun u v wr => ∃ (i g c : Nat) (D : List Nat) (x : Int), u = .int .i64 x ∧ x = (X : Int) - 1074 - i ∧ i ≤ X - 1074 ∧ v = .slice (some ⟨g, 0, none⟩) D.length c ∧ Dig D ∧ vM 0 D = M * 2 ^ i ∧ 0 < D.length ∧ D.length ≤ 20 + i ∧ RowAt wr ⟨g, 0, none⟩ (chM D) ∧ g < wr.heap.size ∧ Below (w.heap.size + 1) (w.alloc (.cells #[.bool false, .string ⟨#[]⟩, .int .i64 0] 27)) wr) (fun u _ _ => (intOf u).toNat)
    case atStart => exact ⟨0, w3.heap.size, c3, D0, _, rfl, by omega, by omega, rfl, hD0, by rw [HV.out]; simp, hl0, by omega, hr3, hl3, hB4⟩
    case round =>
      clear hB4 hw3 hr3 hl3 hc3 hb4 hb3 hD0 hl0 hl20 HV HM HF
      obtain ⟨i, g, c, D, x, rfl, hx, hi, rfl, hD, hv, h0, hl, hr, hg, hb⟩ := hrel
      have hbz : w.heap.size + 1 ≤ wr.heap.size := by have := hb.size; rw [World.size_alloc] at this; exact this
      have hXl : X ≤ 2046 := by have := HX.out; omega
      have hxu : x ≤ 1000 := by omega
      by_cases hlt : 0 < x
      · obtain ⟨p1, p2, p3⟩ := dbl_row D hD
        have HP := plus_any ⟨g, 0, none⟩ ⟨g, 0, none⟩ D.reverse D.reverse c c rfl (by rw [List.length_reverse]; exact h0) (by rw [List.length_reverse]; omega) (dig_rev.2 hD) (dig_rev.2 hD) wr (by rw [txt_chM, List.reverse_reverse]; exact hr) (by rw [txt_chM, List.reverse_reverse]; exact hr) hg hg
        rw [List.length_reverse, txt_chM] at HP
        generalize (plusL D.reverse D.reverse 0).reverse = P at *
        have HXX := Lib.hid hx
        have HVV := Lib.hid hv
        have HPP := Lib.hid p2
        have HP3 := Lib.hid p3
        clear hx hv p2 p3 hXl
        go_wp2_with (go_at_call 27; refine HP.mono ?_; rintro e w5 ⟨rfl, hb5⟩; obtain ⟨c6, w6, hc6, hr6, hl6, hb6⟩ := conv_run w5 ⟨(chM P).toArray⟩; rw [size_of (s := ⟨(chM P).toArray⟩) (D := P) rfl] at hc6)
        go_roundw
        case rel =>
          have q1 := HXX.out
          have q2 := HPP.out
          have q3 := HP3.out
          refine ⟨i + 1, w5.heap.size, c6, P, _, rfl, by omega, by omega, rfl, p1, by rw [q2, HVV.out, Nat.pow_succ, Nat.mul_comm, Nat.mul_assoc], by omega, by omega, hr6, hl6, (hb.trans (hb5.mono hbz)).trans (hb6.mono (Nat.le_trans hbz hb5.size))⟩
        case measure => simp [intOf]; omega
      · obtain rfl : i = X - 1074 := by omega
        obtain rfl : x = ((X - 1074 : Nat) : Int) - ((X - 1074 : Nat) : Int) - ((1074 - X : Nat) : Int) := by omega
        obtain ⟨K, hK⟩ : ∃ K : Nat, K = 1074 - X := ⟨_, rfl⟩
        rw [← hK]
        rw [show ((X - 1074 : Nat) : Int) - ((X - 1074 : Nat) : Int) - (K : Int) = -(K : Int) by omega]
        have hlx : D.length ≤ 1200 := by omega
        have hK9 : K ≤ 1074 := by omega
        generalize hV : M * 2 ^ (X - 1074) = V at *
        have hVV := Lib.hid hV
        have HK := Lib.hid hK
        clear hx hV hl hxu hlt hi
        clear hK
        have hnp : ¬ (0 : Int) < -(K : Int) := by omega
        go_wp2_with fail
        have H0 : vM 0 D = V * 5 ^ 0 := by rw [hv]; simp
        go_loopw [8, 10, 11] (fun u v t wr => ∃ (i g c : Nat) (D : List Nat) (x : Int), u = .int .i64 x ∧ x = (i : Int) - (K : Int) ∧ i ≤ K ∧ v = .slice (some ⟨g, 0, none⟩) D.length c ∧ t = .int .i64 i ∧ Dig D ∧ vM 0 D = V * 5 ^ i ∧ i < D.length ∧ D.length ≤ 1200 + i ∧ RowAt wr ⟨g, 0, none⟩ (chM D) ∧ g < wr.heap.size ∧ Below (w.heap.size + 1) (w.alloc (.cells #[.bool false, .string ⟨#[]⟩, .int .i64 0] 27)) wr) (fun u _ _ _ => (- intOf u).toNat)
        case atStart => exact ⟨0, g, c, D, _, rfl, by omega, by omega, rfl, rfl, hD, H0, h0, by omega, hr, hg, hb⟩
        case round =>
          clear H0 hbz hb hg hr h0 hD hv hlx hnp
          obtain ⟨i, g, c, D, x, rfl, hx, hi, rfl, rfl, hD, hv, h0, hl, hr, hg, hb⟩ := hrel
          have hbz : w.heap.size + 1 ≤ wr.heap.size := by have := hb.size; rw [World.size_alloc] at this; exact this
          by_cases hlt : x < 0
          · have HP := halved_any ⟨g, 0, none⟩ D c hD (by omega) (by omega) wr hr hg
            have p1 : Dig (halveM 0 (D ++ [0])) := halve_dig _ _ (dig_app.2 ⟨hD, dig_cons.2 ⟨by decide, dig_nil⟩⟩) (by decide)
            have p2 := halved_val D
            have p3 : (halveM 0 (D ++ [0])).length = D.length + 1 := by rw [halve_len, List.length_append]; rfl
            rw [← p3] at HP
            generalize halveM 0 (D ++ [0]) = P at *
            have hxl : -1100 ≤ x := by omega
            have hil : i ≤ 1100 := by omega
            have HXX := Lib.hid hx
            have HVV := Lib.hid hv
            have HPP := Lib.hid p2
            have HP3 := Lib.hid p3
            clear hx hv p2 p3
            go_wp2_with (go_at_call 28; refine HP.mono ?_; rintro e w5 ⟨g5, c5, rfl, hr5, hl5, hb5⟩)
            go_roundw
            case rel =>
              have q1 := HXX.out
              have q2 := HPP.out
              have q3 := HP3.out
              refine ⟨i + 1, g5, c5, P, _, rfl, by omega, by omega, rfl, by go_num, p1, by rw [q2, HVV.out, Nat.pow_succ, Nat.mul_left_comm, Nat.mul_comm 5], by omega, by omega, hr5, hl5, hb.trans (hb5.mono hbz)⟩
            case measure => simp [intOf]; omega
          · obtain rfl : i = K := by omega
            obtain rfl : x = 0 := by omega
            clear hx hlt
            by_cases hkc : i ≤ sc
            · obtain ⟨j, hj⟩ : ∃ j, j = sc - i := ⟨_, rfl⟩
              have hcvb := fun (W : World) (h : InS w (.cells #[.bool false, .string ⟨#[]⟩, .int .i64 0] 27) g (chM D) W) => run_convert_bytes_back (P := Tryz.prog) W 67 9 5 ⟨g, 0, none⟩ c (chM D) Tryz.underlying67 Tryz.underlying5 Tryz.underlying9 h.1
              rw [chM_len] at hcvb
              have H1 := fun w : World => Tryz.strings_Repeat ⟨#[48]⟩ j w (by omega) (by show 1 * j ≤ _; omega)
              rw [rep_zero] at H1
              have hdl : Dig (D ++ List.replicate j 0).reverse := dig_rev.2 (dig_app.2 ⟨hD, dig_rep j⟩)
              have hvl : vL (D ++ List.replicate j 0).reverse = V * 5 ^ i * 10 ^ j := by rw [← vM_eq, vM_app, vM_rep, hv]
              have hlm : vL (D ++ List.replicate j 0).reverse < 10 ^ 400 := by
                have := HLIM.out
                rw [← HK.out, if_pos hkc, ← hj, ← hvl] at this
                exact this
              have hs1 : (⟨(chM D).toArray⟩ : ByteArray).data.toList = chM D := rfl
              have hs2 : (⟨(chM (List.replicate j 0)).toArray⟩ : ByteArray).data.toList = chM (List.replicate j 0) := rfl
              have hz1 := size_of hs1
              have hz2 := size_of hs2
              rw [List.length_replicate] at hz2
              generalize (⟨(chM D).toArray⟩ : ByteArray) = r1 at *
              generalize (⟨(chM (List.replicate j 0)).toArray⟩ : ByteArray) = r2 at *
              have hs3 : (r1 ++ r2).data.toList = txt (D ++ List.replicate j 0).reverse := by
                rw [ByteArray.data_append, Array.toList_append, hs1, hs2, txt_chM, List.reverse_reverse, chM_app]
              have HM := fun w : World => made_any ((S : Int) == 1) _ hdl (r1 ++ r2) hs3 (by rw [ByteArray.size_append]; omega) sc (by omega) hlm w
              have HJ := Lib.hid hj
              have HVL := Lib.hid hvl
              have hjj : j ≤ 40 := by omega
              have hnp2 : ¬ (0 : Int) < (i : Int) - (sc : Int) := by omega
              clear hdl hvl hlm hs1 hs2 hs3 hv hj
              obtain ⟨r3, hr3⟩ : ∃ r3, r1 ++ r2 = r3 := ⟨_, rfl⟩
              rw [hr3] at HM
              obtain ⟨nb, hnb⟩ : ∃ nb, nb = (((S : Int) == 1) && decide (vL (D ++ List.replicate j 0).reverse ≠ 0)) := ⟨_, rfl⟩
              obtain ⟨ds, hds⟩ : ∃ ds : ByteArray, ds = ⟨(Lib.decDigits (vL (D ++ List.replicate j 0).reverse)).toArray⟩ := ⟨_, rfl⟩
              have hdec : decV ((S : Int) == 1) (vL (D ++ List.replicate j 0).reverse) sc = .agg #[.bool nb, .string ds, .int .i64 (sc : Int)] := by rw [hnb, hds]; rfl
              rw [hdec] at HM
              have HDEC := Lib.hid hdec
              have hfin := Lib.hid (show decV (decide (S = 1)) (M * 2 ^ (X - 1074) * 5 ^ (1074 - X) * 10 ^ (sc - (1074 - X))) sc = .agg #[.bool nb, .string ds, .int .i64 (sc : Int)] by
                rw [← HK.out, hVV.out, ← HJ.out, ← HVL.out, ← hdec]
                congr 1
                rw [Bool.eq_iff_iff, decide_eq_true_eq, beq_iff_eq]
                omega)
              clear hnb hds hdec
              have hno : ¬ 9223372036854775807 < r1.size + r2.size := by omega
              clear hz1 hz2
              have hhp : ∀ W, Below (w.heap.size + 1) (w.alloc (.cells #[.bool false, .string ⟨#[]⟩, .int .i64 0] 27)) W → W.heap[w.heap.size]? = some (.cells #[.bool false, .string ⟨#[]⟩, .int .i64 0] 27) := fun W hW => (hW.block _ (Nat.lt_succ_self _)).trans (heap_alloc_new w _)
              have hwr : IntKind.i64.wrap ((sc : Int) - (i : Int)) = (j : Int) := by rw [IntWalk.i64_in _ (by omega)]; have := HJ.out; omega
              have hks : 1074 - X ≤ sc := by rw [← HK.out]; exact hkc
              go_wp2_with fail
              clear HN HI HB HX HLIM hm1 horm hA63 hA52 he1 htab ha hml hxl HK hK9 hsc h1 h2 hD h0 hl hi
              have hS0 : InS w (.cells #[.bool false, .string ⟨#[]⟩, .int .i64 0] 27) g (chM D) wr.drew := keepS ⟨hr, hg, hb⟩ (blw_drewN (Below.refl wr.heap.size wr) 1)
              go_region_with (first | (go_at_call 31; refine (H1 _).mono ?_; rintro e w5 ⟨rfl, hb5⟩; have hS5 := keepS hS0 hb5) | (go_at_call 32; refine (HM _).mono ?_; rintro e w6 ⟨rfl, hb6⟩; have hS6 := keepS hS5 hb6; obtain ⟨hc0, hc1, hc2, hf0, hf1, hf2, _⟩ := keepH hS6; have hBz := hb1.trans (hS6.2.2.mono (Nat.le_succ _))))
              all_goals
                go_wp2_with fail
                refine bodyPost_ret (v := .tuple #[.agg #[.bool nb, .string ds, .int .i64 (sc : Int)], .int .i64 0]) ?_ rfl ⟨?_, ?_⟩
                · obtain ⟨e0, e1, e2⟩ := agg_back hc0 hc1 hc2 (.bool nb) (.string ds) (.int .i64 (sc : Int))
                  simp [results, Tryz.results13, go_sem, e0, e1, e2]
                · rw [hfin.out]
                · exact ((hBz.setCell (by simp) _).setCell (by simp) _).setCell (by simp) _
            · exact absurd (by rw [HK.out]; exact HCS.out) hkc
end Go.Proofs.YtpfldlbdmhhjdaaGreatDoor
