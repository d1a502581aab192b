/-
  ref03.Made at a row that is not empty. Conditions: sizes.
-/
import Derived.Test.YtpfldlbdmhhjdaaGreatDoorDs
set_option linter.unusedVariables false
set_option linter.unusedSimpArgs false
namespace Go.Proofs.YtpfldlbdmhhjdaaGreatDoor
open Go.RowKit Go.Fl Go.Sort
theorem make_bytes2 (n : Nat) (hn : n ≤ 100000) (W : World) : (Instr.makeSlice 67 (.int .i64 (n : Int)) (.int .i64 (n : Int))).run Tryz.prog W = .ok (.slice (some ⟨W.heap.size, 0, none⟩) n n) (W.alloc (.cells (madeCells #[.int .u8 0] n) 5)) := by
  obtain ⟨i, hi, hz, hs, hb⟩ := info_parts infoB
  have h := run_make (P := Tryz.prog) (w := W) 67 5 i (.int .u8 0) Tryz.underlying67 hi hz .i64 .i64 (n : Int) (n : Int) (by omega) (by omega) (by rw [hb]; omega) (by omega)
  rw [hs, Nat.mul_one, show ((n : Int)).toNat = n by omega] at h
  exact h
theorem dec_zero {v : Nat} (h : (⟨(Lib.decDigits v).toArray⟩ : ByteArray) = ⟨#[48]⟩) : v = 0 := by
  have h2 : Lib.decDigits v = [48] := by
    have := congrArg (fun b : ByteArray => b.data.toList) h
    simpa using this
  have hz : Lib.decDigits v = [48] ↔ v = 0 := by
    constructor
    · intro q
      rcases Nat.lt_or_ge v 10 with c | c
      · rw [Lib.decDigits_one c] at q
        have q2 : UInt8.ofNat (48 + v) = 48 := by simpa using q
        have q3 := congrArg UInt8.toNat q2
        rw [UInt8.toNat_ofNat'] at q3
        have : (48 : UInt8).toNat = 48 := rfl
        omega
      · have e : v = v % 10 + 10 * (v / 10) := by omega
        rw [e, dec_cons (by omega) (by omega)] at q
        have q2 := congrArg List.length q
        rw [List.length_append] at q2
        have q3 := dec_ne (v / 10)
        have q4 : (Lib.decDigits (v / 10)).length ≠ 0 := fun c => q3 (List.eq_nil_of_length_eq_zero c)
        have q5 : [chr (v % 10)].length = 1 := rfl
        have q6 : ([48] : List UInt8).length = 1 := rfl
        omega
    · rintro rfl
      exact Lib.decDigits_one (by decide)
  exact hz.1 h2
set_option maxRecDepth 100000 in
set_option maxHeartbeats 1000000 in
theorem Made_pos (neg : Bool) (v : Value) (l : List Nat) (B : Nat) (hl : Dig l) (h0 : 0 < l.length) (hll : l.length ≤ 50000) (hv : vL l < 10 ^ 400) (sc : Nat) (hsc : sc ≤ 400) (w : World) (hB : B ≤ w.heap.size) (hr : RowI w B v l) :
    Calls Tryz.prog 17 #[.bool neg, v, .int .i64 (sc : Int)] w fun e w' => e = .returned (.tuple #[decV neg (vL l) sc, .int .i64 0]) ∧ Below w.heap.size w w' := by
  obtain ⟨A, c1, rfl, hrow⟩ := hr
  obtain ⟨ad, rfl, had, hcell⟩ := hrow h0
  obtain ⟨n0, hn0⟩ : ∃ n, l.length = n := ⟨_, rfl⟩
  rw [hn0] at hll h0 ⊢
  have HN := Lib.hid hn0
  have HB := Lib.hid hB
  have HV := Lib.hid hv
  have B0 := (Below.refl w.heap.size w).alloc (Nat.le_refl _) (.cells #[.bool false, .string ⟨#[]⟩, .int .i64 0] 27)
  clear hrow hn0 hB hv
  go_enter Tryz.func17, Tryz.ntmps17
  go_wp2_with fail
  go_loopw [8] (fun u wr => ∃ n : Nat, u = .int .i64 (n : Int) ∧ 1 ≤ n ∧ n ≤ n0 ∧ vL (l.take n) = vL l ∧ wr = w.alloc (.cells #[.bool false, .string ⟨#[]⟩, .int .i64 0] 27)) (fun u _ => (intOf u).toNat)
  case atStart => exact ⟨n0, rfl, h0, Nat.le_refl _, by rw [List.take_of_length_le (by rw [HN.out]; exact Nat.le_refl _)], rfl⟩
  case round =>
    obtain ⟨n, rfl, h1, hnn, hval, hwr⟩ := hrel
    have hb : Below w.heap.size w wr := by rw [hwr]; exact B0
    have hc := fun (j : Nat) (h : j < l.length) => (hb.cell (p := ad.add j) (by rw [add_block]; have := HB.out; omega)).trans (hcell j h)
    have HW := Lib.hid hwr
    clear hwr
    have key : (1 < n ∧ atD l (n - 1) = 0) ∨ (1 < n ∧ atD l (n - 1) ≠ 0) ∨ n = 1 := by omega
    rcases key with ⟨h2, h3⟩ | ⟨h2, h3⟩ | h2
    · have hjl : n - 1 < l.length := by rw [HN.out]; omega
      have c1' := hc (n - 1) hjl
      rw [← atD_in hjl, h3] at c1'
      have hcut := one_cut (l := l) (n := n - 1) h3
      rw [show n - 1 + 1 = n by omega] at hcut
      obtain ⟨m, hm⟩ : ∃ m, m = n - 1 := ⟨_, rfl⟩
      rw [← hm] at c1' hcut
      have q1 : (1 : Int) < (n : Int) := by omega
      have q2 : IntKind.i64.wrap ((n : Int) - 1) = (m : Int) := by rw [IntWalk.i64_in _ (by omega)]; omega
      have q3 : (n : Int) - 1 = (m : Int) := by omega
      have q4 : (0 : Int) ≤ (m : Int) := by omega
      have q5 : (m : Int) < (n0 : Int) := by omega
      have HC := Lib.hid hcut
      have HVL := Lib.hid hval
      clear hm hcut hval h3 hc hcell
      go_wp2_with fail
      go_roundw
      case rel => exact ⟨m, rfl, by omega, by omega, by rw [← HC.out]; exact HVL.out, HW.out⟩
      case measure => simp [intOf]; omega
    · have hjl : n - 1 < l.length := by rw [HN.out]; omega
      have c1' := hc (n - 1) hjl
      rw [← atD_in hjl] at c1'
      obtain ⟨m, hm⟩ : ∃ m, m = n - 1 := ⟨_, rfl⟩
      rw [← hm] at c1'
      obtain ⟨d, hd⟩ : ∃ d, d = atD l (n - 1) := ⟨_, rfl⟩
      rw [← hd] at h3
      rw [hm, ← hd] at c1'
      rw [← hm] at c1'
      have q1 : (1 : Int) < (n : Int) := by omega
      have q2 : IntKind.i64.wrap ((n : Int) - 1) = (m : Int) := by rw [IntWalk.i64_in _ (by omega)]; omega
      have q3 : (n : Int) - 1 = (m : Int) := by omega
      have q4 : (0 : Int) ≤ (m : Int) := by omega
      have q5 : (m : Int) < (n0 : Int) := by omega
      have q6 : ((d : Int) == 0) = false := by rw [beq_eq_false_iff_ne]; omega
      have hTl : (l.take n).length = n := by rw [List.length_take]; have := HN.out; omega
      have hTd : Dig (l.take n) := dig_take hl n
      have htop : (l.take n).length = 1 ∨ atD (l.take n) ((l.take n).length - 1) ≠ 0 := by
        rw [hTl]
        right
        have e : atD (l.take n) (n - 1) = atD l (n - 1) := by
          unfold atD
          rw [List.getD_eq_getElem?_getD, List.getD_eq_getElem?_getD, List.getElem?_take, if_pos (by omega)]
        rw [e, ← hd]
        exact h3
      have hTx := one_dec hTd (fun q => by rw [q] at hTl; simp at hTl; omega) htop
      rw [hval] at hTx
      have hn4 : n ≤ 400 := by
        have := dec_len 400 (by decide) HV.out
        rw [← hTx, txt_len, hTl] at this
        exact this
      obtain ⟨wo, hwo⟩ : ∃ x, x = wr := ⟨wr, rfl⟩
      subst hwo
      have HMK := make_bytes2 n (by omega)
      have hTg : ∀ (i : Nat) (h : i < n), (l.take n)[i]'(by rw [hTl]; exact h) = l[i]'(by have := HN.out; omega) := fun i h => by simp
      obtain ⟨T, hT⟩ : ∃ T, T = l.take n := ⟨_, rfl⟩
      have hTc : ∀ (i : Nat) (h : i < n), ∃ (d : Nat) (hq : i < T.length), T[i] = d ∧ d < 10 ∧ wo.cell? (ad.add i) = some (.int .i64 (d : Int)) := fun i h => by
        subst hT
        exact ⟨l[i]'(by have := HN.out; omega), by rw [hTl]; exact h, hTg i h, dig_get hl _, hc i _⟩
      rw [← hT] at hTl hTd hTx
      have HTX := Lib.hid hTx
      have HTL := Lib.hid hTl
      have hadz : ad.block < wo.heap.size := by have := HB.out; have := hb.size; omega
      have p1 : ((n : Int) == 0) = false := by rw [beq_eq_false_iff_ne]; omega
      have p2 : ¬ (400 : Int) < (n : Int) := by omega
      have p3 : ¬ (400 : Int) < (sc : Int) := by omega
      obtain ⟨z, hz, hzc⟩ : ∃ z : Int, z = (n : Int) ∧ (n : Int) = z := ⟨_, rfl, rfl⟩
      clear hd hm
      clear hTx hTl hTg hT htop hval hz hzc
      clear hc
      go_wp2_with fail
      clear q1 q2 q3 q4 q5 q6 c1'
      go_loopw [10] (fun u wq => ∃ i : Nat, u = .int .i64 (i : Int) ∧ i ≤ n ∧ wo.heap.size < wq.heap.size ∧ (∀ p (hp : p < n), (∃ y, wq.cell? ⟨wo.heap.size, p, none⟩ = some y) ∧ wq.frozen? ⟨wo.heap.size, p, none⟩ = false ∧ (n ≤ p + i → ∃ hq : n - 1 - p < T.length, wq.cell? ⟨wo.heap.size, p, none⟩ = some (.int .u8 ((48 + T[n - 1 - p] : Nat) : Int)))) ∧ Below wo.heap.size wo wq) (fun u _ => n - (intOf u).toNat)
      case atStart =>
        refine ⟨0, rfl, by omega, by simp, fun p hp => ⟨⟨.int .u8 0, ?_⟩, ?_, fun h => absurd h (by omega)⟩, (Below.refl _ _).alloc (Nat.le_refl _) _⟩
        · have e := heap_alloc_new wo (.cells (madeCells #[.int .u8 0] n) 5)
          unfold World.cell?
          rw [e]
          simp [made_one, hp]
        · have e := heap_alloc_new wo (.cells (madeCells #[.int .u8 0] n) 5)
          unfold World.frozen?
          rw [e]
          simp
      case round =>
        obtain ⟨i, rfl, hi, hgz, hfill, hbq⟩ := hrel
        by_cases hin : i < n
        · obtain ⟨d9, hqd, hd9, hd10, hcd⟩ := hTc i hin
          have hcr := (hbq.cell (p := ad.add i) (by rw [add_block]; exact hadz)).trans hcd
          obtain ⟨k, hk⟩ : ∃ k, k = n - 1 - i := ⟨_, rfl⟩
          obtain ⟨⟨y, hy⟩, hfz, _⟩ := hfill k (by omega)
          have u1 : (i : Int) < (n : Int) := by omega
          have u2 : (0 : Int) ≤ (i : Int) := by omega
          have u3 : (i : Int) < (n0 : Int) := by omega
          have u4 : (n : Int) - 1 - (i : Int) = (k : Int) := by omega
          have u5' : (0 : Int) ≤ (k : Int) := by omega
          have u6 : (k : Int) < (n : Int) := by omega
          have HK := Lib.hid hk
          have HD9 := Lib.hid hd9
          have HF := Lib.hid hfill
          clear hk hd9 hcd hfill
          go_wp2_with fail
          go_roundw
          case rel =>
            refine ⟨i + 1, by go_num, by omega, by simpa using hgz, fun p hp => ?_, hbq.setCell (Nat.le_refl _) _⟩
            by_cases hpk : p = k
            · subst hpk
              refine ⟨⟨_, World.cell?_setCell_same _ _ _ hy⟩, (World.frozen?_setCell _ _ _ _).trans hfz, fun _ => ?_⟩
              have e : n - 1 - p = i := by have := HK.out; omega
              refine ⟨by rw [e]; exact hqd, ?_⟩
              rw [World.cell?_setCell_same _ _ _ hy]
              have e2 : T[n - 1 - p]'(by rw [e]; exact hqd) = d9 := by
                rw [← HD9.out]
                congr 1
              rw [e2]
              simp
            · obtain ⟨⟨y2, hy2⟩, hf2, hc2⟩ := HF.out p hp
              have hne : (⟨wo.heap.size, k, none⟩ : Addr) ≠ ⟨wo.heap.size, p, none⟩ := fun q => by injection q with _ q _; omega
              refine ⟨⟨y2, (World.cell?_setCell_other _ _ _ _ hne).trans hy2⟩, (World.frozen?_setCell _ _ _ _).trans hf2, fun h => ?_⟩
              obtain ⟨hq, h3⟩ := hc2 (by have := HK.out; omega)
              exact ⟨hq, (World.cell?_setCell_other _ _ _ _ hne).trans h3⟩
          case measure => simp [intOf]; omega
        · obtain rfl : n = i := by omega
          have hrow : RowAt wr ⟨wo.heap.size, 0, none⟩ (txt T) := fun j hj => by
            rw [txt_len, HTL.out] at hj
            obtain ⟨_, _, h3⟩ := hfill j hj
            obtain ⟨hq, h4⟩ := h3 (by omega)
            rw [Lib.add_plain, Nat.zero_add, h4]
            have e : (txt T)[j]'(by rw [txt_len, HTL.out]; exact hj) = chr (T[n - 1 - j]) := by
              unfold txt
              rw [List.getElem_map, List.getElem_reverse]
              congr 2
              rw [HTL.out]
            rw [e, chr_nat (dig_get hTd _)]
          have hcv := run_convert_bytes_back (P := Tryz.prog) wr 67 9 5 ⟨wo.heap.size, 0, none⟩ n (txt T) Tryz.underlying67 Tryz.underlying5 Tryz.underlying9 hrow
          rw [txt_len, HTL.out, HTX.out] at hcv
          have hB := hb.trans (hbq.mono hb.size)
          have u1 : ¬ (n : Int) < (n : Int) := by omega
          have hbw : Below (w.heap.size + 1) (w.alloc (.cells #[.bool false, .string ⟨#[]⟩, .int .i64 0] 27)) wr := by
            have e := hbq
            rw [HW.out] at e
            rw [World.size_alloc] at e
            exact e
          have hwz := hbw.size
          rw [World.size_alloc] at hwz
          by_cases hV0 : vL l = 0
          · have hd : decV neg (vL l) sc = .agg #[.bool false, .string ⟨#[48]⟩, .int .i64 (sc : Int)] := by
              rw [hV0]
              unfold decV
              rw [Lib.decDigits_one (by decide)]
              simp
            have hd2 : (⟨(Lib.decDigits (vL l)).toArray⟩ : ByteArray) = ⟨#[48]⟩ := by
              rw [hV0, Lib.decDigits_one (by decide)]
              rfl
            have HD := Lib.hid hd
            rw [hd2] at hcv
            obtain ⟨f0, f1, f2, z0, z1, z2⟩ := keepC (hbw.alloc hwz (.cells #[.bool false, .string ⟨#[48]⟩, .int .i64 (sc : Int)] 27))
            have hBz := hB.alloc hB.size (.cells #[.bool false, .string ⟨#[48]⟩, .int .i64 (sc : Int)] 27)
            clear hrow hfill hTc hgz hd hd2 hV0
            go_wp2_with fail
            refine bodyPost_ret (v := .tuple #[.agg #[.bool false, .string ⟨#[48]⟩, .int .i64 (sc : Int)], .int .i64 0]) ?_ rfl ⟨by rw [HD.out], ?_⟩
            · obtain ⟨e0, e1, e2⟩ := agg_back f0 f1 f2 (.bool false) (.string ⟨#[48]⟩) (.int .i64 (sc : Int))
              simp [results, Tryz.results17, go_sem, e0, e1, e2]
            · exact ((hBz.setCell (by simp) _).setCell (by simp) _).setCell (by simp) _
          · obtain ⟨s1, hs1⟩ : ∃ s : ByteArray, s = ⟨(Lib.decDigits (vL l)).toArray⟩ := ⟨_, rfl⟩
            have hd : decV neg (vL l) sc = .agg #[.bool neg, .string s1, .int .i64 (sc : Int)] := by
              unfold decV
              rw [decide_eq_true hV0, Bool.and_true, ← hs1]
            have hne : (s1.toList == [48]) = false := by
              rw [beq_eq_false_iff_ne]
              intro q
              rw [Go.Lib.toList_data] at q
              exact hV0 (dec_zero (by rw [← hs1]; exact bytes_of q))
            have HD := Lib.hid hd
            rw [← hs1] at hcv
            obtain ⟨f0, f1, f2, z0, z1, z2⟩ := keepC (hbw.alloc hwz (.cells #[.bool neg, .string s1, .int .i64 (sc : Int)] 27))
            have hBz := hB.alloc hB.size (.cells #[.bool neg, .string s1, .int .i64 (sc : Int)] 27)
            clear hrow hfill hTc hgz hd hV0 hs1
            go_wp2_with fail
            refine bodyPost_ret (v := .tuple #[.agg #[.bool neg, .string s1, .int .i64 (sc : Int)], .int .i64 0]) ?_ rfl ⟨by rw [HD.out], ?_⟩
            · obtain ⟨e0, e1, e2⟩ := agg_back f0 f1 f2 (.bool neg) (.string s1) (.int .i64 (sc : Int))
              simp [results, Tryz.results17, go_sem, e0, e1, e2]
            · exact ((hBz.setCell (by simp) _).setCell (by simp) _).setCell (by simp) _
    · have q1 : ¬ (1 : Int) < (n : Int) := by omega
      have H2 := Lib.hid h2
      clear h2
      have hTl : (l.take n).length = n := by rw [List.length_take]; have := HN.out; omega
      have hTd : Dig (l.take n) := dig_take hl n
      have htop : (l.take n).length = 1 ∨ atD (l.take n) ((l.take n).length - 1) ≠ 0 := by
        rw [hTl]
        exact .inl H2.out
      have hTx := one_dec hTd (fun q => by rw [q] at hTl; simp at hTl; omega) htop
      rw [hval] at hTx
      have hn4 : n ≤ 400 := by
        have := dec_len 400 (by decide) HV.out
        rw [← hTx, txt_len, hTl] at this
        exact this
      obtain ⟨wo, hwo⟩ : ∃ x, x = wr := ⟨wr, rfl⟩
      subst hwo
      have HMK := make_bytes2 n (by omega)
      have hTg : ∀ (i : Nat) (h : i < n), (l.take n)[i]'(by rw [hTl]; exact h) = l[i]'(by have := HN.out; omega) := fun i h => by simp
      obtain ⟨T, hT⟩ : ∃ T, T = l.take n := ⟨_, rfl⟩
      have hTc : ∀ (i : Nat) (h : i < n), ∃ (d : Nat) (hq : i < T.length), T[i] = d ∧ d < 10 ∧ wo.cell? (ad.add i) = some (.int .i64 (d : Int)) := fun i h => by
        subst hT
        exact ⟨l[i]'(by have := HN.out; omega), by rw [hTl]; exact h, hTg i h, dig_get hl _, hc i _⟩
      rw [← hT] at hTl hTd hTx
      have HTX := Lib.hid hTx
      have HTL := Lib.hid hTl
      have hadz : ad.block < wo.heap.size := by have := HB.out; have := hb.size; omega
      have p1 : ((n : Int) == 0) = false := by rw [beq_eq_false_iff_ne]; omega
      have p2 : ¬ (400 : Int) < (n : Int) := by omega
      have p3 : ¬ (400 : Int) < (sc : Int) := by omega
      obtain ⟨z, hz, hzc⟩ : ∃ z : Int, z = (n : Int) ∧ (n : Int) = z := ⟨_, rfl, rfl⟩
      clear hTx hTl hTg hT htop hval hz hzc
      clear hc
      go_wp2_with fail
      clear q1
      go_loopw [10] (fun u wq => ∃ i : Nat, u = .int .i64 (i : Int) ∧ i ≤ n ∧ wo.heap.size < wq.heap.size ∧ (∀ p (hp : p < n), (∃ y, wq.cell? ⟨wo.heap.size, p, none⟩ = some y) ∧ wq.frozen? ⟨wo.heap.size, p, none⟩ = false ∧ (n ≤ p + i → ∃ hq : n - 1 - p < T.length, wq.cell? ⟨wo.heap.size, p, none⟩ = some (.int .u8 ((48 + T[n - 1 - p] : Nat) : Int)))) ∧ Below wo.heap.size wo wq) (fun u _ => n - (intOf u).toNat)
      case atStart =>
        refine ⟨0, rfl, by omega, by simp, fun p hp => ⟨⟨.int .u8 0, ?_⟩, ?_, fun h => absurd h (by omega)⟩, (Below.refl _ _).alloc (Nat.le_refl _) _⟩
        · have e := heap_alloc_new wo (.cells (madeCells #[.int .u8 0] n) 5)
          unfold World.cell?
          rw [e]
          simp [made_one, hp]
        · have e := heap_alloc_new wo (.cells (madeCells #[.int .u8 0] n) 5)
          unfold World.frozen?
          rw [e]
          simp
      case round =>
        obtain ⟨i, rfl, hi, hgz, hfill, hbq⟩ := hrel
        by_cases hin : i < n
        · obtain ⟨d9, hqd, hd9, hd10, hcd⟩ := hTc i hin
          have hcr := (hbq.cell (p := ad.add i) (by rw [add_block]; exact hadz)).trans hcd
          obtain ⟨k, hk⟩ : ∃ k, k = n - 1 - i := ⟨_, rfl⟩
          obtain ⟨⟨y, hy⟩, hfz, _⟩ := hfill k (by omega)
          have u1 : (i : Int) < (n : Int) := by omega
          have u2 : (0 : Int) ≤ (i : Int) := by omega
          have u3 : (i : Int) < (n0 : Int) := by omega
          have u4 : (n : Int) - 1 - (i : Int) = (k : Int) := by omega
          have u5' : (0 : Int) ≤ (k : Int) := by omega
          have u6 : (k : Int) < (n : Int) := by omega
          have HK := Lib.hid hk
          have HD9 := Lib.hid hd9
          have HF := Lib.hid hfill
          clear hk hd9 hcd hfill
          go_wp2_with fail
          go_roundw
          case rel =>
            refine ⟨i + 1, by go_num, by omega, by simpa using hgz, fun p hp => ?_, hbq.setCell (Nat.le_refl _) _⟩
            by_cases hpk : p = k
            · subst hpk
              refine ⟨⟨_, World.cell?_setCell_same _ _ _ hy⟩, (World.frozen?_setCell _ _ _ _).trans hfz, fun _ => ?_⟩
              have e : n - 1 - p = i := by have := HK.out; omega
              refine ⟨by rw [e]; exact hqd, ?_⟩
              rw [World.cell?_setCell_same _ _ _ hy]
              have e2 : T[n - 1 - p]'(by rw [e]; exact hqd) = d9 := by
                rw [← HD9.out]
                congr 1
              rw [e2]
              simp
            · obtain ⟨⟨y2, hy2⟩, hf2, hc2⟩ := HF.out p hp
              have hne : (⟨wo.heap.size, k, none⟩ : Addr) ≠ ⟨wo.heap.size, p, none⟩ := fun q => by injection q with _ q _; omega
              refine ⟨⟨y2, (World.cell?_setCell_other _ _ _ _ hne).trans hy2⟩, (World.frozen?_setCell _ _ _ _).trans hf2, fun h => ?_⟩
              obtain ⟨hq, h3⟩ := hc2 (by have := HK.out; omega)
              exact ⟨hq, (World.cell?_setCell_other _ _ _ _ hne).trans h3⟩
          case measure => simp [intOf]; omega
        · obtain rfl : n = i := by omega
          have hrow : RowAt wr ⟨wo.heap.size, 0, none⟩ (txt T) := fun j hj => by
            rw [txt_len, HTL.out] at hj
            obtain ⟨_, _, h3⟩ := hfill j hj
            obtain ⟨hq, h4⟩ := h3 (by omega)
            rw [Lib.add_plain, Nat.zero_add, h4]
            have e : (txt T)[j]'(by rw [txt_len, HTL.out]; exact hj) = chr (T[n - 1 - j]) := by
              unfold txt
              rw [List.getElem_map, List.getElem_reverse]
              congr 2
              rw [HTL.out]
            rw [e, chr_nat (dig_get hTd _)]
          have hcv := run_convert_bytes_back (P := Tryz.prog) wr 67 9 5 ⟨wo.heap.size, 0, none⟩ n (txt T) Tryz.underlying67 Tryz.underlying5 Tryz.underlying9 hrow
          rw [txt_len, HTL.out, HTX.out] at hcv
          have hB := hb.trans (hbq.mono hb.size)
          have u1 : ¬ (n : Int) < (n : Int) := by omega
          have hbw : Below (w.heap.size + 1) (w.alloc (.cells #[.bool false, .string ⟨#[]⟩, .int .i64 0] 27)) wr := by
            have e := hbq
            rw [HW.out] at e
            rw [World.size_alloc] at e
            exact e
          have hwz := hbw.size
          rw [World.size_alloc] at hwz
          by_cases hV0 : vL l = 0
          · have hd : decV neg (vL l) sc = .agg #[.bool false, .string ⟨#[48]⟩, .int .i64 (sc : Int)] := by
              rw [hV0]
              unfold decV
              rw [Lib.decDigits_one (by decide)]
              simp
            have hd2 : (⟨(Lib.decDigits (vL l)).toArray⟩ : ByteArray) = ⟨#[48]⟩ := by
              rw [hV0, Lib.decDigits_one (by decide)]
              rfl
            have HD := Lib.hid hd
            rw [hd2] at hcv
            obtain ⟨f0, f1, f2, z0, z1, z2⟩ := keepC (hbw.alloc hwz (.cells #[.bool false, .string ⟨#[48]⟩, .int .i64 (sc : Int)] 27))
            have hBz := hB.alloc hB.size (.cells #[.bool false, .string ⟨#[48]⟩, .int .i64 (sc : Int)] 27)
            clear hrow hfill hTc hgz hd hd2 hV0
            go_wp2_with fail
            refine bodyPost_ret (v := .tuple #[.agg #[.bool false, .string ⟨#[48]⟩, .int .i64 (sc : Int)], .int .i64 0]) ?_ rfl ⟨by rw [HD.out], ?_⟩
            · obtain ⟨e0, e1, e2⟩ := agg_back f0 f1 f2 (.bool false) (.string ⟨#[48]⟩) (.int .i64 (sc : Int))
              simp [results, Tryz.results17, go_sem, e0, e1, e2]
            · exact ((hBz.setCell (by simp) _).setCell (by simp) _).setCell (by simp) _
          · obtain ⟨s1, hs1⟩ : ∃ s : ByteArray, s = ⟨(Lib.decDigits (vL l)).toArray⟩ := ⟨_, rfl⟩
            have hd : decV neg (vL l) sc = .agg #[.bool neg, .string s1, .int .i64 (sc : Int)] := by
              unfold decV
              rw [decide_eq_true hV0, Bool.and_true, ← hs1]
            have hne : (s1.toList == [48]) = false := by
              rw [beq_eq_false_iff_ne]
              intro q
              rw [Go.Lib.toList_data] at q
              exact hV0 (dec_zero (by rw [← hs1]; exact bytes_of q))
            have HD := Lib.hid hd
            rw [← hs1] at hcv
            obtain ⟨f0, f1, f2, z0, z1, z2⟩ := keepC (hbw.alloc hwz (.cells #[.bool neg, .string s1, .int .i64 (sc : Int)] 27))
            have hBz := hB.alloc hB.size (.cells #[.bool neg, .string s1, .int .i64 (sc : Int)] 27)
            clear hrow hfill hTc hgz hd hV0 hs1
            go_wp2_with fail
            refine bodyPost_ret (v := .tuple #[.agg #[.bool neg, .string s1, .int .i64 (sc : Int)], .int .i64 0]) ?_ rfl ⟨by rw [HD.out], ?_⟩
            · obtain ⟨e0, e1, e2⟩ := agg_back f0 f1 f2 (.bool neg) (.string s1) (.int .i64 (sc : Int))
              simp [results, Tryz.results17, go_sem, e0, e1, e2]
            · exact ((hBz.setCell (by simp) _).setCell (by simp) _).setCell (by simp) _
end Go.Proofs.YtpfldlbdmhhjdaaGreatDoor
