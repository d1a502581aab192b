/-
  ref03.whole, Float. Conditions: sizes.
-/
import Derived.Test.YtpfldlbdmhhjdaaGreatDoorDp
set_option linter.unusedVariables false
namespace Go.Proofs.YtpfldlbdmhhjdaaGreatDoor
open Go.RowKit Go.Fl Go.Sort
theorem txt_snoc (O : List Nat) (r : Nat) : txt (O ++ [r]) = chr r :: txt O := by simp [txt]
set_option maxRecDepth 100000 in
set_option maxHeartbeats 400000 in
theorem whole_any (N : Nat) (h0 : 0 < N) (hN : N < 18014398509481984) (w : World) :
    Calls Tryz.prog 34 #[.int .i64 (N : Int)] w fun e w' => ∃ (s : ByteArray) (O : List Nat), e = .returned (.string s) ∧ Dig O ∧ s.data.toList = txt O ∧ vL O = N ∧ 0 < O.length ∧ O.length ≤ 20 ∧ Below w.heap.size w w' := by
  have HN := Lib.hid hN
  have H0 := Lib.hid h0
  clear hN h0
  go_enter Tryz.func34, Tryz.ntmps34
  go_wp2_with fail
  go_loopw [0, 3] (fun u v wr => ∃ (n j c : Nat) (A : Option Addr) (O : List Nat), u = .int .i64 n ∧ v = .slice A j c ∧ O.length = j ∧ Dig O ∧ N = vL O + 10 ^ j * n ∧ j ≤ 20 ∧ (0 < j → ∃ g, A = some ⟨g, 0, none⟩ ∧ g < wr.heap.size ∧ RowAt wr ⟨g, 0, none⟩ (txt O)) ∧ Below w.heap.size w wr) (fun u _ _ => (intOf u).toNat)
  case atStart => exact ⟨N, 0, 0, none, [], rfl, rfl, rfl, dig_nil, by simp [vL], by omega, fun h => absurd h (by omega), Below.refl _ _⟩
  case round =>
    obtain ⟨n, j, c, A, O, rfl, rfl, hO, hD, hNv, hj, hr, hb⟩ := hrel
    have HNV := Lib.hid hNv
    have HO := Lib.hid hO
    clear hNv hO
    by_cases hn : 0 < n
    · have hj16 : j ≤ 17 := by
        have h1 := HNV.out
        have h2 := HN.out
        have h3 : 10 ^ j ≤ 10 ^ j * n := Nat.le_mul_of_pos_right _ hn
        rcases Nat.lt_or_ge 17 j with q | q
        · have : 10 ^ 18 ≤ 10 ^ j := Nat.pow_le_pow_right (by decide) q
          omega
        · exact q
      have hnN : n ≤ 18014398509481984 := by
        have h1 := HNV.out
        have h2 := HN.out
        have h3 : n ≤ 10 ^ j * n := Nat.le_mul_of_pos_left _ (Nat.pow_pos (by decide))
        omega
      obtain ⟨wo, hwo⟩ : ∃ x, x = wr := ⟨wr, rfl⟩
      subst hwo
      obtain ⟨r, hr'⟩ : ∃ r : Nat, r = n % 10 := ⟨_, rfl⟩
      obtain ⟨s, hs'⟩ : ∃ s : Nat, s = n / 10 := ⟨_, rfl⟩
      have hr10 : r < 10 := by omega
      have hs9 : s ≤ 18014398509481984 := by omega
      have g3 : Int.tmod (n : Int) 10 = (r : Int) := by rw [Int.tmod_eq_emod_of_nonneg (by omega)]; omega
      have g4 : Int.tdiv (n : Int) 10 = (s : Int) := by rw [Int.tdiv_eq_ediv_of_nonneg (by omega)]; omega
      have g5 : (48 + (r : Int)) % 256 = ((chr r).toNat : Int) := by rw [chr_int hr10]; omega
      have q0 : (0 : Int) < (n : Int) := by omega
      have HR := Lib.hid hr'
      have HS := Lib.hid hs'
      clear hr' hs'
      have g6 : (48 + (r : Int)) = ((chr r).toNat : Int) := (chr_int hr10).symm
      have hOD : Dig (O ++ [r]) := dig_app.2 ⟨hD, dig_cons.2 ⟨hr10, dig_nil⟩⟩
      have hown0 : (wo.alloc (.cells #[.int .u8 (48 + (r : Int))] 5)).ownsRow wo.heap.size 5 1 (.slice (some ⟨wo.heap.size, 0, none⟩) 1 1) 1 (bcells [chr r]) :=
        ⟨by simp [bcells], Or.inr ⟨wo.heap.size, 1, _, rfl, Nat.le_refl _, heap_alloc_new wo _, Nat.le_refl _, by unfold maxLen; omega, by simp, by simp [bcells, g6]⟩⟩
      have HG5 := Lib.hid g6
      clear g5 g6
      go_wp2_with fail
      go_loopw [4, 5] (fun u v wq => ∃ (k g cap : Nat), u = .slice (some ⟨g, 0, none⟩) (k + 1) cap ∧ v = .int .i64 k ∧ k ≤ j ∧ wq.ownsRow wo.heap.size 5 1 (.slice (some ⟨g, 0, none⟩) (k + 1) cap) (k + 1) (bcells (chr r :: (txt O).take k)) ∧ g < wq.heap.size ∧ Below wo.heap.size wo wq) (fun _ v _ => j - (intOf v).toNat)
      case atStart => exact ⟨0, wo.heap.size, 1, rfl, rfl, by omega, hown0, by simp, (Below.refl _ _).alloc (Nat.le_refl _) _⟩
      case round =>
        clear hown0
        obtain ⟨k, g, cap, rfl, rfl, hk, hown, hg, hbq⟩ := hrel
        by_cases hkj : k < j
        · obtain ⟨g0, rfl, hg0, hrow⟩ := hr (by omega)
          have hrow1 := hrow.below hbq hg0
          have hlt : k < (txt O).length := by rw [txt_len, HO.out]; exact hkj
          have hc := hrow1 k hlt
          rw [Lib.add_plain, Nat.zero_add] at hc
          obtain ⟨b, hb'⟩ : ∃ b, b = (txt O)[k] := ⟨_, rfl⟩
          rw [← hb'] at hc
          obtain ⟨L, hL⟩ : ∃ L, L = chr r :: (txt O).take k := ⟨_, rfl⟩
          have hLL : L.length = k + 1 := by rw [hL, List.length_cons, List.length_take]; omega
          have hLn : chr r :: (txt O).take (k + 1) = L ++ [b] := by rw [hL, List.take_succ_eq_append_getElem hlt, hb']; rfl
          rw [← hL] at hown
          have hownA : (wr.alloc (.cells #[.int .u8 (b.toNat : Int)] 5)).ownsRow wo.heap.size 5 1 (.slice (some ⟨g, 0, none⟩) (k + 1) cap) L.length (bcells L) := by rw [hLL]; exact hown.alloc _
          have hnc : RowAt (wr.alloc (.cells #[.int .u8 (b.toNat : Int)] 5)) ⟨wr.heap.size, 0, none⟩ [b] := fun i hi => by
            obtain rfl : i = 0 := by simpa using hi
            rw [Lib.add_plain]
            simp
          have HC := Lib.hid hnc
          have HL := Lib.hid hLL
          have HLN := Lib.hid hLn
          have h0k : (0 : Int) ≤ (k : Int) := by omega
          have hkj2 : (k : Int) < (j : Int) := by omega
          have hzq := hbq.size
          clear hrow1 hnc hL hLL hLn hb' hrow hr hb
          go_wp2_with (at_builtin; refine wpRow rfl (.tmp 19) (.tmp 24) rfl wo.heap.size _ (.slice (some ⟨g, 0, none⟩) (k + 1) cap) L [b] (by rfl) hownA ⟨wr.heap.size, 0, none⟩ 1 (by rfl) HC.out (by simp) (by rw [HL.out]; simp only [List.length_cons, List.length_nil]; omega) (by rw [World.size_alloc]; omega) (wr.heap.size + 1) (by rw [World.size_alloc]) ?_; intro g' cap' w4 hown4 hgrow4 hat4 hlt4)
          go_roundw
          case rel =>
            have e1 : L.length + [b].length = k + 1 + 1 := by rw [HL.out]; rfl
            rw [List.length_append, e1, ← HLN.out] at hown4
            have hgw : wo.heap.size ≤ g := by
              rcases hown.2 with ⟨q, _⟩ | ⟨_, _, _, q, hbg, _⟩
              · cases q
              · injection q with q; injection q with q; injection q with q; omega
            exact ⟨k + 1, g', cap', by rw [HL.out], by go_num, by omega, hown4, hlt4, (hbq.alloc hbq.size _).grown hgrow4 (by have := hbq.size; simp; omega) (fun x hx => by injection hx with hx; simp only at hx; omega)⟩
          case measure => simp [intOf]; omega
        · obtain rfl : k = j := by omega
          have hno : ¬ (k : Int) < (k : Int) := by omega
          rw [List.take_of_length_le (by rw [txt_len, HO.out]; exact Nat.le_refl _), ← txt_snoc] at hown
          have hlen : (txt (O ++ [r])).length = k + 1 := by rw [txt_len, List.length_append, HO.out]; rfl
          rw [← hlen] at hown
          obtain ⟨hrow, _⟩ := RowAt.of_own (by rw [hlen] at hown ⊢; exact hown)
          have hB := hb.trans (hbq.mono hb.size)
          clear hown hr
          go_wp2_with fail
          go_roundw
          case rel =>
            refine ⟨s, k + 1, cap, some ⟨g, 0, none⟩, O ++ [r], rfl, rfl, by rw [List.length_append, HO.out]; rfl, hOD, ?_, by omega, fun _ => ⟨g, rfl, hg, hrow⟩, hB⟩
            have e1 := HNV.out
            have e2 := HR.out
            have e3 := HS.out
            have e4 : n = r + 10 * s := by omega
            rw [vL_app, HO.out, e1, e4, Nat.pow_succ]
            simp only [vL]
            rw [Nat.mul_add, Nat.mul_zero, Nat.add_zero, Nat.mul_assoc, Nat.add_assoc]
          case measure =>
            have e3 := HS.out
            simp [intOf]
            omega
    · obtain rfl : n = 0 := by omega
      have e1 := HNV.out
      rw [Nat.mul_zero, Nat.add_zero] at e1
      have hj0 : 0 < j := by
        rcases Nat.eq_zero_or_pos j with q | q
        · have h2 := HO.out
          rw [q] at h2
          obtain rfl := List.eq_nil_of_length_eq_zero h2
          have h3 := H0.out
          rw [e1] at h3
          exact absurd h3 (by simp [vL])
        · exact q
      obtain ⟨g, rfl, hg, hrow⟩ := hr hj0
      have hcv := run_convert_bytes_back (P := Tryz.prog) wr 67 9 5 ⟨g, 0, none⟩ c (txt O) Tryz.underlying67 Tryz.underlying5 Tryz.underlying9 hrow
      rw [txt_len, HO.out] at hcv
      have hs1 : (⟨(txt O).toArray⟩ : ByteArray).data.toList = txt O := rfl
      generalize (⟨(txt O).toArray⟩ : ByteArray) = s1 at *
      clear hrow hr
      have HE := Lib.hid e1
      clear e1
      go_wp2_with fail
      refine bodyPost_ret (v := .string s1) ?_ rfl ⟨s1, O, rfl, hD, hs1, HE.out.symm, by rw [HO.out]; exact hj0, by rw [HO.out]; exact hj, hb⟩
      simp [results, Tryz.results34, go_sem]
end Go.Proofs.YtpfldlbdmhhjdaaGreatDoor
