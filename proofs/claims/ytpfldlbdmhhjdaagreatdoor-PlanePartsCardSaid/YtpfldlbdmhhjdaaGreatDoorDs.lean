/-
  ref03.Round at half even. Conditions: sizes.
-/
import Derived.Test.YtpfldlbdmhhjdaaGreatDoorDr
set_option linter.unusedVariables false
set_option linter.unusedSimpArgs false
namespace Go.Proofs.YtpfldlbdmhhjdaaGreatDoor
open Go.RowKit Go.Fl Go.Sort
theorem make_ints (n : Nat) (hn : n ≤ 100000) (W : World) : (Instr.makeSlice 50 (.int .i64 (n : Int)) (.int .i64 (n : Int))).run Tryz.prog W = .ok (.slice (some ⟨W.heap.size, 0, none⟩) n n) (W.alloc (.cells (madeCells #[.int .i64 0] n) 3)) := by
  obtain ⟨i, hi, hz, hs, hb⟩ := info_parts infoI
  have h := run_make (P := Tryz.prog) (w := W) 50 3 i (.int .i64 0) Tryz.underlying50 hi hz .i64 .i64 (n : Int) (n : Int) (by omega) (by omega) (by rw [hb]; omega) (by omega)
  rw [hs, Nat.mul_one, show ((n : Int)).toNat = n by omega] at h
  exact h
theorem made_one (x : Value) (n : Nat) : madeCells #[x] n = Array.replicate n x := by
  apply Array.ext
  · simp [madeCells]
  · intro i h1 h2
    simp [madeCells, Nat.mod_one]
theorem halfL_get (m j : Nat) (h : j < (halfL m).length) : (halfL m)[j] = if j = m then 5 else 0 := by
  rw [List.getElem_eq_iff]
  have hl : j < m + 1 := by simpa [halfL] using h
  show (List.replicate m 0 ++ [5])[j]? = _
  rw [List.getElem?_append, List.length_replicate]
  by_cases hj : j < m
  · rw [if_pos hj, List.getElem?_replicate, if_pos hj, if_neg (by omega)]
  · have : j = m := by omega
    subst this
    rw [if_neg hj, Nat.sub_self, if_pos rfl]
    rfl
/-- the half of the last place that is cut off -/
theorem half_row (W : World) (K m : Nat) (hK : K = m + 1) : RowI (W.alloc (.cells ((madeCells #[Value.int .i64 0] K).setIfInBounds (K - 1) (.int .i64 5)) 3)) (W.heap.size + 1) (.slice (some ⟨W.heap.size, 0, none⟩) K K) (halfL m) := by
  have hl : (halfL m).length = K := by rw [hK]; simp [halfL]
  have q := heap_alloc_new W (.cells ((madeCells #[Value.int .i64 0] K).setIfInBounds (K - 1) (.int .i64 5)) 3)
  refine ⟨some ⟨W.heap.size, 0, none⟩, K, by rw [hl], fun _ => ⟨_, rfl, Nat.lt_succ_self _, fun j hj => ?_⟩⟩
  rw [Lib.add_plain, Nat.zero_add, halfL_get]
  rw [hl] at hj
  have e3 : ((madeCells #[Value.int .i64 0] K).setIfInBounds (K - 1) (.int .i64 5))[j]? = some (.int .i64 ((if j = m then 5 else 0 : Nat) : Int)) := by
    rw [made_one, Array.getElem?_setIfInBounds, Array.size_replicate]
    by_cases e : j = m
    · rw [if_pos (by omega), if_pos (by omega), if_pos e]
      rfl
    · rw [if_neg (by omega), Array.getElem?_replicate, if_pos hj, if_neg e]
      rfl
  unfold World.cell?
  rw [q]
  simpa using e3
set_option maxRecDepth 100000 in
set_option maxHeartbeats 1000000 in
theorem Round_any (neg : Bool) (v : Value) (l : List Nat) (B K m : Nat) (hK : K = m + 1) (hl : Dig l) (hll : l.length ≤ 50000) (hm : m ≤ 5000) (w : World) (hB : B ≤ w.heap.size) (hr : RowI w B v l) :
    Calls Tryz.prog 16 #[.bool neg, v, .int .i64 (K : Int), .int .i64 1] w fun e w' => ∃ (v' : Value) (l' : List Nat), e = .returned v' ∧ RowI w' w'.heap.size v' l' ∧ Dig l' ∧ vL l' = rnd (vL l) K ∧ l'.length ≤ l.length + 2 ∧ Below w.heap.size w w' := by
  have hr0 := hr
  obtain ⟨A, c1, rfl, hrow⟩ := hr
  obtain ⟨n, hn⟩ : ∃ n, l.length = n := ⟨_, rfl⟩
  rw [hn] at hr0 hll ⊢
  have HN := Lib.hid hn
  have HB := Lib.hid hB
  have HK := Lib.hid hK
  have hK1 : K ≤ 5001 := by omega
  have hmK : m < K := by omega
  have HMK := make_ints K (by omega)
  clear hn hB hK
  go_enter Tryz.func16, Tryz.ntmps16
  go_wp2_with fail
  go_loopw [9, 11] (fun u v wr => ∃ (i : Nat) (O : List Nat), v = .int .i64 i ∧ i ≤ K ∧ O = lowL l i ∧ O.length = i ∧ wr.ownsRow w.heap.size 3 1 u O.length (ncells O) ∧ Below w.heap.size w wr) (fun _ v _ => K - (intOf v).toNat)
  case atStart => exact ⟨0, [], rfl, by omega, rfl, rfl, World.ownsRow_nil .., Below.refl _ _⟩
  case round =>
    obtain ⟨i, O, rfl, hi, hO, hOl, hown, hb⟩ := hrel
    have hra := hr0.below (hb.mono HB.out)
    by_cases hlt : i < K
    · have q0 : (i : Int) < (K : Int) := by omega
      have HA := at_any (.slice A n c1) l B i (by have := HN.out; omega) wr hra
      have hOn : lowL l (i + 1) = O ++ [atD l i] := by rw [lowL_succ, hO]
      generalize atD l i = x at *
      have HON := Lib.hid hOn
      have HOL := Lib.hid hOl
      have hO2 : O.length ≤ 1000000000000 := by omega
      have hbz := hb.size
      clear hOn hO hra hOl
      go_wp2_with (first | (go_at_call 36; refine HA.mono ?_; rintro e w1 ⟨rfl, rfl⟩) | (at_builtin; refine wpNat rfl (.tmp 22) (.tmp 26) rfl w.heap.size _ u9 O (x : Int) x rfl (by rfl) hown (by rfl) hO2 hbz ?_; intro v1 w2 hown2 hg2))
      go_roundw
      case rel => exact ⟨i + 1, O ++ [x], by go_num, by omega, HON.out.symm, by rw [List.length_append, HOL.out]; rfl, hown2, own_below hb hown hg2⟩
      case measure => simp [intOf]; omega
    · obtain rfl : K = i := by omega
      have q0 : ¬ (K : Int) < (K : Int) := by omega
      have hlow := RowI.of_own hown
      obtain ⟨wo, hwo⟩ : ∃ x, x = wr := ⟨wr, rfl⟩
      subst hwo
      have HO := Lib.hid hO
      have HOL := Lib.hid hOl
      clear hO hOl hown
      go_wp2_with fail
      go_loopw [10, 12] (fun u v wr => ∃ (j : Nat) (O2 : List Nat), v = .int .i64 (j : Int) ∧ K ≤ j ∧ (j = K ∨ j ≤ n) ∧ O2 = (l.drop K).take (j - K) ∧ wr.ownsRow wo.heap.size 3 1 u O2.length (ncells O2) ∧ Below wo.heap.size wo wr) (fun _ v _ => n - (intOf v).toNat)
      case atStart => exact ⟨K, [], rfl, Nat.le_refl _, .inl rfl, by rw [Nat.sub_self]; rfl, World.ownsRow_nil .., Below.refl _ _⟩
      case round =>
        obtain ⟨j, O2, rfl, hKj, hjn, hO2, hown, hb2⟩ := hrel
        by_cases hlt : j < n
        · have hjl : j < l.length := by rw [HN.out]; exact hlt
          obtain ⟨ad, rfl, had, hcell⟩ := hrow (by omega)
          have hc := hcell j hjl
          have hc2 := (hb.cell (p := ad.add j) (by rw [add_block]; have := HB.out; omega)).trans hc
          have hc3 := (hb2.cell (p := ad.add j) (by rw [add_block]; have := HB.out; have := hb.size; omega)).trans hc2
          obtain ⟨x, hx⟩ : ∃ x, x = l[j] := ⟨_, rfl⟩
          rw [← hx] at hc3
          have hO3 : (l.drop K).take (j + 1 - K) = O2 ++ [x] := by
            have e : j + 1 - K = (j - K) + 1 := by omega
            have hd : j - K < (l.drop K).length := by rw [List.length_drop]; omega
            rw [e, List.take_succ_eq_append_getElem hd, ← hO2, List.getElem_drop, hx]
            congr 3
            omega
          have hlO : O2.length ≤ 1000000000000 := by
            rw [hO2, List.length_take, List.length_drop]
            have := HN.out
            omega
          have HO3 := Lib.hid hO3
          have q1 : (j : Int) < (n : Int) := by omega
          have q2 : (0 : Int) ≤ (j : Int) := by omega
          have hbz := hb2.size
          clear hc hc2 hcell hO2 hO3 hx hra
          go_wp2_with (at_builtin; refine wpNat rfl (.tmp 35) (.tmp 40) rfl wo.heap.size _ u10 O2 (x : Int) x rfl (by rfl) hown (by rfl) hlO hbz ?_; intro v1 w2 hown2 hg2)
          go_roundw
          case rel => exact ⟨j + 1, O2 ++ [x], by go_num, by omega, .inr (by omega), HO3.out.symm, hown2, own_below hb2 hown hg2⟩
          case measure => simp [intOf]; omega
        · have hO3 : O2 = l.drop K := by
            rw [hO2]
            apply List.take_of_length_le
            rw [List.length_drop]
            have := HN.out
            omega
          have q1 : ¬ (j : Int) < (n : Int) := by omega
          have hhigh := RowI.of_own hown
          have hlow2 := (hlow.below hb2).more hb2.size
          have HO2 := Lib.hid hO3
          have hBo := hb.trans (hb2.mono hb.size)
          clear hO2 hO3 hlow hown hra hrow hr0 hb hb2
          have hmc : (madeCells #[Value.int .i64 0] K)[K - 1]? = some (.int .i64 0) := by
            rw [made_one, Array.getElem?_replicate, if_pos (by omega)]
          go_wp2_with fail
          have hH := half_row wr K m HK.out
          have hW : Below wr.heap.size wr (wr.alloc (.cells ((madeCells #[Value.int .i64 0] K).setIfInBounds (K - 1) (.int .i64 5)) 3)) := (Below.refl _ _).alloc (Nat.le_refl _) _
          have hL1 := (hlow2.below hW).more hW.size
          have hH1 := (hhigh.below hW).more hW.size
          have hB1 := hBo.trans (hW.mono hBo.size)
          have hz1 : wr.heap.size + 1 ≤ (wr.alloc (.cells ((madeCells #[Value.int .i64 0] K).setIfInBounds (K - 1) (.int .i64 5)) 3)).heap.size := by simp
          have hH2 := hH.more hz1
          clear hlow2 hhigh hBo hH hW hmc HMK hz1
          generalize wr.alloc (.cells ((madeCells #[Value.int .i64 0] K).setIfInBounds (K - 1) (.int .i64 5)) 3) = W1 at *
          have hOd : Dig O := by rw [HO.out]; exact lowL_dig hl K
          have hO2d : Dig O2 := by rw [HO2.out]; exact dig_drop hl K
          have hO2l : O2.length ≤ n := by rw [HO2.out, List.length_drop]; have := HN.out; omega
          have hOl : O.length ≤ 100000 := by rw [HOL.out]; omega
          have hhl : (halfL m).length ≤ 100000 := by simp [halfL]; omega
          obtain ⟨b1, hb1⟩ : ∃ b, b = decide (vL [] < vL O) := ⟨_, rfl⟩
          have L1 := Less_any (.slice none 0 0) u9 [] O 0 W1.heap.size dig_nil hOd (by decide) hOl W1 (RowI.nil _ _) hL1
          rw [← hb1] at L1
          obtain ⟨b2, hb2⟩ : ∃ b, b = decide (vL (halfL m) < vL O) := ⟨_, rfl⟩
          have L2 := Less_any (.slice (some ⟨wr.heap.size, 0, none⟩) K K) u9 (halfL m) O W1.heap.size W1.heap.size (halfL_dig m) hOd hhl hOl W1 hH2 hL1
          rw [← hb2] at L2
          obtain ⟨b3, hb3⟩ : ∃ b, b = decide (vL O < vL (halfL m)) := ⟨_, rfl⟩
          have L3 := Less_any u9 (.slice (some ⟨wr.heap.size, 0, none⟩) K K) O (halfL m) W1.heap.size W1.heap.size hOd (halfL_dig m) hOl hhl W1 hL1 hH2
          rw [← hb3] at L3
          have A0 := at_any u10 O2 W1.heap.size 0 (by omega) W1 hH1
          obtain ⟨x, hx⟩ : ∃ x, x = atD O2 0 := ⟨_, rfl⟩
          rw [← hx] at A0
          obtain ⟨o, ho⟩ : ∃ o, o = x % 2 := ⟨_, rfl⟩
          have g3 : Int.tmod (x : Int) 2 = (o : Int) := by rw [Int.tmod_eq_emod_of_nonneg (by omega)]; omega
          have ho2 : o = 0 ∨ o = 1 := by omega
          have hfin : rnd (vL l) K = if (b2 || (!b3 && decide (o = 1))) = true then vL O2 + 1 else vL O2 := by
            have e := rnd_rows hl m
            obtain ⟨_, e2⟩ := vL_mod hl (m + 1)
            rw [← HK.out, ← HO.out, ← HO2.out, ← hb2, ← hb3, ← hx, ← ho] at e
            rw [← HK.out] at e2
            rw [← HO2.out] at e2
            unfold rnd
            by_cases c : (b2 || (!b3 && decide (o = 1))) = true
            · rw [if_pos c, if_pos (e.1 c), e2]
            · rw [if_neg c, if_neg (fun q => c (e.2 q)), e2]
          have hPl := plusR_len O2 [1] 0
          have hPd := plusR_dig O2 [1] 0 hO2d (dig_cons.2 ⟨by decide, dig_nil⟩) (by decide)
          have hPv : vL (plusR O2 [1] 0) = vL O2 + 1 := by rw [plusR_val]; simp [vL]
          have HPL := Lib.hid hPl
          have HPV := Lib.hid hPv
          clear hb1 hb2 hb3 hx ho hPl hPv hH2 hL1
          refine L1.mono ?_
          rintro e w5 ⟨rfl, rfl⟩
          go_wp2_with fail
          refine A0.mono ?_
          rintro e w6 ⟨rfl, rfl⟩
          have one1 : RowI (w6.alloc (.cells #[.int .i64 1] 3)) (w6.heap.size + 1) (.slice (some ⟨w6.heap.size, 0, none⟩) 1 1) [1] :=
            ⟨some ⟨w6.heap.size, 0, none⟩, 1, rfl, fun _ => ⟨_, rfl, Nat.lt_succ_self _, fun j hj => by
              obtain rfl : j = 0 := by simpa using hj
              rw [Lib.add_plain]
              simp⟩⟩
          have hBa : Below w6.heap.size w6 (w6.alloc (.cells #[.int .i64 1] 3)) := (Below.refl _ _).alloc (Nat.le_refl _) _
          have hHa := (hH1.below hBa).more hBa.size
          have HP := Plus_any u10 (.slice (some ⟨w6.heap.size, 0, none⟩) 1 1) O2 [1] (w6.heap.size + 1) hO2d (dig_cons.2 ⟨by decide, dig_nil⟩) (by omega) (by decide) (w6.alloc (.cells #[.int .i64 1] 3)) (hHa.more (by simp)) one1 (by simp)
          have hBb := hB1.trans (hBa.mono hB1.size)
          clear one1 hHa hBa
          generalize plusR O2 [1] 0 = P at *
          rcases ho2 with rfl | rfl <;> cases b2 <;> cases b3
          all_goals
            simp only [Bool.false_or, Bool.true_or, Bool.not_false, Bool.not_true, Bool.and_true, Bool.false_and, Bool.true_and, if_true, decide_true, Nat.zero_ne_one, Nat.one_ne_zero, decide_false, Bool.false_eq_true, if_false] at hfin
            have HF := Lib.hid hfin
            clear hfin
          · go_wp2_with (go_at_call 37; (first | with_reducible refine L2.mono ?_ | with_reducible refine L3.mono ?_); rintro e w7 ⟨rfl, rfl⟩)
            refine bodyPost_ret (v := u10) ?_ rfl ⟨u10, O2, rfl, hH1, hO2d, HF.out.symm, by omega, hB1⟩
            simp [results, Tryz.results16, go_sem]
          · go_wp2_with (go_at_call 37; (first | with_reducible refine L2.mono ?_ | with_reducible refine L3.mono ?_); rintro e w7 ⟨rfl, rfl⟩)
            refine bodyPost_ret (v := u10) ?_ rfl ⟨u10, O2, rfl, hH1, hO2d, HF.out.symm, by omega, hB1⟩
            simp [results, Tryz.results16, go_sem]
          · go_wp2_with (go_at_call 37; (first | with_reducible refine L2.mono ?_ | with_reducible refine L3.mono ?_); rintro e w7 ⟨rfl, rfl⟩)
            refine HP.mono ?_
            rintro e w8 ⟨v8, rfl, hr8, hb8⟩
            have hB8 := hBb.trans (hb8.mono hBb.size)
            go_wp2_with fail
            refine bodyPost_ret (v := v8) ?_ rfl ⟨v8, P, rfl, hr8, hPd, by rw [HPV.out]; exact HF.out.symm, by have := HPL.out; simp only [List.length_cons, List.length_nil] at this; omega, hB8⟩
            simp [results, Tryz.results16, go_sem]
          · go_wp2_with (go_at_call 37; (first | with_reducible refine L2.mono ?_ | with_reducible refine L3.mono ?_); rintro e w7 ⟨rfl, rfl⟩)
            refine HP.mono ?_
            rintro e w8 ⟨v8, rfl, hr8, hb8⟩
            have hB8 := hBb.trans (hb8.mono hBb.size)
            go_wp2_with fail
            refine bodyPost_ret (v := v8) ?_ rfl ⟨v8, P, rfl, hr8, hPd, by rw [HPV.out]; exact HF.out.symm, by have := HPL.out; simp only [List.length_cons, List.length_nil] at this; omega, hB8⟩
            simp [results, Tryz.results16, go_sem]
          · go_wp2_with (go_at_call 37; (first | with_reducible refine L2.mono ?_ | with_reducible refine L3.mono ?_); rintro e w7 ⟨rfl, rfl⟩)
            refine HP.mono ?_
            rintro e w8 ⟨v8, rfl, hr8, hb8⟩
            have hB8 := hBb.trans (hb8.mono hBb.size)
            go_wp2_with fail
            refine bodyPost_ret (v := v8) ?_ rfl ⟨v8, P, rfl, hr8, hPd, by rw [HPV.out]; exact HF.out.symm, by have := HPL.out; simp only [List.length_cons, List.length_nil] at this; omega, hB8⟩
            simp [results, Tryz.results16, go_sem]
          · go_wp2_with (go_at_call 37; (first | with_reducible refine L2.mono ?_ | with_reducible refine L3.mono ?_); rintro e w7 ⟨rfl, rfl⟩)
            refine bodyPost_ret (v := u10) ?_ rfl ⟨u10, O2, rfl, hH1, hO2d, HF.out.symm, by omega, hB1⟩
            simp [results, Tryz.results16, go_sem]
          · go_wp2_with (go_at_call 37; (first | with_reducible refine L2.mono ?_ | with_reducible refine L3.mono ?_); rintro e w7 ⟨rfl, rfl⟩)
            refine HP.mono ?_
            rintro e w8 ⟨v8, rfl, hr8, hb8⟩
            have hB8 := hBb.trans (hb8.mono hBb.size)
            go_wp2_with fail
            refine bodyPost_ret (v := v8) ?_ rfl ⟨v8, P, rfl, hr8, hPd, by rw [HPV.out]; exact HF.out.symm, by have := HPL.out; simp only [List.length_cons, List.length_nil] at this; omega, hB8⟩
            simp [results, Tryz.results16, go_sem]
          · go_wp2_with (go_at_call 37; (first | with_reducible refine L2.mono ?_ | with_reducible refine L3.mono ?_); rintro e w7 ⟨rfl, rfl⟩)
            refine HP.mono ?_
            rintro e w8 ⟨v8, rfl, hr8, hb8⟩
            have hB8 := hBb.trans (hb8.mono hBb.size)
            go_wp2_with fail
            refine bodyPost_ret (v := v8) ?_ rfl ⟨v8, P, rfl, hr8, hPd, by rw [HPV.out]; exact HF.out.symm, by have := HPL.out; simp only [List.length_cons, List.length_nil] at this; omega, hB8⟩
            simp [results, Tryz.results16, go_sem]
end Go.Proofs.YtpfldlbdmhhjdaaGreatDoor
