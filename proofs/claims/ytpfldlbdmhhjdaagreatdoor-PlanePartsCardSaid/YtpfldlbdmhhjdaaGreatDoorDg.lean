/-
  Contracts of dec.halved and of dec.up. Conditions: sizes.
-/
import Derived.Test.YtpfldlbdmhhjdaaGreatDoorDf
set_option linter.unusedVariables false
namespace Go.Proofs.YtpfldlbdmhhjdaaGreatDoor
open Go.RowKit Go.Fl Go.Sort
theorem chM_app (a b : List Nat) : chM (a ++ b) = chM a ++ chM b := by simp [chM]
theorem chr_int {d : Nat} (h : d < 10) : ((chr d).toNat : Int) = 48 + (d : Int) := by rw [chr_nat h]; simp
theorem halve_take {E : List Nat} {i : Nat} (h : i < E.length) : halveM 0 (E.take (i + 1)) = halveM 0 (E.take i) ++ [(10 * restM 0 (E.take i) + E[i]) / 2] ∧ restM 0 (E.take (i + 1)) = (10 * restM 0 (E.take i) + E[i]) % 2 := by
  rw [List.take_succ_eq_append_getElem h, halve_app, rest_app]
  exact ⟨rfl, rfl⟩
/-- a row's own block unchanged, the row is as it was -/
theorem own_same {w w' : World} {base e size n : Nat} {v : Value} {xs : List Value} (h : w.ownsRow base e size v n xs) (hs : ∀ g, v.ownBlock = some g → w'.heap[g]? = w.heap[g]?) : w'.ownsRow base e size v n xs := by
  refine ⟨h.1, ?_⟩
  rcases h.2 with q | ⟨g, cap, cur, rfl, hb, hg, r⟩
  · exact .inl q
  · exact .inr ⟨g, cap, cur, rfl, hb, (hs g rfl).trans hg, r⟩
set_option maxRecDepth 100000 in
set_option maxHeartbeats 4000000 in
theorem halved_any (a : Addr) (D : List Nat) (c : Nat) (hD : Dig D) (h0 : 0 < D.length) (hn : D.length ≤ 90000) (w : World) (ra : RowAt w a (chM D)) (ba : a.block < w.heap.size) :
    Calls Tryz.prog 28 #[.slice (some a) D.length c] w fun e w' => ∃ g cap, e = .returned (.slice (some ⟨g, 0, none⟩) (D.length + 1) cap) ∧ RowAt w' ⟨g, 0, none⟩ (chM (halveM 0 (D ++ [0]))) ∧ g < w'.heap.size ∧ Below w.heap.size w w' := by
  obtain ⟨n, hN⟩ : ∃ n, D.length = n := ⟨_, rfl⟩
  have hCn : (chM D).length = n := by rw [chM_len]; exact hN
  rw [hN] at h0 hn ⊢
  have hmk : ∀ W : World, (Instr.makeSlice 67 (.int .i64 0) (.int .i64 ((n : Int) + 1))).run Tryz.prog W = .ok (.slice (some ⟨W.heap.size, 0, none⟩) 0 (n + 1)) (W.alloc (.cells (madeCells #[.int .u8 0] (n + 1)) 5)) := fun W => by
    obtain ⟨i, hi, hz, hs, hb⟩ := info_parts infoB
    have h := run_make (P := Tryz.prog) (w := W) 67 5 i (.int .u8 0) Tryz.underlying67 hi hz .i64 .i64 0 ((n : Int) + 1) (by omega) (by omega) (by rw [hb]; omega) (by omega)
    rw [hs, Nat.mul_one, show ((n : Int) + 1).toNat = n + 1 by omega] at h
    exact h
  have hB1 := (Below.refl w.heap.size w).alloc (Nat.le_refl _) (.cells (madeCells #[.int .u8 0] (n + 1)) 5)
  have hown0 : (w.alloc (.cells (madeCells #[.int .u8 0] (n + 1)) 5)).ownsRow w.heap.size 5 1 (.slice (some ⟨w.heap.size, 0, none⟩) 0 (n + 1)) 0 (bcells []) :=
    ⟨by simp [bcells], Or.inr ⟨w.heap.size, n + 1, _, rfl, Nat.le_refl _, heap_alloc_new w _, Nat.zero_le _, by unfold maxLen; omega, by simp [madeCells], by simp [bcells]⟩⟩
  have ra1 := ra.below hB1 ba
  generalize hW1 : w.alloc (.cells (madeCells #[.int .u8 0] (n + 1)) 5) = w1 at *
  have hs1 : w1.heap.size = w.heap.size + 1 := by rw [← hW1]; simp
  have hmk1 := hmk w
  rw [hW1] at hmk1
  clear hmk
  have HC := Clone_any a (chM D) c (by omega) (by omega) w1 ra1 (by omega)
  rw [hCn] at HC
  clear hW1
  go_enter Tryz.func28, Tryz.ntmps28
  go_wp2_with (first | (go_at_call 51; refine HC.mono ?_; rintro e w2 ⟨g1, cap1, rfl, hown1, hg1, hlt1, hb2⟩) | (at_builtin; refine wpRow rfl (.tmp 13) (.tmp 14) rfl w1.heap.size _ (.slice (some ⟨g1, 0, none⟩) n cap1) (chM D) [48] (by rfl) (by rw [hCn]; exact hown1.alloc _) ⟨w2.heap.size, 0, none⟩ 1 (by rfl) (fun j hj => by obtain rfl : j = 0 := (by simpa using hj); rw [Lib.add_plain]; simp) (by decide) (by simp only [List.length_cons, List.length_nil]; omega) (by have := hb2.size; simp; omega) (w2.heap.size + 1) (by simp) ?_; intro yb ycap w3 hown3 hgrow3 hat3 hlt3))
  have hE : chM D ++ [48] = chM (D ++ [0]) := by rw [chM_app]; rfl
  rw [hE] at hown3
  have hEl : (D ++ [0]).length = n + 1 := by simp [hN]
  have hEd : Dig (D ++ [0]) := dig_app.2 ⟨hD, dig_cons.2 ⟨by decide, dig_nil⟩⟩
  obtain ⟨ry, _⟩ := RowAt.of_own hown3
  have hz2 := hb2.size
  have hyn : yb ≠ w.heap.size := by
    rcases hat3 with e | e
    · injection e with e; simp only at e; omega
    · omega
  have hB3 : Below w.heap.size w w3 := ((hB1.trans (hb2.mono (by omega))).alloc (by omega) _).grown hgrow3 (by simp; omega) (fun k hk => by injection hk with hk; simp only at hk; omega)
  have hownO : w3.ownsRow w.heap.size 5 1 (.slice (some ⟨w.heap.size, 0, none⟩) 0 (n + 1)) 0 (bcells []) := own_same hown0 fun g hg => by
    injection hg with hg
    simp only at hg
    subst hg
    have e1 := hgrow3.block w.heap.size (by simp; omega) (by intro c; injection c with c; simp only at c; omega)
    have e2 := Below.heap_alloc w2 (.cells #[.int .u8 48] 5) w.heap.size (by omega)
    exact (e1.trans e2).trans (hb2.block _ (by omega))
  have hzz : w.heap.size < w3.heap.size := by have := hgrow3.size; simp at this; omega
  generalize hEq : D ++ [0] = E at *
  clear hown3 hgrow3 hat3 hown1 HC hb2 hE hown0 ra1 hB1 hmk1
  go_loopw [3, 4, 17] (fun u v t wr => ∃ (i g cap : Nat), u = .slice (some ⟨g, 0, none⟩) i cap ∧ wr.ownsRow w.heap.size 5 1 (.slice (some ⟨g, 0, none⟩) i cap) i (bcells (chM (halveM 0 (E.take i)))) ∧ g ≠ yb ∧ g < wr.heap.size ∧ v = .int .u8 (restM 0 (E.take i)) ∧ t = .int .i64 i ∧ i ≤ n + 1 ∧ RowAt wr ⟨yb, 0, none⟩ (chM E) ∧ yb < wr.heap.size ∧ Below w.heap.size w wr) (fun _ _ t _ => n + 1 - (intOf t).toNat)
  case atStart => exact ⟨0, w.heap.size, n + 1, rfl, hownO, Ne.symm hyn, hzz, rfl, rfl, by omega, ry, hlt3, hB3⟩
  case round =>
    clear hownO ry hB3 hzz
    obtain ⟨i, g, cap, rfl, hown, hgy, hgl, rfl, rfl, hi, hr, hyl, hb⟩ := hrel
    by_cases hlt : i < n + 1
    · have hiE : i < E.length := by omega
      obtain ⟨ht1, ht2⟩ := halve_take hiE
      have hr1 := rest_le (E.take i) 0 (by decide)
      have hd := dig_get hEd hiE
      have hc := hr i (by rw [chM_len]; exact hiE)
      have hce : (chM E)[i]'(by rw [chM_len]; exact hiE) = chr E[i] := by simp [chM]
      rw [hce, chr_int hd, Lib.add_plain, Nat.zero_add] at hc
      have hlenh : (chM (halveM 0 (E.take i))).length = i := by rw [chM_len, halve_len, List.length_take]; omega
      generalize halveM 0 (E.take i) = O at *
      generalize restM 0 (E.take i) = r at *
      generalize E[i] = d at *
      obtain ⟨x, hx⟩ : ∃ x : Int, x = 48 + (d : Int) := ⟨_, rfl⟩
      rw [← hx] at hc
      obtain ⟨z, hz⟩ : ∃ z : Nat, z = 10 * r + d := ⟨_, rfl⟩
      rw [← hz] at ht1 ht2
      have w1' : IntKind.u8.wrap ((r : Int) * 10) = (r : Int) * 10 := u8_wrap _ (by omega) (by omega)
      have w2' : IntKind.u8.wrap ((r : Int) * 10 + x) = (r : Int) * 10 + x := u8_wrap _ (by omega) (by omega)
      have w3' : IntKind.u8.wrap ((r : Int) * 10 + x - 48) = (z : Int) := by rw [u8_wrap _ (by omega) (by omega)]; omega
      have w4' : IntKind.u8.wrap (48 + (z : Int) / 2) = 48 + (z : Int) / 2 := u8_wrap _ (by omega) (by omega)
      have h0i : (0 : Int) ≤ (i : Int) := by omega
      have hin : (i : Int) < (n : Int) + 1 := by omega
      have hq10 : z / 2 < 10 := by omega
      have hnew : (48 + (z : Int) / 2) % 256 = ((chr (z / 2)).toNat : Int) := by rw [chr_int hq10]; omega
      have HT1 := Lib.hid ht1
      have HT2 := Lib.hid ht2
      have hnc : RowAt (wr.alloc (.cells #[.int .u8 ((48 + (z : Int) / 2) % 256)] 5)) ⟨wr.heap.size, 0, none⟩ [chr (z / 2)] := fun j hj => by
        obtain rfl : j = 0 := by simpa using hj
        rw [Lib.add_plain, hnew]
        simp
      have HN := Lib.hid hnc
      have hownA : (wr.alloc (.cells #[.int .u8 ((48 + (z : Int) / 2) % 256)] 5)).ownsRow w.heap.size 5 1 (.slice (some ⟨g, 0, none⟩) i cap) (chM O).length (bcells (chM O)) := by rw [hlenh]; exact hown.alloc _
      have hz0 := hb.size
      have HR := Lib.hid hr
      clear ht1 ht2 hnew hnc hr hx hz hd hr1 hq10
      have hyl1 := hyl
      go_wp2_with (at_builtin; refine wpRow rfl (.tmp 26) (.tmp 30) rfl w.heap.size _ (.slice (some ⟨g, 0, none⟩) i cap) (chM O) [chr (z / 2)] (by rfl) hownA ⟨wr.heap.size, 0, none⟩ 1 (by rfl) HN.out (by simp) (by rw [hlenh]; simp only [List.length_cons, List.length_nil]; omega) (by rw [World.size_alloc]; omega) (wr.heap.size + 1) (by rw [World.size_alloc]) ?_; intro g' cap' w4 hown4 hgrow4 hat4 hlt4)
      go_roundw
      case rel =>
        have e1 : (chM O).length + [chr (z / 2)].length = i + 1 := by rw [hlenh]; rfl
        have e2 : chM O ++ [chr (z / 2)] = chM (halveM 0 (E.take (i + 1))) := by rw [HT1.out, chM_app]; rfl
        have hgy' : g' ≠ yb := by
          rcases hat4 with e | e
          · injection e with e; simp only at e; omega
          · omega
        have hgw : w.heap.size ≤ g := by
          rcases hown.2 with ⟨q, _⟩ | ⟨_, _, _, q, hbg, _⟩
          · cases q
          · injection q with q; injection q with q; injection q with q; omega
        have hr4 : RowAt w4 ⟨yb, 0, none⟩ (chM E) := fun j hj => by
          have c1 := hgrow4.cell_far ((⟨yb, 0, none⟩ : Addr).add j) (by rw [add_block]; simp; omega) (by rw [add_block]; intro q; injection q with q; simp only at q; omega)
          rw [c1, World.cell?_alloc_lt _ _ _ (by rw [add_block]; exact hyl1)]
          exact HR.out j hj
        rw [e1] at hown4
        rw [e2] at hown4
        rw [← e2, List.length_append, hlenh] at hown4
        rw [e2] at hown4
        refine ⟨i + 1, g', cap', rfl, hown4, hgy', hlt4, by rw [HT2.out]; simp, by go_num, by omega, hr4, by have := hgrow4.size; simp at this; omega, (hb.alloc hb.size _).grown hgrow4 (by have := hb.size; simp; omega) (fun k hk => by injection hk with hk; simp only at hk; omega)⟩
      case measure => simp [intOf]; omega
    · obtain rfl : i = n + 1 := by omega
      rw [show E.take (n + 1) = E from List.take_of_length_le (by omega)] at hown
      have hlenh : (chM (halveM 0 E)).length = n + 1 := by rw [chM_len, halve_len]; exact hEl
      rw [← hlenh] at hown
      obtain ⟨hrow, _⟩ := RowAt.of_own (by rw [hlenh] at hown ⊢; exact hown)
      have hno : ¬ ((n : Int) + 1) < (n : Int) + 1 := by omega
      clear hown hr
      go_wp2_with fail
      refine bodyPost_ret (v := .slice (some ⟨g, 0, none⟩) (n + 1) cap) ?_ rfl ⟨g, ⟨cap, rfl⟩, by first | exact hrow | (rw [hEq]; exact hrow) | (rw [← hEq] at hrow; exact hrow), hgl, hb⟩
      simp [results, Tryz.results28, go_sem]
end Go.Proofs.YtpfldlbdmhhjdaaGreatDoor
