/-
  ref03.Less, Row, whole. Conditions: sizes.
-/
import Derived.Test.YtpfldlbdmhhjdaaGreatDoorDe
set_option linter.unusedVariables false
namespace Go.Proofs.YtpfldlbdmhhjdaaGreatDoor
open Go.RowKit Go.Fl Go.Sort
set_option maxRecDepth 100000 in
set_option maxHeartbeats 400000 in
theorem Less_any (va vb : Value) (l m : List Nat) (B B' : Nat) (hl : Dig l) (hm : Dig m) (hll : l.length ≤ 100000) (hml : m.length ≤ 100000) (w : World) (ra : RowI w B va l) (rb : RowI w B' vb m) :
    Calls Tryz.prog 37 #[va, vb] w fun e w' => e = .returned (.bool (decide (vL l < vL m))) ∧ w' = w := by
  have ra0 := ra
  have rb0 := rb
  obtain ⟨A, c1, rfl, _⟩ := ra
  obtain ⟨A', c2, rfl, _⟩ := rb
  obtain ⟨n, hn⟩ : ∃ n, l.length = n := ⟨_, rfl⟩
  obtain ⟨k, hk⟩ : ∃ k, m.length = k := ⟨_, rfl⟩
  rw [hn] at ra0
  rw [hk] at rb0
  have HN := Lib.hid hn
  have HM := Lib.hid hk
  rw [hn, hk]
  rw [hn] at hll
  rw [hk] at hml
  clear hn hk
  obtain ⟨t, ht⟩ : ∃ t : Bool, t = decide (vL l < vL m) := ⟨_, rfl⟩
  rw [← ht]
  have HT := Lib.hid ht
  clear ht
  obtain ⟨mx, hmx⟩ : ∃ mx : Nat, mx = max n k := ⟨_, rfl⟩
  have hm1 : (max (n : Int) (k : Int)) = (mx : Int) := by omega
  have hm2 : n ≤ mx ∧ k ≤ mx ∧ mx ≤ 100000 := by omega
  have HMX := Lib.hid hm2
  clear hmx hm2
  go_enter Tryz.func37, Tryz.ntmps37
  go_wp2_with fail
  go_loopw [5] (fun u wr => ∃ (i : Nat) (x : Int), u = .int .i64 x ∧ x = (i : Int) - 1 ∧ i ≤ mx ∧ vL (l.drop i) = vL (m.drop i) ∧ wr = w) (fun u _ => (intOf u + 1).toNat)
  case atStart => exact ⟨mx, _, rfl, rfl, by omega, by (have := HMX.out; have := HN.out; have := HM.out; rw [List.drop_eq_nil_of_le (by omega), List.drop_eq_nil_of_le (by omega)]), rfl⟩
  case round =>
    obtain ⟨i, x, rfl, hx, hi, heq, rfl⟩ := hrel
    have HI := Lib.hid hi
    clear hi
    cases i with
    | zero =>
      obtain rfl : x = -1 := by omega
      have ht : t = false := by
        rw [HT.out]
        rw [List.drop_zero, List.drop_zero] at heq
        exact decide_eq_false (by omega)
      clear heq hx
      go_wp2_with fail
      refine bodyPost_ret (v := .bool false) ?_ rfl ⟨by rw [ht], rfl⟩
      simp [results, Tryz.results37, go_sem]
    | succ j =>
      obtain rfl : x = (j : Int) := by omega
      have hj : j ≤ 100000 := by have := HMX.out; have := HI.out; omega
      have HA := at_any (.slice A n c1) l B j (by have := HN.out; omega) wr ra0
      have HA2 := at_any (.slice A' k c2) m B' j (by have := HM.out; omega) wr rb0
      have a1 := atD_lt hl j
      have a2 := atD_lt hm j
      have HEQ := Lib.hid heq
      have hq0 : (0 : Int) ≤ (j : Int) := by omega
      by_cases hxy : atD l j = atD m j
      · have hs := Lib.hid (same_at j heq hxy)
        rw [← hxy] at HA2
        generalize atD l j = y at *
        clear hxy hx heq
        go_wp2_with (go_at_call 36; (first | with_reducible refine HA.mono ?_ | with_reducible refine HA2.mono ?_); rintro e w1 ⟨rfl, rfl⟩)
        go_roundw
        case rel => exact ⟨j, _, rfl, rfl, by have := HI.out; omega, hs.out, trivial⟩
        case measure => simp [intOf]
      · have hlt := less_at hl hm j heq hxy
        have ht : decide (atD l j < atD m j) = t := by rw [HT.out, hlt]
        have t1 : ((atD l j : Int) != (atD m j : Int)) = true := by
          rw [bne_iff_ne]
          omega
        generalize atD l j = y at *
        generalize atD m j = z at *
        clear hxy hx heq hlt

        go_wp2_with (go_at_call 36; (first | with_reducible refine HA.mono ?_ | with_reducible refine HA2.mono ?_); rintro e w1 ⟨rfl, rfl⟩)
        refine bodyPost_ret (v := .bool t) ?_ rfl ⟨rfl, rfl⟩
        simp [results, Tryz.results37, go_sem]
set_option maxRecDepth 100000 in
set_option maxHeartbeats 400000 in
theorem Row_any (l : List Nat) (hl : Dig l) (hn : l.length ≤ 100000) (s : ByteArray) (hs : s.data.toList = txt l) (w : World) :
    Calls Tryz.prog 33 #[.agg #[.bool false, .string s, .int .i64 0], .int .i64 0] w fun e w' => ∃ v, e = .returned v ∧ RowI w' w'.heap.size v l ∧ Below w.heap.size w w' := by
  have hz : s.size = l.length := by
    have := congrArg List.length hs
    rw [txt_len] at this
    rw [← this]
    exact Array.length_toList.symm
  obtain ⟨n, hN⟩ : ∃ n, l.length = n := ⟨_, rfl⟩
  rw [hN] at hn hz
  have HZ := Lib.hid hz
  have HN := Lib.hid hN
  have B0 : Below w.heap.size w (w.alloc (.cells #[.bool false, .string s, .int .i64 0] 27)) := (Below.refl _ _).alloc (Nat.le_refl _) _
  have hk0 : (w.alloc (.cells #[.bool false, .string s, .int .i64 0] 27)).cell? ⟨w.heap.size, 1, none⟩ = some (.string s) := by simp
  clear hN
  go_enter Tryz.func33, Tryz.ntmps33
  go_wp2_with fail
  refine wp_loop_rounds 1 ?_
  rw [rounds_succ]
  go_wp2_with fail
  go_loopw [5, 7] (fun u v wr => ∃ (j : Nat) (x : Int), v = .int .i64 x ∧ x = (n : Int) - 1 - (j : Int) ∧ j ≤ n ∧ wr.ownsRow (w.heap.size + 1) 3 1 u j (ncells (l.take j)) ∧ Below (w.heap.size + 1) (w.alloc (.cells #[.bool false, .string s, .int .i64 0] 27)) wr) (fun _ v _ => (intOf v + 1).toNat)
  case atStart => exact ⟨0, _, rfl, by simp, by omega, World.ownsRow_nil .., Below.refl _ _⟩
  case round =>
    obtain ⟨j, x, rfl, hx, hj, hown, hb⟩ := hrel
    have HX := Lib.hid hx
    by_cases hlt : j < n
    · have q0 : (0 : Int) ≤ x := by omega
      have qw : wrap64 (x - 1) = x - 1 := IntWalk.wrap64_in (x - 1) (by omega)
      have QW := Lib.hid qw
      clear qw
      have q1 : x < (s.size : Int) := by have := HZ.out; omega
      have hk : wr.cell? ⟨w.heap.size, 1, none⟩ = some (.string s) := (hb.cell (p := ⟨w.heap.size, 1, none⟩) (by simp)).trans hk0
      have hjl : j < l.length := by rw [HN.out]; exact hlt
      have hxn : x.toNat = n - 1 - j := by omega
      have hd := dig_get hl hjl
      obtain ⟨d, hdd⟩ : ∃ d : Nat, d = l[j] := ⟨_, rfl⟩
      rw [← hdd] at hd
      have hget : ∀ h : x.toNat < s.size, (s[x.toNat]'h).toNat = 48 + d := fun h => by
        have e : s[x.toNat]'h = s.data.toList[x.toNat]'(by rw [hs, txt_len]; have := HZ.out; have := HN.out; omega) := rfl
        rw [e]
        simp only [hs]
        have e2 : (txt l)[x.toNat]'(by rw [txt_len]; have := HZ.out; have := HN.out; omega) = chr d := by
          unfold txt
          rw [List.getElem_map, List.getElem_reverse, hdd]
          congr 2
          have := HN.out
          omega
        rw [e2, chr_nat hd]
      obtain ⟨z, hz'⟩ : ∃ z : Nat, z = 48 + d := ⟨_, rfl⟩
      rw [← hz'] at hget
      have hzz : ((z : Int) - 48) % 256 = (d : Int) := by omega
      have hw : IntKind.u8.wrap ((z : Int) - 48) = (d : Int) := by rw [u8_wrap _ (by omega) (by omega)]; omega
      have hlen : (l.take j).length = j := by rw [List.length_take]; omega
      have hj9 : (l.take j).length ≤ 1000000000000 := by omega
      have htk : l.take (j + 1) = l.take j ++ [d] := by rw [List.take_succ_eq_append_getElem hjl, hdd]
      have hbz := hb.size
      rw [World.size_alloc] at hbz
      obtain ⟨O, hO⟩ : ∃ O, l.take j = O := ⟨_, rfl⟩
      rw [hO] at hlen hj9 htk hown
      have hown1 : wr.ownsRow (w.heap.size + 1) 3 1 u5 O.length (ncells O) := by rw [hlen]; exact hown
      clear hown hO
      have HD := Lib.hid hdd
      have HTK := Lib.hid htk
      have HL := Lib.hid hlen
      clear hx hz' hdd htk hlen hz hxn hk0 hs
      go_wp2_with (at_builtin; refine wpNat rfl (.tmp 26) (.tmp 33) rfl (w.heap.size + 1) wr u5 O _ d ?_ (by rfl) hown1 (by rfl) hj9 hbz ?_; (first | rfl | exact hzz | exact hw); intro v1 w2 hown2 hg2)
      go_roundw
      case rel =>
        have e3 : (O ++ [d]).length = j + 1 := by rw [List.length_append, HL.out]; rfl
        rw [e3, ← HTK.out] at hown2
        have hb2 := own_below (w0 := w.alloc (.cells #[.bool false, .string s, .int .i64 0] 27)) (by rw [World.size_alloc]; exact hb) (by rw [World.size_alloc]; exact hown1) hg2
        rw [World.size_alloc] at hb2
        exact ⟨j + 1, _, rfl, by first | rw [QW.out, HX.out]; omega | (rw [HX.out]; omega), by omega, hown2, hb2⟩
      case measure =>
        have := QW.out
        simp [intOf]
        omega
    · obtain rfl : j = n := by omega
      obtain rfl : x = -1 := by omega
      rw [List.take_of_length_le (by rw [HN.out]; exact Nat.le_refl _)] at hown
      have hown1 : wr.ownsRow (w.heap.size + 1) 3 1 u5 l.length (ncells l) := by rw [HN.out]; exact hown
      have hrow := RowI.of_own hown1
      have hB := B0.trans (hb.mono (Nat.le_succ _))
      clear hown hown1 hx hk0 hs
      go_wp2_with fail
      refine bodyPost_ret (v := u5) ?_ rfl ⟨u5, rfl, hrow, hB⟩
      simp [results, Tryz.results33, go_sem]
end Go.Proofs.YtpfldlbdmhhjdaaGreatDoor
