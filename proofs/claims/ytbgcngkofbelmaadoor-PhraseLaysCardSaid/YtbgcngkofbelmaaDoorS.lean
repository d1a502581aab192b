/-
  The walk of PhraseParses: it answers yes. Conditions: the text is short enough to be in memory; the two listed error variables are laid.
-/
import Derived.Test.YtbgcngkofbelmaaDoorR
namespace Go.Proofs.YtbgcngkofbelmaaDoor
open Go.RowKit
open Ph
set_option maxRecDepth 100000 in
set_option maxHeartbeats 4000000 in
theorem parses_wrong {s : ByteArray} {a b : Int} (hs : s.size ≤ 281474976710656) (hf : Wrong s a b) (w : World) (hg : Glob w) : Calls Tryd.prog 3 #[.string s] w fun e w' => e = .returned (.bool true) ∧ Below w.heap.size w w' := by
  have HW := wakes_yes w hg
  go_enter Tryd.func3, Tryd.ntmps3
  go_wp2_with (go_at_call 11; refine HW.mono ?_; rintro e w1 ⟨rfl, hb1⟩)
  have HR := WrongP.calls (ref_wrong hs hf w1)
  refine HR.mono ?_
  rintro e w2 ⟨rfl, hb2⟩
  have hbw := (hb1.trans (hb2.mono hb1.size))
  have hbw2 := hbw.alloc hbw.size (.cells #[.int .i64 a, .int .i64 b] 26)
  have hN := Blk.new w2 26 #[.int .i64 a, .int .i64 b]
  go_wp2_with fail
  go_loopw [5] (fun u wr => ∃ r : Nat, u = .int .i64 r ∧ r ≤ 2 ∧ Below (w2.alloc (.cells #[.int .i64 a, .int .i64 b] 26)).heap.size (w2.alloc (.cells #[.int .i64 a, .int .i64 b] 26)) wr) (fun u _ => 2 - (intOf u).toNat)
  case atStart => exact ⟨0, rfl, by omega, Below.refl _ _⟩
  case round =>
    obtain ⟨r, rfl, hr, hb⟩ := hrel
    have hN1 := hN.below hb hN.lt
    have hba := hbw2.trans (hb.mono hbw2.size)
    by_cases h2 : r < 2
    · have HP := WrongP.calls (parse_wrong hs hf wr (hg.below hba hg.size))
      go_wp2_with fail
      refine HP.mono ?_
      rintro e w3 ⟨rfl, hb3⟩
      have hb4 := hb.trans (hb3.mono hb.size)
      have hb5 := hb4.alloc hb4.size (.cells #[.int .i64 a, .int .i64 b] 26)
      have hN5 := hN.below hb5 hN.lt
      have c0 := hN5.at_ 0 (v := .int .i64 a) rfl
      have c1 := hN5.at_ 1 (v := .int .i64 b) rfl
      have HE := exact_yes none none [] 0 0 0 0 (w3.alloc (.cells #[.int .i64 a, .int .i64 b] 26)) (fun h => by simp at h) (fun h => by simp at h) (by simp)
      simp only [List.length_nil] at HE
      go_wp2_with (go_at_call 14; refine HE.mono ?_; rintro e w4 ⟨rfl, hb6⟩)
      have hb7 := hb5.trans (hb6.mono hb5.size)
      clear hb6 HE c0 c1 hb3 hb4 hb5 hN5 hba hN1 hb HP
      go_loopw [42] (fun u wr => u = .int .i64 0 ∧ Below (w2.alloc (.cells #[.int .i64 a, .int .i64 b] 26)).heap.size (w2.alloc (.cells #[.int .i64 a, .int .i64 b] 26)) wr) (fun u _ => 0)
      case atStart => exact ⟨rfl, hb7⟩
      case round =>
        obtain ⟨rfl, hb⟩ := hrel
        go_wp2_with fail
        go_roundw
        case rel => exact ⟨r + 1, by go_num, by omega, hb⟩
        case measure => simp [intOf]; omega
    · go_wp2_with fail
      clear hN1
      have hbx := hb
      clear hb
      go_loopw [52, 9] (fun u v wr => u = .int .i64 0 ∧ v = .slice none 0 0 ∧ Below (w2.alloc (.cells #[.int .i64 a, .int .i64 b] 26)).heap.size (w2.alloc (.cells #[.int .i64 a, .int .i64 b] 26)) wr) (fun _ _ _ => 0)
      case atStart => exact ⟨rfl, rfl, hbx⟩
      case round =>
        obtain ⟨rfl, rfl, hb⟩ := hrel
        have hba := hbw2.trans (hb.mono hbw2.size)
        have HP := places_wrong hs hf _ (hg.below hba hg.size)
        unfold NoNums at HP
        go_wp2_with fail
        refine HP.mono ?_
        rintro e w3 ⟨rfl, hb3⟩
        have hb4 := hb.trans (hb3.mono hb.size)
        have hN5 := hN.below hb4 hN.lt
        have c0 := hN5.at_ 0 (v := .int .i64 a) rfl
        have c1 := hN5.at_ 1 (v := .int .i64 b) rfl
        go_wp2_with fail
        have hb6 := hba.trans (hb3.mono hba.size)
        clear hb3 hb4 hN5 c0 c1 hba hb
        go_loopw [83] (fun u wr => u = .int .i64 0 ∧ Below w.heap.size w wr) (fun _ _ => 0)
        case atStart => exact ⟨rfl, hb6⟩
        case round =>
          obtain ⟨rfl, hb⟩ := hrel
          go_wp2_with fail
          refine bodyPost_ret (v := .bool true) ?_ rfl ⟨rfl, hb⟩
          simp [results, Tryd.results3, go_sem]
theorem ints_form {w : World} {B n : Nat} {v : Value} {xs : List Value} (h : w.ownsRow B 3 1 v n xs) : ∃ A c, v = .slice A n c := by
  rcases h.2 with ⟨rfl, h0⟩ | ⟨g, cap, cur, rfl, _⟩
  · exact ⟨none, 0, by rw [h0]⟩
  · exact ⟨_, _, rfl⟩
theorem ints_at {w : World} {B c : Nat} {A : Option Addr} {xs : List Int} (h : w.ownsRow B 3 1 (.slice A xs.length c) xs.length (icells xs)) {i : Nat} (hi : i < xs.length) : ∃ g, A = some ⟨g, 0, none⟩ ∧ B ≤ g ∧ w.cell? ⟨g, i, none⟩ = some (.int .i64 xs[i]) := by
  rcases h.2 with ⟨_, h0⟩ | ⟨g, cap, cur, hv, hB, _⟩
  · omega
  · cases hv
    exact ⟨g, rfl, hB, by rw [h.cellAt i (by omega)]; simp [icells, hi]⟩
/-- a row of pieces, whatever it holds: as many cells as its capacity says -/
def Room (w : World) (A : Option Addr) (n : Nat) (B : Nat) : Prop := 0 < n → ∃ g cs, A = some ⟨g, 0, none⟩ ∧ Blk w g 31 cs ∧ n * 3 ≤ cs.size ∧ B ≤ g
theorem room_of_own {w : World} {B : Nat} {A : Option Addr} {c : Nat} {l : List Pc} (h : w.ownsRow B 31 3 (.slice A l.length c) l.length (pcells l)) : Room w A l.length B := fun hn => by
  rcases h.2 with ⟨_, h0⟩ | ⟨g, cap, cur, hv, hB, hb, h1, h2, h3, h4⟩
  · omega
  · cases hv
    refine ⟨g, cur, rfl, hb, ?_, hB⟩
    rw [h3]; exact Nat.mul_le_mul_right 3 h1
theorem Room.drewN {w : World} {A : Option Addr} {n B : Nat} (h : Room w A n B) (k : Nat) : Room (w.drewN k) A n B := h
theorem Room.cell {w : World} {A : Option Addr} {n B : Nat} (h : Room w A n B) {i : Nat} (hi : i < n) : ∃ g u, A = some ⟨g, 0, none⟩ ∧ B ≤ g ∧ w.cell? ⟨g, i * 3 + 1, none⟩ = some u ∧ w.frozen? ⟨g, i * 3 + 1, none⟩ = false := by
  obtain ⟨g, cs, e, hb, hc, hB⟩ := h (by omega)
  have hlt : i * 3 + 1 < cs.size := by omega
  exact ⟨g, cs[i * 3 + 1], e, hB, by rw [hb.cell]; simp [hlt], hb.frozen _⟩
theorem Room.set {w : World} {A : Option Addr} {n B g : Nat} (h : Room w A n B) (e : A = some ⟨g, 0, none⟩) (j : Nat) (u : Value) : Room (w.setCell ⟨g, j, none⟩ u) A n B := fun hn => by
  obtain ⟨g', cs, e', hb, hc, hB⟩ := h hn
  rw [e] at e'
  cases e'
  exact ⟨g, _, e, hb.set_ j u, by simpa using hc, hB⟩
set_option maxRecDepth 100000 in
set_option maxHeartbeats 8000000 in
theorem parses_fine {s : ByteArray} {l : List Pc} (hs : s.size ≤ 281474976710656) (hf : Fine s l) (w : World) (hg : Glob w) : Calls Tryd.prog 3 #[.string s] w fun e w' => e = .returned (.bool true) ∧ Below w.heap.size w w' := by
  have HW := wakes_yes w hg
  have hln := hf.len
  go_enter Tryd.func3, Tryd.ntmps3
  go_wp2_with (go_at_call 11; refine HW.mono ?_; rintro e w1 ⟨rfl, hb1⟩)
  have HR := FineP.calls (ref_fine hs hf w1)
  refine HR.mono ?_
  rintro e w2 ⟨A, c, rfl, ho, hL, hb2⟩
  have hbw := (hb1.trans (hb2.mono hb1.size))
  have hbw2 := hbw.alloc hbw.size (.cells #[.int .i64 0, .int .i64 0] 26)
  have hN := Blk.new w2 26 #[.int .i64 0, .int .i64 0]
  have hLa := hL.alloc (Nat.le_refl _) (.cells #[.int .i64 0, .int .i64 0] 26)
  have hB2 : w2.heap.size ≤ (w2.alloc (.cells #[.int .i64 0, .int .i64 0] 26)).heap.size := by simp
  clear ho hL
  go_wp2_with fail
  go_loopw [5] (fun u wr => ∃ r : Nat, u = .int .i64 r ∧ r ≤ 2 ∧ Below (w2.alloc (.cells #[.int .i64 0, .int .i64 0] 26)).heap.size (w2.alloc (.cells #[.int .i64 0, .int .i64 0] 26)) wr) (fun u _ => 2 - (intOf u).toNat)
  case atStart => exact ⟨0, rfl, by omega, Below.refl _ _⟩
  case round =>
    obtain ⟨r, rfl, hr, hb⟩ := hrel
    have hba := hbw2.trans (hb.mono hbw2.size)
    by_cases h2 : r < 2
    · have HP := FineP.calls (parse_fine hs hf wr (hg.below hba hg.size))
      go_wp2_with fail
      refine HP.mono ?_
      rintro e w3 ⟨A3, c3, rfl, ho3, hL3, hb3⟩
      have hb4 := hb.trans (hb3.mono hb.size)
      have hb5 := hb4.alloc hb4.size (.cells #[.int .i64 0, .int .i64 0] 26)
      have hN5 := hN.below hb5 hN.lt
      have c0 := hN5.at_ 0 (v := .int .i64 0) rfl
      have c1 := hN5.at_ 1 (v := .int .i64 0) rfl
      have HE := exact_yes A3 A l c3 c w3.heap.size w2.heap.size (w3.alloc (.cells #[.int .i64 0, .int .i64 0] 26)) (hL3.alloc (Nat.le_refl _) _) (hLa.below (hb5.mono hB2)) (by omega)
      have hbs := hb.size
      have hro := room_of_own (ho3.alloc (.cells #[.int .i64 0, .int .i64 0] 26))
      have hol := ho3.lt
      go_wp2_with (go_at_call 14; refine HE.mono ?_; rintro e w4 ⟨rfl, hb6⟩)
      have hb7 := hb5.trans (hb6.mono hb5.size)
      have hro4 : Room w4 A3 l.length wr.heap.size := fun hn => by
        obtain ⟨g, cs, e, hbk, hc, hB⟩ := hro hn
        exact ⟨g, cs, e, hbk.below hb6 hbk.lt, hc, hB⟩
      clear hb6 HE c0 c1 hb3 hb4 hb5 hN5 hba hb HP hro ho3 hL3 hol
      go_loopw [42] (fun u wx => ∃ i : Nat, u = .int .i64 i ∧ i ≤ l.length ∧ Room wx A3 l.length wr.heap.size ∧ Below (w2.alloc (.cells #[.int .i64 0, .int .i64 0] 26)).heap.size (w2.alloc (.cells #[.int .i64 0, .int .i64 0] 26)) wx) (fun u _ => l.length - (intOf u).toNat)
      case atStart => exact ⟨0, rfl, by omega, hro4, hb7⟩
      case round =>
        obtain ⟨i, rfl, hi, hro, hb⟩ := hrel
        by_cases h : i < l.length
        · obtain ⟨g, u, rfl, hBg, k1, k2⟩ := hro.cell h
          go_wp2_with fail
          go_roundw
          case rel => exact ⟨i + 1, by go_num, by omega, hro.set rfl _ _, hb.setCell (by show _ ≤ g; omega) _⟩
          case measure => simp [intOf]; omega
        · go_wp2_with fail
          go_roundw
          case rel => exact ⟨r + 1, by go_num, by omega, hb⟩
          case measure => simp [intOf]; omega
    · go_wp2_with fail
      have hbx := hb
      have hLx := hLa.below (hb.mono hB2)
      clear hb hba
      have hbxs := hbx.size
      go_loopw [52, 9] (fun u v wx => ∃ i : Nat, u = .int .i64 i ∧ i ≤ l.length ∧ Lists wx w2.heap.size A l ∧ wx.ownsRow (w2.alloc (.cells #[.int .i64 0, .int .i64 0] 26)).heap.size 3 1 v (nums (l.take i)).length (icells (nums (l.take i))) ∧ Below (w2.alloc (.cells #[.int .i64 0, .int .i64 0] 26)).heap.size (w2.alloc (.cells #[.int .i64 0, .int .i64 0] 26)) wx) (fun u _ _ => l.length - (intOf u).toNat)
      case atStart => exact ⟨0, rfl, by omega, hLx, ⟨by simp [icells, nums], Or.inl ⟨rfl, rfl⟩⟩, hbx⟩
      case round =>
        obtain ⟨i, rfl, hi, hL, hown, hb⟩ := hrel
        by_cases h : i < l.length
        · obtain ⟨ad, rfl, b0, c0, c1, c2⟩ := hL.pc h
          have nl := nums_le (l.take i)
          have nt := nums_take h
          have n9 : (nums (l.take i)).length ≤ 1000000000000 := by rw [List.length_take] at nl; omega
          have hown' := hown.alloc (.cells #[.int .i64 l[i].kind, .string l[i].text, .int .i64 l[i].place] 31)
          have hL' := hL.alloc (Nat.le_trans hB2 hb.size) (.cells #[.int .i64 l[i].kind, .string l[i].text, .int .i64 l[i].place] 31)
          have hb' := hb.alloc hb.size (.cells #[.int .i64 l[i].kind, .string l[i].text, .int .i64 l[i].place] 31)
          clear hown hL hb
          by_cases c : l[i].kind = 2
          · have t1 : (l[i].kind == 2) = true := by simpa using c
            rw [if_pos c] at nt
            clear c
            go_wp2_with (first | (at_builtin; refine wpInt rfl (.tmp 59) (.tmp 62) rfl (w2.alloc (.cells #[.int .i64 0, .int .i64 0] 26)).heap.size (wr.alloc (.cells #[.int .i64 l[i].kind, .string l[i].text, .int .i64 l[i].place] 31)) u9 (nums (l.take i)) l[i].place rfl hown' (by simp [go_sem]) n9 hb'.size ?_; intro v1 w1 hown2 hg1))
            have hb1 := (hb'.alloc hb'.size _).grown hg1 (by simp only [World.size_alloc]; have := hb'.size; simp only [World.size_alloc] at this; omega) (fun k hk => (hown'.lt k hk).1)
            have hL1 := (hL'.alloc (Nat.le_trans hB2 hb'.size) _).below ((Below.grown (B := (w2.alloc (.cells #[.int .i64 0, .int .i64 0] 26)).heap.size) (Below.refl _ _) hg1 (by simp only [World.size_alloc]; have := hb'.size; simp only [World.size_alloc] at this; omega) (fun k hk => (hown'.lt k hk).1)).mono hB2)
            clear hg1 hown' hb' hL'
            go_wp2_with fail
            go_roundw
            case rel => exact ⟨i + 1, by go_num, by omega, hL1, by rw [nt]; exact hown2, hb1⟩
            case measure => simp [intOf]; omega
          · have t1 : (l[i].kind == 2) = false := by simpa using c
            rw [if_neg c, List.append_nil] at nt
            clear c
            go_wp2_with fail
            go_roundw
            case rel => exact ⟨i + 1, by go_num, by omega, hL', by rw [nt]; exact hown', hb'⟩
            case measure => simp [intOf]; omega
        · have hi2 : i = l.length := by omega
          subst hi2
          rw [List.take_length] at hown
          have hnn := Nat.le_trans (nums_le l) hln
          obtain ⟨A9, c9, rfl⟩ := ints_form hown
          have hba := hbw2.trans (hb.mono hbw2.size)
          have HP := NumsP.calls (places_fine hs hf _ (hg.below hba hg.size))
          have hN5 := hN.below hb hN.lt
          have hns := hb.size
          go_wp2_with fail
          refine HP.mono ?_
          rintro e w5 ⟨A5, c5, rfl, ho5, hb5⟩
          have hN6 := hN5.below hb5 hN5.lt
          have c0 := hN6.at_ 0 (v := .int .i64 0) rfl
          have hown5 := own_below hown hb5
          have hba5 := hba.trans (hb5.mono hba.size)
          clear hown hb hb5 hL hLx hN5 hN6 HP hba
          go_wp2_with fail
          go_loopw [83] (fun u wx => ∃ i : Nat, u = .int .i64 i ∧ i ≤ (nums l).length ∧ ∃ k, wx = w5.drewN k) (fun u _ => (nums l).length - (intOf u).toNat)
          case atStart => exact ⟨0, rfl, by omega, 0, rfl⟩
          case round =>
            obtain ⟨i, rfl, hi, k, rfl⟩ := hrel
            by_cases h : i < (nums l).length
            · obtain ⟨g5, rfl, _, d5⟩ := ints_at ho5 h
              obtain ⟨g9, rfl, _, d9⟩ := ints_at hown5 h
              go_wp2_with fail
              go_quiet (fail)
              go_wp2_with fail
              go_roundw
              case rel => exact ⟨i + 1, by go_num, by omega, _, rfl⟩
              case measure => simp [intOf]; omega
            · go_wp2_with fail
              refine bodyPost_ret (v := .bool true) ?_ rfl ⟨rfl, blw_drewN hba5 _⟩
              simp [results, Tryd.results3, go_sem]
theorem parses_yes (s : ByteArray) (hs : s.size ≤ 281474976710656) (w : World) (hg : Glob w) : Calls Tryd.prog 3 #[.string s] w fun e w' => e = .returned (.bool true) ∧ Below w.heap.size w w' := by
  rcases outcome s with ⟨l, hf⟩ | ⟨a, b, hf⟩
  · exact parses_fine hs hf w hg
  · exact parses_wrong hs hf w hg
end Go.Proofs.YtbgcngkofbelmaaDoor
