/-
  The walk of PhrasePlaces: it answers yes. Conditions: the text is short enough to be in memory; the two listed error variables are laid.
-/
import Derived.Test.YtbgcngkofbelmaaDoorUd
import Derived.Test.YtbgcngkofbelmaaDoorS
namespace Go.Proofs.YtbgcngkofbelmaaDoor
open Go.RowKit
open Ph
/-- what the parser's pieces are: a text, or a place below 16 -/
def Piece (p : Pc) : Prop := (p.kind = 1 ∧ p.place = 0) ∨ (p.kind = 2 ∧ p.text = ⟨#[]⟩ ∧ 0 ≤ p.place ∧ p.place < 16)
theorem par_pieces {s : ByteArray} {i : Nat} {r : Except Nat (List Pc)} (h : Par s i r) : ∀ l, r = .ok l → ∀ p ∈ l, Piece p := by
  induction h with
  | fin i h => rintro l ⟨⟩ p hp; cases hp
  | opens i j n r h h1 hj hj' h2 h3 hp hr ih =>
    intro l e
    cases r with
    | error k => cases e
    | ok m =>
      simp only [pre, Except.ok.injEq] at e
      subst e
      intro p hm
      rcases List.mem_cons.1 hm with rfl | hm
      · have := (place_some hp).1
        exact Or.inr ⟨rfl, rfl, by show (0 : Int) ≤ n; omega, by show (n : Int) < 16; omega⟩
      · exact ih m rfl p hm
  | noclose i h h1 h3 => rintro l ⟨⟩
  | badplace i j h h1 hj hj' h2 h3 hp => rintro l ⟨⟩
  | closes i h h1 => rintro l ⟨⟩
  | text i k r h hk hk' h1 h2 hr ih =>
    intro l e
    cases r with
    | error k => cases e
    | ok m =>
      simp only [pre, Except.ok.injEq] at e
      subst e
      intro p hm
      rcases List.mem_cons.1 hm with rfl | hm
      · exact Or.inl ⟨rfl, rfl⟩
      · exact ih m rfl p hm
theorem Fine.nums {s : ByteArray} {l : List Pc} (h : Fine s l) : ∀ x ∈ nums l, 0 ≤ x ∧ x < 16 := by
  intro x hx
  unfold YtbgcngkofbelmaaDoor.nums at hx
  rw [List.mem_map] at hx
  obtain ⟨p, hp, rfl⟩ := hx
  rw [List.mem_filter] at hp
  rcases par_pieces h.2.2 l rfl p hp.1 with ⟨k, _⟩ | ⟨_, _, g⟩
  · have : p.kind = 2 := by simpa using hp.2
    omega
  · exact g
set_option maxRecDepth 100000 in
set_option maxHeartbeats 4000000 in
theorem pplaces_wrong {s : ByteArray} {a b : Int} (hs : s.size ≤ 281474976710656) (hf : Wrong s a b) (n : Int) (w : World) (hg : Glob w) : Calls Tryd.prog 6 #[.string s, .int .i64 n] w fun e w' => e = .returned (.bool true) ∧ Below w.heap.size w w' := by
  have HW := wakes_yes w hg
  have t1 : (a != 0) = true := by simpa using hf.nz
  go_enter Tryd.func6, Tryd.ntmps6
  go_wp2_with (go_at_call 11; refine HW.mono ?_; rintro e w1 ⟨rfl, hb1⟩)
  have HP := places_wrong hs hf w1 (hg.below hb1 hg.size)
  unfold NoNums at HP
  refine HP.mono ?_
  rintro e w2 ⟨rfl, hb2⟩
  have hb3 := hb1.trans (hb2.mono hb1.size)
  have HO := once_wrong hs hf n w2 (hg.below hb3 hg.size)
  go_wp2_with (go_at_call 16; refine HO.mono ?_; rintro e w3 ⟨rfl, hb4⟩)
  refine bodyPost_ret (v := .bool true) ?_ rfl ⟨rfl, hb3.trans (hb4.mono hb3.size)⟩
  simp [results, Tryd.results6, go_sem]
set_option maxRecDepth 100000 in
set_option maxHeartbeats 8000000 in
theorem pplaces_fine {s : ByteArray} {l : List Pc} (hs : s.size ≤ 281474976710656) (hf : Fine s l) (n : Int) (w : World) (hg : Glob w) : Calls Tryd.prog 6 #[.string s, .int .i64 n] w fun e w' => e = .returned (.bool true) ∧ Below w.heap.size w w' := by
  have HW := wakes_yes w hg
  have hln := Nat.le_trans (nums_le l) hf.len
  have hnb := hf.nums
  have hcf := counts_flag (xs := nums l) fun x hx => (hnb x hx).1
  go_enter Tryd.func6, Tryd.ntmps6
  go_wp2_with (go_at_call 11; refine HW.mono ?_; rintro e w1 ⟨rfl, hb1⟩)
  have HP := NumsP.calls (places_fine hs hf w1 (hg.below hb1 hg.size))
  refine HP.mono ?_
  rintro e w2 ⟨A, c, rfl, ho, hb2⟩
  have hb3 := hb1.trans (hb2.mono hb1.size)
  have HO := once_fine hs hf (nums l).length w2 (hg.below hb3 hg.size)
  have HO2 := fun w3 h => once_fine hs hf n w3 (hg.below (w1 := w3) h hg.size)
  have e1 : onceB l (nums l).length = flag (nums l) (nums l).length := by unfold onceB; rw [decide_eq_true rfl, Bool.true_and, hcf]
  have e2 : ¬ ((nums l).length : Int) = n → onceB l n = false := fun h => by unfold onceB; rw [decide_eq_false h, Bool.false_and]
  rw [e1] at HO
  clear hcf e1 HP HW hf
  generalize nums l = xs at *
  go_wp2_with fail
  go_loopw [32, 7] (fun u v wr => ∃ i : Nat, u = .int .i64 i ∧ v = .bool (flag xs i) ∧ i ≤ xs.length ∧ wr = w2) (fun u _ _ => xs.length - (intOf u).toNat)
  case atStart => exact ⟨0, rfl, rfl, by omega, rfl⟩
  case round =>
    obtain ⟨i, rfl, rfl, hi, rfl⟩ := hrel
    by_cases h : i < xs.length
    · have hic : i ≤ c := by
        rcases ho.2 with ⟨_, h9⟩ | ⟨g, cap, cur, h9, _, _, h1, _⟩
        · omega
        · cases h9; omega
      obtain ⟨g, rfl, _, d0⟩ := ints_at ho h
      obtain ⟨q0, q1⟩ := hnb _ (List.getElem_mem h)
      have ei : xs.getD i 0 = xs[i] := by simp [h]
      cases hfl : flag xs i with
      | true =>
        go_wp2_with fail
        go_loopw [54, 7] (fun u v wx => ∃ k : Nat, u = .int .i64 k ∧ v = .bool (inner xs i (true && decide (xs[i] < xs.length)) k) ∧ k ≤ i ∧ wx = wr) (fun u _ _ => i - (intOf u).toNat)
        case atStart => exact ⟨0, rfl, by rw [inner]; simp, by omega, rfl⟩
        case round =>
          obtain ⟨k, rfl, rfl, hk, rfl⟩ := hrel
          by_cases hki : k < i
          · obtain ⟨g', hgg, _, d1⟩ := ints_at ho (i := k) (by omega)
            cases hgg
            have ek : xs.getD k 0 = xs[k] := by simp [show k < xs.length by omega]
            cases hin : inner xs i (true && decide (xs[i] < xs.length)) k with
            | true =>
              go_wp2_with fail
              go_roundw
              case rel => exact ⟨k + 1, by go_num, by rw [inner, hin, ei, ek]; simp [bne]; rfl, by omega, trivial⟩
              case measure => simp [intOf]; omega
            | false =>
              go_wp2_with fail
              go_roundw
              case rel => exact ⟨k + 1, by go_num, by rw [inner, hin]; rfl, by omega, trivial⟩
              case measure => simp [intOf]; omega
          · obtain rfl : k = i := by omega
            go_wp2_with fail
            go_roundw
            case rel => exact ⟨k + 1, by go_num, by rw [flag, hfl, ei], by omega, trivial⟩
            case measure => simp [intOf]; omega
      | false =>
        go_wp2_with fail
        go_loopw [54, 7] (fun u v wx => ∃ k : Nat, u = .int .i64 k ∧ v = .bool (inner xs i (false && decide (xs[i] < xs.length)) k) ∧ k ≤ i ∧ wx = wr) (fun u _ _ => i - (intOf u).toNat)
        case atStart => exact ⟨0, rfl, rfl, by omega, rfl⟩
        case round =>
          obtain ⟨k, rfl, rfl, hk, rfl⟩ := hrel
          by_cases hki : k < i
          · obtain ⟨g', hgg, _, d1⟩ := ints_at ho (i := k) (by omega)
            cases hgg
            have ek : xs.getD k 0 = xs[k] := by simp [show k < xs.length by omega]
            cases hin : inner xs i (false && decide (xs[i] < xs.length)) k with
            | true =>
              go_wp2_with fail
              go_roundw
              case rel => exact ⟨k + 1, by go_num, by rw [inner, hin, ei, ek]; simp [bne]; rfl, by omega, trivial⟩
              case measure => simp [intOf]; omega
            | false =>
              go_wp2_with fail
              go_roundw
              case rel => exact ⟨k + 1, by go_num, by rw [inner, hin]; rfl, by omega, trivial⟩
              case measure => simp [intOf]; omega
          · obtain rfl : k = i := by omega
            go_wp2_with fail
            go_roundw
            case rel => exact ⟨k + 1, by go_num, by rw [flag, hfl, ei], by omega, trivial⟩
            case measure => simp [intOf]; omega
    · obtain rfl : i = xs.length := by omega
      cases hfl : flag xs xs.length with
      | true =>
        rw [hfl] at HO
        by_cases hn : (xs.length : Int) = n
        · subst hn
          go_wp2_with (first | (go_at_call 16; refine HO.mono ?_; rintro e w3 ⟨rfl, hb4⟩))
          refine bodyPost_ret (v := .bool true) ?_ rfl ⟨rfl, hb3.trans (hb4.mono hb3.size)⟩
          simp [results, Tryd.results6, go_sem]
        · have t2 : (n == (xs.length : Int)) = false := by simpa using fun h => hn h.symm
          have e3 := e2 hn
          rw [e3] at HO2
          clear e2 e3
          go_wp2_with fail
          refine HO.mono ?_
          rintro e w3 ⟨rfl, hb4⟩
          have hb5 := hb3.trans (hb4.mono hb3.size)
          have HO3 := HO2 w3 hb5
          go_wp2_with (go_at_call 16; refine HO3.mono ?_; rintro e w4 ⟨rfl, hb6⟩)
          refine bodyPost_ret (v := .bool true) ?_ rfl ⟨rfl, hb5.trans (hb6.mono hb5.size)⟩
          simp [results, Tryd.results6, go_sem]
      | false =>
        rw [hfl] at HO
        by_cases hn : (xs.length : Int) = n
        · subst hn
          go_wp2_with (first | (go_at_call 16; refine HO.mono ?_; rintro e w3 ⟨rfl, hb4⟩))
          refine bodyPost_ret (v := .bool true) ?_ rfl ⟨rfl, hb3.trans (hb4.mono hb3.size)⟩
          simp [results, Tryd.results6, go_sem]
        · have t2 : (n == (xs.length : Int)) = false := by simpa using fun h => hn h.symm
          have e3 := e2 hn
          rw [e3] at HO2
          clear e2 e3
          go_wp2_with fail
          refine HO.mono ?_
          rintro e w3 ⟨rfl, hb4⟩
          have hb5 := hb3.trans (hb4.mono hb3.size)
          have HO3 := HO2 w3 hb5
          go_wp2_with (go_at_call 16; refine HO3.mono ?_; rintro e w4 ⟨rfl, hb6⟩)
          refine bodyPost_ret (v := .bool true) ?_ rfl ⟨rfl, hb5.trans (hb6.mono hb5.size)⟩
          simp [results, Tryd.results6, go_sem]
end Go.Proofs.YtbgcngkofbelmaaDoor
