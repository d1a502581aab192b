/-
  Contract of Once: whether a phrase has so many places, each once. Condition: the text is short enough to be in memory.
-/
import Derived.Test.YtbgcngkofbelmaaDoorP
import Derived.Sort.OwnSortedInts
namespace Go.Proofs.YtbgcngkofbelmaaDoor
open Go.RowKit
open Ph
def srt (xs : List Int) : List Int := xs.mergeSort fun x y => decide (x ≤ y)
theorem srt_len (xs : List Int) : (srt xs).length = xs.length := by simp [srt]
def counts (ts : List Int) : Bool := (List.range ts.length).all fun i => ts.getD i (-1) == (i : Int)
theorem counts_no {ts : List Int} {i : Nat} (h : i < ts.length) (hn : ts[i] ≠ i) : counts ts = false := by
  unfold counts
  refine List.all_eq_false.2 ⟨i, by simpa using h, ?_⟩
  simpa [h] using hn
theorem counts_yes {ts : List Int} (h : ∀ i (hi : i < ts.length), ts[i] = i) : counts ts = true := by
  unfold counts
  refine List.all_eq_true.2 fun i hi => ?_
  have hi' : i < ts.length := by simpa using hi
  simpa [hi'] using h i hi'
def onceB (l : List Pc) (n : Int) : Bool := decide (((nums l).length : Int) = n) && counts (srt (nums l))
theorem NumsP.calls {f : Nat} {s : ByteArray} {l : List Pc} {w : World} (h : Calls Tryd.prog f #[.string s] w (NumsP l w)) :
    Calls Tryd.prog f #[.string s] w fun e w' => ∃ A c, e = .returned (.tuple #[.slice A (nums l).length c, .int .i64 0]) ∧ w'.ownsRow w.heap.size 3 1 (.slice A (nums l).length c) (nums l).length (icells (nums l)) ∧ Below w.heap.size w w' :=
  h.mono fun e w' ⟨v, he, ho, hb⟩ => by
    rcases Nat.eq_zero_or_pos (nums l).length with z | z
    · rcases ho.2 with ⟨rfl, _⟩ | ⟨g, cap, cur, rfl, _⟩
      · exact ⟨none, 0, by rw [z]; exact he, by rw [z] at ho ⊢; exact ho, hb⟩
      · exact ⟨_, _, he, ho, hb⟩
    · obtain ⟨g, cap, rfl, _, hlt⟩ := ho.form z
      exact ⟨_, _, he, ho, hb⟩
set_option maxRecDepth 100000 in
set_option maxHeartbeats 4000000 in
theorem once_wrong {s : ByteArray} {a b : Int} (hs : s.size ≤ 281474976710656) (hf : Wrong s a b) (n : Int) (w : World) (hg : Glob w) : Calls Tryd.prog 16 #[.string s, .int .i64 n] w fun e w' => e = .returned (.bool false) ∧ Below w.heap.size w w' := by
  have HP := places_wrong hs hf w hg
  unfold NoNums at HP
  have t1 : (a != 0) = true := by simpa using hf.nz
  clear hf
  go_enter Tryd.func16, Tryd.ntmps16
  go_wp2_with (go_at_call 15; refine HP.mono ?_; rintro e w' ⟨rfl, hb⟩)
  refine bodyPost_ret (v := .bool false) ?_ rfl ⟨rfl, hb⟩
  simp [results, Tryd.results16, go_sem]
set_option maxRecDepth 100000 in
set_option maxHeartbeats 4000000 in
theorem once_fine {s : ByteArray} {l : List Pc} (hs : s.size ≤ 281474976710656) (hf : Fine s l) (n : Int) (w : World) (hg : Glob w) : Calls Tryd.prog 16 #[.string s, .int .i64 n] w fun e w' => e = .returned (.bool (onceB l n)) ∧ Below w.heap.size w w' := by
  have HP := NumsP.calls (places_fine hs hf w hg)
  have hln := Nat.le_trans (nums_le l) hf.len
  clear hf
  unfold onceB
  by_cases hn : ((nums l).length : Int) = n
  · subst hn
    rw [decide_eq_true rfl, Bool.true_and]
    have hsl := srt_len (nums l)
    by_cases h0 : (nums l).length = 0
    · have hc : counts (srt (nums l)) = true := counts_yes fun i hi => by omega
      rw [hc]
      rw [h0] at HP ⊢
      go_enter Tryd.func16, Tryd.ntmps16
      go_wp2_with (first | (go_at_call 15; refine HP.mono ?_; rintro e w' ⟨A, c, rfl, ho, hb⟩) | (go_at_call 33; refine (Tryd.slices_Sort_int_none A c _).mono ?_; rintro e w2 ⟨rfl, rfl⟩))
      go_loopw [26] (fun u wr => u = .int .i64 0 ∧ Below w.heap.size w wr) (fun u _ => 0)
      case atStart => exact ⟨rfl, hb⟩
      case round =>
        obtain ⟨rfl, hb⟩ := hrel
        go_wp2_with fail
        refine bodyPost_ret (v := .bool true) ?_ rfl ⟨rfl, hb⟩
        simp [results, Tryd.results16, go_sem]
    · generalize hts : srt (nums l) = ts at hsl ⊢
      go_enter Tryd.func16, Tryd.ntmps16
      go_wp2_with (go_at_call 15; refine HP.mono ?_; rintro e w' ⟨A, c, rfl, ho, hb⟩)
      rcases ho.2 with ⟨_, h9⟩ | ⟨g, cap, cur, h9, hbase, hbk, h1, h2, h3, h4⟩
      · exact absurd h9 h0
      · cases h9
        have hH := holds_of_blockI (ss := nums l) hbk (by simpa [icells] using h4)
        have hgl := (Array.getElem?_eq_some_iff.1 hbk).1
        have HS := Tryd.slices_Sort_int g 0 c (nums l) w' hH hgl (by omega)
        rw [show ((nums l).mergeSort fun x y => decide (x ≤ y)) = ts from hts] at HS
        refine HS.mono ?_
        rintro e w2 ⟨rfl, nn, os, rfl⟩
        have ho2 := ownsRow_sortedI (n := nn) (os := os) hsl hbase hbk h1 h2 h3
        have hb2 := hb.grown (grownBy_sortedI (n := nn) (os := os) ts.toArray) hb.size (fun j hj => by cases hj; exact hbase)
        clear HS hH hb h4 ho hbk hts
        generalize Sort.grow (Sort.putRow (Value.int .i64) (Sort.ahead w' nn) g 0 ts.toArray) os = w2 at ho2 hb2
        rw [← hsl] at ho2 hln h0 ⊢
        go_wp2_with fail
        go_loopw [26] (fun u wr => ∃ i : Nat, u = .int .i64 i ∧ i ≤ ts.length ∧ (∀ j (hj : j < ts.length), j < i → ts[j] = j) ∧ Below w.heap.size w wr ∧ wr.ownsRow w.heap.size 3 1 (.slice (some ⟨g, 0, none⟩) ts.length c) ts.length (ts.map (Value.int .i64))) (fun u _ => ts.length - (intOf u).toNat)
        case atStart => exact ⟨0, rfl, by omega, fun j hj h => by omega, hb2, ho2⟩
        case round =>
          obtain ⟨i, rfl, hi, hall, hb, ho⟩ := hrel
          by_cases h : i < ts.length
          · have hc : wr.cell? ⟨g, i, none⟩ = some (.int .i64 ts[i]) := by rw [ho.cellAt i (by omega)]; simp [h]
            by_cases e1 : ts[i] = i
            · have t1 : (ts[i] != (i : Int)) = false := by simpa using e1
              have hall2 : ∀ j (hj : j < ts.length), j < i + 1 → ts[j] = j := fun j hj hji => by
                rcases Nat.lt_or_ge j i with g | g
                · exact hall j hj g
                · obtain rfl : i = j := by omega
                  exact e1
              clear e1 hall
              go_wp2_with fail
              go_roundw
              case rel => exact ⟨i + 1, by go_num, by omega, hall2, hb, ho⟩
              case measure => simp [intOf]; omega
            · have t1 : (ts[i] != (i : Int)) = true := by simpa using e1
              have hc2 : counts ts = false := counts_no h e1
              clear e1 hall
              go_wp2_with fail
              refine bodyPost_ret (v := .bool false) ?_ rfl ⟨by rw [hc2], hb⟩
              simp [results, Tryd.results16, go_sem]
          · have hc : counts ts = true := counts_yes fun j hj => hall j hj (by omega)
            go_wp2_with fail
            refine bodyPost_ret (v := .bool true) ?_ rfl ⟨by rw [hc], hb⟩
            simp [results, Tryd.results16, go_sem]
  · rw [decide_eq_false hn, Bool.false_and]
    go_enter Tryd.func16, Tryd.ntmps16
    go_wp2_with (go_at_call 15; refine HP.mono ?_; rintro e w' ⟨A, c, rfl, ho, hb⟩)
    refine bodyPost_ret (v := .bool false) ?_ rfl ⟨rfl, hb⟩
    simp [results, Tryd.results16, go_sem]
end Go.Proofs.YtbgcngkofbelmaaDoor
