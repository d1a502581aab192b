/-
  Contracts of Lay's search for a place without an argument. Condition: the slice reads as these pieces.
-/
import Derived.Test.YtbgcngkofbelmaaDoorM
namespace Go.Proofs.YtbgcngkofbelmaaDoor
open Go.RowKit
open Ph
def big (m : Nat) (p : Pc) : Bool := decide (p.kind = 2) && decide ((m : Int) ≤ p.place)
set_option maxRecDepth 100000 in
set_option maxHeartbeats 4000000 in
theorem clo1 (p : Pc) (q : Nat) (AA : Option Addr) (m cc : Nat) (w : World) (hq : w.cell? ⟨q, 0, none⟩ = some (.slice AA m cc)) (hlt : q < w.heap.size) :
    Calls Tryd.prog 39 #[pv p, .pointer (some ⟨q, 0, none⟩)] w fun e w' => e = .returned (.bool (big m p)) ∧ Below w.heap.size w w' := by
  have hq' : (w.alloc (.cells #[.int .i64 p.kind, .string p.text, .int .i64 p.place] 31)).cell? ⟨q, 0, none⟩ = some (.slice AA m cc) := (World.cell?_alloc_lt w _ _ hlt).trans hq
  have hb := (Below.refl w.heap.size w).alloc (Nat.le_refl _) (.cells #[.int .i64 p.kind, .string p.text, .int .i64 p.place] 31)
  clear hq
  unfold pv big
  by_cases k2 : p.kind = 2
  · have t1 : (p.kind == 2) = true := by simpa using k2
    have t2 : decide (p.kind = 2) = true := by simpa using k2
    rw [t2]
    clear k2 t2
    go_enter Tryd.func39, Tryd.ntmps39
    go_wp2_with fail
    refine bodyPost_ret (v := .bool (decide ((m : Int) ≤ p.place))) ?_ rfl ⟨by simp, hb⟩
    simp [results, Tryd.results39, go_sem]
  · have t1 : (p.kind == 2) = false := by simpa using k2
    have t2 : decide (p.kind = 2) = false := by simpa using k2
    rw [t2]
    clear k2 t2
    go_enter Tryd.func39, Tryd.ntmps39
    go_wp2_with fail
    refine bodyPost_ret (v := .bool false) ?_ rfl ⟨by simp, hb⟩
    simp [results, Tryd.results39, go_sem]
theorem any_take {l : List Pc} {m i : Nat} (h : i < l.length) : (l.take (i + 1)).any (big m) = ((l.take i).any (big m) || big m l[i]) := by
  rw [List.take_succ_eq_append_getElem h, List.any_append]; simp
theorem any_hit {l : List Pc} {m i : Nat} (h : i < l.length) (hb : big m l[i] = true) : l.any (big m) = true := List.any_eq_true.2 ⟨_, List.getElem_mem h, hb⟩
def IdxP (l : List Pc) (m : Nat) (w : World) (e : Ending) (w' : World) : Prop := ∃ k : Int, e = .returned (.int .i64 k) ∧ decide (0 ≤ k) = l.any (big m) ∧ Below w.heap.size w w'
set_option maxRecDepth 100000 in
set_option maxHeartbeats 4000000 in
theorem index_func (A : Option Addr) (l : List Pc) (c B q : Nat) (AA : Option Addr) (m cc : Nat) (hn : l.length ≤ 281474976710656) (w : World) (hL : Lists w B A l) (hB : B ≤ w.heap.size) (hq : w.cell? ⟨q, 0, none⟩ = some (.slice AA m cc)) (hlt : q < w.heap.size) :
    Calls Tryd.prog 54 #[.slice A l.length c, .func (.func 39) #[] #[.pointer (some ⟨q, 0, none⟩)]] w (IdxP l m w) := by
  go_enter Tryd.func54, Tryd.ntmps54
  go_wp2_with fail
  go_loopw [8] (fun u wr => ∃ i : Nat, u = .int .i64 i ∧ i ≤ l.length ∧ Lists wr B A l ∧ Below w.heap.size w wr ∧ (l.take i).any (big m) = false) (fun u _ => l.length - (intOf u).toNat)
  case atStart => exact ⟨0, rfl, by omega, hL, Below.refl _ _, by simp⟩
  case round =>
    obtain ⟨i, rfl, hi, hL, hb, hno⟩ := hrel
    by_cases h : i < l.length
    · obtain ⟨ad, rfl, b0, c0, c1, c2⟩ := hL.pc h
      have hc := clo1 l[i] q AA m cc wr ((hb.cell (p := ⟨q, 0, none⟩) hlt).trans hq) (Nat.lt_of_lt_of_le hlt hb.size)
      unfold pv at hc
      have hat := any_take (m := m) h
      cases hbg : big m l[i] with
      | true =>
        rw [hbg] at hc
        have hit := any_hit h hbg
        clear hbg hat hno
        go_wp2_with fail
        refine hc.mono ?_
        rintro e w1 ⟨rfl, hb1⟩
        go_wp2_with fail
        refine bodyPost_ret (v := .int .i64 i) ?_ rfl ⟨i, rfl, by rw [hit]; simp, hb.trans (hb1.mono hb.size)⟩
        simp [results, Tryd.results54, go_sem]
      | false =>
        rw [hbg] at hc
        rw [hno, hbg, Bool.or_self] at hat
        clear hbg hno
        have hg9 := hb.size
        go_wp2_with fail
        refine hc.mono ?_
        rintro e w1 ⟨rfl, hb1⟩
        go_wp2_with fail
        go_roundw
        case rel => exact ⟨i + 1, by go_num, by omega, hL.below (hb1.mono (by omega)), hb.trans (hb1.mono hb.size), hat⟩
        case measure => simp [intOf]; omega
    · have hi2 : i = l.length := by omega
      subst hi2
      rw [List.take_length] at hno
      go_wp2_with fail
      refine bodyPost_ret (v := .int .i64 (-1)) ?_ rfl ⟨-1, rfl, by rw [hno]; rfl, hb⟩
      simp [results, Tryd.results54, go_sem]
set_option maxRecDepth 100000 in
set_option maxHeartbeats 4000000 in
theorem contains_func (A : Option Addr) (l : List Pc) (c B q : Nat) (AA : Option Addr) (m cc : Nat) (hn : l.length ≤ 281474976710656) (w : World) (hL : Lists w B A l) (hB : B ≤ w.heap.size) (hq : w.cell? ⟨q, 0, none⟩ = some (.slice AA m cc)) (hlt : q < w.heap.size) :
    Calls Tryd.prog 38 #[.slice A l.length c, .func (.func 39) #[] #[.pointer (some ⟨q, 0, none⟩)]] w fun e w' => e = .returned (.bool (l.any (big m))) ∧ Below w.heap.size w w' := by
  have HI := index_func A l c B q AA m cc hn w hL hB hq hlt
  go_enter Tryd.func38, Tryd.ntmps38
  go_wp2_with (go_at_call 54; refine HI.mono ?_; rintro e w1 ⟨k, rfl, hk, hb⟩)
  refine bodyPost_ret (v := .bool (l.any (big m))) ?_ rfl ⟨rfl, hb⟩
  simp [results, Tryd.results38, go_sem, ← hk]
end Go.Proofs.YtbgcngkofbelmaaDoor
