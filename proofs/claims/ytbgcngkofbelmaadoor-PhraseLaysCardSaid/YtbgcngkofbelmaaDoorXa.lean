/-
  Contract of the reference's Check: it tells the same as the layer's. Condition: the pieces' texts are short enough to be in memory.
-/
import Derived.Test.YtbgcngkofbelmaaDoorM
namespace Go.Proofs.YtbgcngkofbelmaaDoor
open Go.RowKit
open Ph
theorem anyBrace_two (t : ByteArray) : anyBrace t = (t.data.toList.contains 123 || t.data.toList.contains 125) := by
  unfold anyBrace
  induction t.data.toList with
  | nil => rfl
  | cons b l ih =>
    rw [List.any_cons, ih, List.contains_cons, List.contains_cons]
    have e1 : (b == (123 : UInt8)) = ((123 : UInt8) == b) := BEq.comm
    have e2 : (b == (125 : UInt8)) = ((125 : UInt8) == b) := BEq.comm
    rw [e1, e2]
    generalize ((123 : UInt8) == b) = x
    generalize ((125 : UInt8) == b) = y
    generalize l.contains 123 = z
    generalize l.contains 125 = u
    revert x y z u; decide
theorem holdsOne (t : ByteArray) (c : UInt8) (b : Bool) (h : t.data.toList.contains c = b) (w : World) : Calls Tryd.prog 43 #[.string t, .string ⟨#[c]⟩] w fun e w' => e = .returned (.bool b) ∧ w' = w := by
  have := Tryd.strings_Contains_one t c w
  rw [← Lib.contains_iff_indexByte, h] at this
  exact this
def textB (p a : Pc) : Bool := !(p.text.toList.isEmpty) && ((brk p.text 0).isNone && (!(p.text.data.toList.contains 123) && (!(p.text.data.toList.contains 125) && decide (a.kind ≠ 1))))
theorem mayB_text {p a : Pc} (k : p.kind = 1) : mayB p a = textB p a := by
  unfold mayB textB
  rw [if_pos k, anyBrace_two]
  generalize p.text.toList.isEmpty = x
  generalize (brk p.text 0).isNone = y
  generalize p.text.data.toList.contains 123 = z
  generalize p.text.data.toList.contains 125 = u
  generalize decide (a.kind ≠ 1) = v
  revert x y z u v; decide
theorem mayB_place {p a : Pc} (k : p.kind = 2) : mayB p a = (decide (0 ≤ p.place) && decide (p.place < 16)) := by
  unfold mayB
  rw [if_neg (by omega), if_pos k]
theorem mayB_none {p a : Pc} (k1 : p.kind ≠ 1) (k2 : p.kind ≠ 2) : mayB p a = false := by
  unfold mayB
  rw [if_neg k1, if_neg k2]
set_option maxRecDepth 100000 in
set_option maxHeartbeats 8000000 in
theorem refCheck (A : Option Addr) (l : List Pc) (c B : Nat) (ht : ∀ p ∈ l, p.text.size ≤ 281474976710656) (hn : l.length ≤ 281474976710656) (w : World) (hL : Lists w B A l) (hB : B ≤ w.heap.size) :
    Calls Tryd.prog 26 #[.slice A l.length c] w fun e w' => e = .returned (faultV (badAt l)) ∧ Below w.heap.size w w' := by
  go_enter Tryd.func26, Tryd.ntmps26
  go_wp2_with fail
  go_loopw [8] (fun u wr => ∃ i : Nat, u = .int .i64 i ∧ i ≤ l.length ∧ Lists wr B A l ∧ Blk wr w.heap.size 43 #[.int .i64 0, .int .i64 0] ∧ Below w.heap.size w wr ∧ badAt l = firstBad l i (l.length - i)) (fun u _ => l.length - (intOf u).toNat)
  case atStart => exact ⟨0, rfl, by omega, hL.alloc hB _, Blk.new _ _ _, (Below.refl _ _).alloc (Nat.le_refl _) _, rfl⟩
  case round =>
    obtain ⟨i, rfl, hi, hL, hF, hb, hg⟩ := hrel
    have n9 := hb.size
    have n8 := hF.lt
    by_cases hlt : i < l.length
    · have go : okAt l i = mayB l[i] (ahead l i) := by unfold okAt; simp [hlt]
      have e1 : l.length - i = (l.length - (i + 1)) + 1 := by omega
      rw [e1, firstBad, go] at hg
      have hsz := ht _ (List.getElem_mem hlt)
      have ha0 : i = 0 → decide ((ahead l i).kind ≠ 1) = true := by rintro rfl; rfl
      have hpc := hL.pc hlt
      have hak : ∀ (k : Nat) (hk : k < l.length), i = k + 1 → ahead l i = l[k] := fun k hk e => by subst e; exact ahead_succ hk
      generalize hP : l[i] = p at *
      obtain ⟨ad, rfl, b0, c0, c1, c2⟩ := hpc
      have hN := Blk.new wr 31 #[.int .i64 p.kind, .string p.text, .int .i64 p.place]
      have d0 := hN.at_ 0 (v := .int .i64 p.kind) rfl
      have d1 := hN.at_ 1 (v := .string p.text) rfl
      have d2 := hN.at_ 2 (v := .int .i64 p.place) rfl
      have hLN := hL.alloc (Nat.le_trans hB n9) (.cells #[.int .i64 p.kind, .string p.text, .int .i64 p.place] 31)
      have hpp := fun (k : Nat) (hk : k < l.length) => hLN.pc hk
      have hFN := hF.alloc (.cells #[.int .i64 p.kind, .string p.text, .int .i64 p.place] 31)
      have hbN := hb.alloc n9 (.cells #[.int .i64 p.kind, .string p.text, .int .i64 p.place] 31)
      have F0 := hFN.at_ 0 (v := .int .i64 0) rfl
      have F1 := hFN.at_ 1 (v := .int .i64 0) rfl
      have Ff := hFN.frozen
      have G0 := hF.at_ 0 (v := .int .i64 0) rfl
      have G1 := hF.at_ 1 (v := .int .i64 0) rfl
      have Gf := hF.frozen
      clear go e1 hP
      by_cases k1 : p.kind = 1
      · have t1 : (p.kind == 1) = true := by simpa using k1
        rw [mayB_text k1] at hg
        unfold textB at hg
        clear k1
        cases hem : p.text.toList.isEmpty with
        | true =>
          rw [hem] at hg
          simp only [Bool.not_true, Bool.false_and, Bool.false_eq_true, if_false] at hg
          go_wp2_with fail
          have X := ((hF.set_ 0 (.int .i64 2)).set_ 1 (.int .i64 i)).alloc (.cells #[.int .i64 p.kind, .string p.text, .int .i64 p.place] 31)
          have x0 := X.at_ 0 (v := .int .i64 2) rfl
          have x1 := X.at_ 1 (v := .int .i64 i) rfl
          refine bodyPost_ret (v := .agg #[.int .i64 2, .int .i64 i]) ?_ rfl ⟨by first | rfl | (rw [hg]; rfl), by first | exact ((hb.setCell (by simp) _).setCell (by simp) _).alloc (by simp; omega) _ | exact (hbN.setCell (by simp) _).setCell (by simp) _⟩
          simp [results, Tryd.results26, go_sem, x0, x1]
        | false =>
          cases hbk : (brk p.text 0).isNone with
          | false =>
            rw [hem, hbk] at hg
            simp only [Bool.false_and, Bool.and_false, Bool.false_eq_true, if_false] at hg
            go_wp2_with (first | (go_at_call 42; refine (right_any p.text hsz _ hbk _).mono ?_; rintro e w1 ⟨rfl, hw⟩; subst hw) | (go_at_call 43; first | (refine (holdsOne p.text 123 _ hc1 _).mono ?_; rintro e w1 ⟨rfl, rfl⟩) | (refine (holdsOne p.text 125 _ hc2 _).mono ?_; rintro e w1 ⟨rfl, rfl⟩)))
            have X := ((hF.set_ 0 (.int .i64 2)).set_ 1 (.int .i64 i)).alloc (.cells #[.int .i64 p.kind, .string p.text, .int .i64 p.place] 31)
            have x0 := X.at_ 0 (v := .int .i64 2) rfl
            have x1 := X.at_ 1 (v := .int .i64 i) rfl
            refine bodyPost_ret (v := .agg #[.int .i64 2, .int .i64 i]) ?_ rfl ⟨by first | rfl | (rw [hg]; rfl), by first | exact ((hb.setCell (by simp) _).setCell (by simp) _).alloc (by simp; omega) _ | exact (hbN.setCell (by simp) _).setCell (by simp) _⟩
            simp [results, Tryd.results26, go_sem, x0, x1]
          | true =>
            cases hc1 : p.text.data.toList.contains 123 with
            | true =>
              rw [hem, hbk, hc1] at hg
              simp only [Bool.not_true, Bool.false_and, Bool.and_false, Bool.false_eq_true, if_false] at hg
              go_wp2_with (first | (go_at_call 42; refine (right_any p.text hsz _ hbk _).mono ?_; rintro e w1 ⟨rfl, hw⟩; subst hw) | (go_at_call 43; first | (refine (holdsOne p.text 123 _ hc1 _).mono ?_; rintro e w1 ⟨rfl, rfl⟩) | (refine (holdsOne p.text 125 _ hc2 _).mono ?_; rintro e w1 ⟨rfl, rfl⟩)))
              have X := ((hF.set_ 0 (.int .i64 2)).set_ 1 (.int .i64 i)).alloc (.cells #[.int .i64 p.kind, .string p.text, .int .i64 p.place] 31)
              have x0 := X.at_ 0 (v := .int .i64 2) rfl
              have x1 := X.at_ 1 (v := .int .i64 i) rfl
              refine bodyPost_ret (v := .agg #[.int .i64 2, .int .i64 i]) ?_ rfl ⟨by first | rfl | (rw [hg]; rfl), by first | exact ((hb.setCell (by simp) _).setCell (by simp) _).alloc (by simp; omega) _ | exact (hbN.setCell (by simp) _).setCell (by simp) _⟩
              simp [results, Tryd.results26, go_sem, x0, x1]
            | false =>
              cases hc2 : p.text.data.toList.contains 125 with
              | true =>
                rw [hem, hbk, hc1, hc2] at hg
                simp only [Bool.not_true, Bool.false_and, Bool.and_false, Bool.false_eq_true, if_false] at hg
                go_wp2_with (first | (go_at_call 42; refine (right_any p.text hsz _ hbk _).mono ?_; rintro e w1 ⟨rfl, hw⟩; subst hw) | (go_at_call 43; first | (refine (holdsOne p.text 123 _ hc1 _).mono ?_; rintro e w1 ⟨rfl, rfl⟩) | (refine (holdsOne p.text 125 _ hc2 _).mono ?_; rintro e w1 ⟨rfl, rfl⟩)))
                have X := ((hF.set_ 0 (.int .i64 2)).set_ 1 (.int .i64 i)).alloc (.cells #[.int .i64 p.kind, .string p.text, .int .i64 p.place] 31)
                have x0 := X.at_ 0 (v := .int .i64 2) rfl
                have x1 := X.at_ 1 (v := .int .i64 i) rfl
                refine bodyPost_ret (v := .agg #[.int .i64 2, .int .i64 i]) ?_ rfl ⟨by first | rfl | (rw [hg]; rfl), by first | exact ((hb.setCell (by simp) _).setCell (by simp) _).alloc (by simp; omega) _ | exact (hbN.setCell (by simp) _).setCell (by simp) _⟩
                simp [results, Tryd.results26, go_sem, x0, x1]
              | false =>
                by_cases hz : i = 0
                · rw [hem, hbk, hc1, hc2, ha0 hz] at hg
                  simp only [Bool.not_false, Bool.and_true, if_true] at hg
                  have t8 : ((i : Int) == 0) = true := by simp [hz]
                  clear ha0 hak hpp hz
                  go_wp2_with (first | (go_at_call 42; refine (right_any p.text hsz _ hbk _).mono ?_; rintro e w1 ⟨rfl, hw⟩; subst hw) | (go_at_call 43; first | (refine (holdsOne p.text 123 _ hc1 _).mono ?_; rintro e w1 ⟨rfl, rfl⟩) | (refine (holdsOne p.text 125 _ hc2 _).mono ?_; rintro e w1 ⟨rfl, rfl⟩)))
                  go_roundw
                  case rel => exact ⟨i + 1, by go_num, by omega, hLN, hFN, hbN, hg⟩
                  case measure => simp [intOf]; omega
                · obtain ⟨k, hk⟩ : ∃ k, i = k + 1 := ⟨i - 1, by omega⟩
                  have hkl : k < l.length := by omega
                  obtain ⟨ad', q1, q2, q3, _, _⟩ := hpp k hkl
                  cases q1
                  rw [hem, hbk, hc1, hc2, hak k hkl hk] at hg
                  clear ha0 hak hpp hz
                  subst hk
                  have t8 : ((k : Int) + 1 == 0) = false := by simp; omega
                  by_cases hq : l[k].kind = 1
                  · have t9 : (l[k].kind != 1) = false := by simpa using hq
                    simp only [Bool.not_false, Bool.true_and, hq, ne_eq, not_true_eq_false, decide_false, Bool.false_eq_true, if_false] at hg
                    clear hq
                    go_wp2_with (first | (go_at_call 42; refine (right_any p.text hsz _ hbk _).mono ?_; rintro e w1 ⟨rfl, hw⟩; subst hw) | (go_at_call 43; first | (refine (holdsOne p.text 123 _ hc1 _).mono ?_; rintro e w1 ⟨rfl, rfl⟩) | (refine (holdsOne p.text 125 _ hc2 _).mono ?_; rintro e w1 ⟨rfl, rfl⟩)))
                    have X := ((hF.set_ 0 (.int .i64 2)).set_ 1 (.int .i64 ((k : Int) + 1))).alloc (.cells #[.int .i64 p.kind, .string p.text, .int .i64 p.place] 31)
                    have x0 := X.at_ 0 (v := .int .i64 2) rfl
                    have x1 := X.at_ 1 (v := .int .i64 ((k : Int) + 1)) rfl
                    refine bodyPost_ret (v := .agg #[.int .i64 2, .int .i64 ((k : Int) + 1)]) ?_ rfl ⟨by first | rfl | (rw [hg]; rfl), by first | exact ((hb.setCell (by simp) _).setCell (by simp) _).alloc (by simp; omega) _ | exact (hbN.setCell (by simp) _).setCell (by simp) _⟩
                    simp [results, Tryd.results26, go_sem, x0, x1]
                  · have t9 : (l[k].kind != 1) = true := by simpa using hq
                    simp only [Bool.not_false, Bool.true_and, hq, ne_eq, not_false_eq_true, decide_true, if_true] at hg
                    clear hq
                    go_wp2_with (first | (go_at_call 42; refine (right_any p.text hsz _ hbk _).mono ?_; rintro e w1 ⟨rfl, hw⟩; subst hw) | (go_at_call 43; first | (refine (holdsOne p.text 123 _ hc1 _).mono ?_; rintro e w1 ⟨rfl, rfl⟩) | (refine (holdsOne p.text 125 _ hc2 _).mono ?_; rintro e w1 ⟨rfl, rfl⟩)))
                    go_roundw
                    case rel => exact ⟨k + 1 + 1, by go_num, by omega, hLN, hFN, hbN, hg⟩
                    case measure => simp [intOf]; omega
      · have t1 : (p.kind == 1) = false := by simpa using k1
        by_cases k2 : p.kind = 2
        · have t2 : (p.kind == 2) = true := by simpa using k2
          rw [mayB_place k2] at hg
          clear k1 k2
          by_cases g0 : 0 ≤ p.place
          · by_cases g1 : p.place < 16
            · simp only [g0, g1, decide_true, Bool.and_true, if_true] at hg
              go_wp2_with fail
              go_roundw
              case rel => exact ⟨i + 1, by go_num, by omega, hLN, hFN, hbN, hg⟩
              case measure => simp [intOf]; omega
            · simp only [g1, decide_false, Bool.and_false, Bool.false_eq_true, if_false] at hg
              go_wp2_with fail
              have X := ((hF.set_ 0 (.int .i64 2)).set_ 1 (.int .i64 i)).alloc (.cells #[.int .i64 p.kind, .string p.text, .int .i64 p.place] 31)
              have x0 := X.at_ 0 (v := .int .i64 2) rfl
              have x1 := X.at_ 1 (v := .int .i64 i) rfl
              refine bodyPost_ret (v := .agg #[.int .i64 2, .int .i64 i]) ?_ rfl ⟨by first | rfl | (rw [hg]; rfl), by first | exact ((hb.setCell (by simp) _).setCell (by simp) _).alloc (by simp; omega) _ | exact (hbN.setCell (by simp) _).setCell (by simp) _⟩
              simp [results, Tryd.results26, go_sem, x0, x1]
          · simp only [g0, decide_false, Bool.false_and, Bool.false_eq_true, if_false] at hg
            go_wp2_with fail
            have X := ((hF.set_ 0 (.int .i64 2)).set_ 1 (.int .i64 i)).alloc (.cells #[.int .i64 p.kind, .string p.text, .int .i64 p.place] 31)
            have x0 := X.at_ 0 (v := .int .i64 2) rfl
            have x1 := X.at_ 1 (v := .int .i64 i) rfl
            refine bodyPost_ret (v := .agg #[.int .i64 2, .int .i64 i]) ?_ rfl ⟨by first | rfl | (rw [hg]; rfl), by first | exact ((hb.setCell (by simp) _).setCell (by simp) _).alloc (by simp; omega) _ | exact (hbN.setCell (by simp) _).setCell (by simp) _⟩
            simp [results, Tryd.results26, go_sem, x0, x1]
        · have t2 : (p.kind == 2) = false := by simpa using k2
          rw [mayB_none k1 k2] at hg
          simp only [Bool.false_eq_true, if_false] at hg
          clear k1 k2
          go_wp2_with fail
          have X := ((hF.set_ 0 (.int .i64 2)).set_ 1 (.int .i64 i)).alloc (.cells #[.int .i64 p.kind, .string p.text, .int .i64 p.place] 31)
          have x0 := X.at_ 0 (v := .int .i64 2) rfl
          have x1 := X.at_ 1 (v := .int .i64 i) rfl
          refine bodyPost_ret (v := .agg #[.int .i64 2, .int .i64 i]) ?_ rfl ⟨by first | rfl | (rw [hg]; rfl), by first | exact ((hb.setCell (by simp) _).setCell (by simp) _).alloc (by simp; omega) _ | exact (hbN.setCell (by simp) _).setCell (by simp) _⟩
          simp [results, Tryd.results26, go_sem, x0, x1]
    · have hi2 : l.length - i = 0 := by omega
      rw [hi2, firstBad] at hg
      have F0 := hF.at_ 0 (v := .int .i64 0) rfl
      have F1 := hF.at_ 1 (v := .int .i64 0) rfl
      have Ff := hF.frozen
      go_wp2_with fail
      refine bodyPost_ret (v := .agg #[.int .i64 0, .int .i64 0]) ?_ rfl ⟨by rw [hg]; rfl, (hb.setCell (by simp) _).setCell (by simp) _⟩
      simp [results, Tryd.results26, go_sem, F0, F1]
end Go.Proofs.YtbgcngkofbelmaaDoor
