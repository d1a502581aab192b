/-
  Contract of Check: all pieces may stand, or the first that may not. Condition: strings.ContainsAny's contract at the pieces' texts.
-/
import Derived.Test.YtbgcngkofbelmaaDoorL
namespace Go.Proofs.YtbgcngkofbelmaaDoor
open Go.RowKit
open Ph
def pz : Pc := ⟨0, ⟨#[]⟩, 0⟩
def ahead (l : List Pc) (i : Nat) : Pc := (pz :: l).getD i pz
theorem ahead_succ {l : List Pc} {i : Nat} (h : i < l.length) : ahead l (i + 1) = l[i] := by
  unfold ahead; simp [h]
def okAt (l : List Pc) (i : Nat) : Bool := mayB (l.getD i pz) (ahead l i)
def TellsAll (l : List Pc) : Prop := ∀ p ∈ l, (brk p.text 0 = none → Tells p.text) ∧ p.text.size ≤ 281474976710656
def firstBad (l : List Pc) : Nat → Nat → Option Nat
  | _, 0 => none
  | i, n + 1 => if okAt l i then firstBad l (i + 1) n else some i
def badAt (l : List Pc) : Option Nat := firstBad l 0 l.length
def faultV : Option Nat → Value
  | some k => .agg #[.int .i64 2, .int .i64 k]
  | none => .agg #[.int .i64 0, .int .i64 0]
set_option maxRecDepth 100000 in
set_option maxHeartbeats 4000000 in
theorem check_any (A : Option Addr) (l : List Pc) (c B : Nat) (ht : TellsAll l) (hn : l.length ≤ 281474976710656) (w : World) (hL : Lists w B A l) (hB : B ≤ w.heap.size) :
    Calls Tryd.prog 19 #[.slice A l.length c] w fun e w' => e = .returned (faultV (badAt l)) ∧ Below w.heap.size w w' := by
  go_enter Tryd.func19, Tryd.ntmps19
  go_wp2_with fail
  go_loopw [8] (fun u wr => ∃ i : Nat, u = .int .i64 i ∧ i ≤ l.length ∧ Lists wr B A l ∧ Blk wr (w.heap.size + 1) 31 #[.int .i64 (ahead l i).kind, .string (ahead l i).text, .int .i64 (ahead l i).place] ∧ Blk wr w.heap.size 43 #[.int .i64 0, .int .i64 0] ∧ Below w.heap.size w wr ∧ badAt l = firstBad l i (l.length - i)) (fun u _ => l.length - (intOf u).toNat)
  case atStart =>
    exact ⟨0, rfl, by omega, (hL.alloc hB _).alloc (by simp; omega) _, by have := Blk.new (w.alloc (.cells #[.int .i64 0, .int .i64 0] 43)) 31 #[.int .i64 0, .string ⟨#[]⟩, .int .i64 0]; simpa [ahead, pz] using this, (Blk.new _ _ _).alloc _, ((Below.refl _ _).alloc (Nat.le_refl _) _).alloc (by simp) _, rfl⟩
  case round =>
    obtain ⟨i, rfl, hi, hL, hA, hF, hb, hg⟩ := hrel
    by_cases hlt : i < l.length
    · obtain ⟨ad, rfl, b0, c0, c1, c2⟩ := hL.pc hlt
      have hm := may_any l[i] (ahead l i) (ht _ (List.getElem_mem hlt)).1 (Nat.le_trans (ht _ (List.getElem_mem hlt)).2 (by decide)) (wr.alloc (.cells #[.int .i64 l[i].kind, .string l[i].text, .int .i64 l[i].place] 31))
      unfold pv at hm
      have hA1 := hA.alloc (.cells #[.int .i64 l[i].kind, .string l[i].text, .int .i64 l[i].place] 31)
      have hF1 := hF.alloc (.cells #[.int .i64 l[i].kind, .string l[i].text, .int .i64 l[i].place] 31)
      have hN1 := Blk.new wr 31 #[.int .i64 l[i].kind, .string l[i].text, .int .i64 l[i].place]
      have hL1 := hL.alloc (Nat.le_trans hB hb.size) (.cells #[.int .i64 l[i].kind, .string l[i].text, .int .i64 l[i].place] 31)
      have hbb := hb.alloc hb.size (.cells #[.int .i64 l[i].kind, .string l[i].text, .int .i64 l[i].place] 31)
      have a0 := hA1.at_ 0 (v := .int .i64 (ahead l i).kind) rfl
      have a1 := hA1.at_ 1 (v := .string (ahead l i).text) rfl
      have a2 := hA1.at_ 2 (v := .int .i64 (ahead l i).place) rfl
      have n9 := hb.size
      have n8 := hA.lt
      have go : okAt l i = mayB l[i] (ahead l i) := by unfold okAt; simp [hlt]
      have e1 : l.length - i = (l.length - (i + 1)) + 1 := by omega
      rw [e1, firstBad, go] at hg
      clear hL go e1
      cases hmb : mayB l[i] (ahead l i) with
      | true =>
        rw [hmb] at hm hg
        clear hmb
        go_wp2_with (go_at_call 37; refine hm.mono ?_; rintro e w1 ⟨rfl, hb1⟩; have N2 := hN1.below hb1 (by simp); have M0 := N2.at_ 0 (v := .int .i64 l[i].kind) rfl; have M1 := N2.at_ 1 (v := .string l[i].text) rfl; have M2 := N2.at_ 2 (v := .int .i64 l[i].place) rfl; have A2 := hA1.below hb1 hA1.lt; have A20 := A2.at_ 0 (v := .int .i64 (ahead l i).kind) rfl; have A21 := A2.at_ 1 (v := .string (ahead l i).text) rfl; have A22 := A2.at_ 2 (v := .int .i64 (ahead l i).place) rfl; have A2f := A2.frozen)
        have X1 := ((A2.set_ 0 (.int .i64 l[i].kind)).set_ 1 (.string l[i].text)).set_ 2 (.int .i64 l[i].place)
        have X2 := (((hF1.below hb1 hF1.lt).far (p := ⟨w.heap.size + 1, 0, none⟩) (by simp) (.int .i64 l[i].kind)).far (p := ⟨w.heap.size + 1, 1, none⟩) (by simp) (.string l[i].text)).far (p := ⟨w.heap.size + 1, 2, none⟩) (by simp) (.int .i64 l[i].place)
        have X3 := (((hbb.trans (hb1.mono hbb.size)).setCell (p := ⟨w.heap.size + 1, 0, none⟩) (by simp) (.int .i64 l[i].kind)).setCell (p := ⟨w.heap.size + 1, 1, none⟩) (by simp) (.string l[i].text)).setCell (p := ⟨w.heap.size + 1, 2, none⟩) (by simp) (.int .i64 l[i].place)
        have X4 := hL1.below ((((hb1.mono (Nat.le_trans hB hbb.size)).setCell (p := ⟨w.heap.size + 1, 0, none⟩) (by show B ≤ w.heap.size + 1; omega) (.int .i64 l[i].kind)).setCell (p := ⟨w.heap.size + 1, 1, none⟩) (by show B ≤ w.heap.size + 1; omega) (.string l[i].text)).setCell (p := ⟨w.heap.size + 1, 2, none⟩) (by show B ≤ w.heap.size + 1; omega) (.int .i64 l[i].place))
        clear A2 hb1 hA1 hF1 hbb hL1 hN1
        go_roundw
        case rel => exact ⟨i + 1, by go_num, by omega, X4, by rw [ahead_succ hlt]; exact X1, X2, X3, hg⟩
        case measure => simp [intOf]; omega
      | false =>
        rw [hmb] at hm hg
        clear hmb
        go_wp2_with (go_at_call 37; refine hm.mono ?_; rintro e w1 ⟨rfl, hb1⟩; have F2 := hF1.below hb1 hF1.lt; have F20 := F2.at_ 0 (v := .int .i64 0) rfl; have F21 := F2.at_ 1 (v := .int .i64 0) rfl; have F2f := F2.frozen)
        have X3 := ((hbb.trans (hb1.mono hbb.size)).setCell (p := ⟨w.heap.size, 0, none⟩) (by simp) (.int .i64 2)).setCell (p := ⟨w.heap.size, 1, none⟩) (by simp) (.int .i64 i)
        refine bodyPost_ret (v := .agg #[.int .i64 2, .int .i64 i]) ?_ rfl ⟨by rw [hg]; rfl, X3⟩
        simp [results, Tryd.results19, go_sem, F20, F21]
    · have hi2 : l.length - i = 0 := by omega
      rw [hi2, firstBad] at hg
      have F20 := hF.at_ 0 (v := .int .i64 0) rfl
      have F21 := hF.at_ 1 (v := .int .i64 0) rfl
      have F2f := hF.frozen
      go_wp2_with fail
      refine bodyPost_ret (v := .agg #[.int .i64 0, .int .i64 0]) ?_ rfl ⟨by rw [hg]; rfl, (hb.setCell (by simp) _).setCell (by simp) _⟩
      simp [results, Tryd.results19, go_sem, F20, F21]
end Go.Proofs.YtbgcngkofbelmaaDoor
