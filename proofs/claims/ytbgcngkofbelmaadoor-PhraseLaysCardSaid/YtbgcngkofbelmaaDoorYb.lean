/-
  Contracts of Print and same. Conditions: the pieces' texts are short enough to be in memory.
-/
import Derived.Test.YtbgcngkofbelmaaDoorUh
namespace Go.Proofs.YtbgcngkofbelmaaDoor
open Go.RowKit
open Ph
set_option maxRecDepth 100000 in
theorem clo35 (n : Nat) (h : n < 16) (w : World) : Calls Tryd.prog 35 #[.int .i64 n] w fun e w' => e = .returned (.string (tellP n)) ∧ w' = w := by
  have HI := itoa_small n h w
  have e : tellP (n : Int) = (⟨#[123]⟩ : ByteArray) ++ ⟨(digits n).toArray⟩ ++ ⟨#[125]⟩ := by
    apply ByteArray.ext
    apply Array.ext'
    simp [tellP]
  have hz : (digits n).length ≤ 2 := by unfold digits; split <;> simp
  have hz1 : ¬ 9223372036854775807 < 1 + (digits n).length := by omega
  have hz2 : ¬ 9223372036854775807 < 1 + (digits n).length + 1 := by omega
  rw [e]
  go_enter Tryd.func35, Tryd.ntmps35
  go_wp2_with (go_at_call 36; refine HI.mono ?_; rintro e w1 ⟨rfl, rfl⟩)
  refine bodyPost_ret (v := .string ((⟨#[123]⟩ : ByteArray) ++ ⟨(digits n).toArray⟩ ++ ⟨#[125]⟩)) ?_ rfl ⟨rfl, rfl⟩
  simp [results, Tryd.results35, go_sem]
theorem enters35 (args : Array Value) (w : World) : (callFunc 35 args).run Tryd.prog w = .ok (.enter 35 args) w := by
  simp [callFunc, Tryd.func35, Tryd.f35]
def printP (l : List Pc) : ByteArray × Int :=
  match badAt l with
  | some _ => (⟨#[]⟩, 2)
  | none => if sumT tellP l ≤ 4096 then (catT tellP l, 0) else (⟨#[]⟩, 3)
def printR (l : List Pc) : Value := .tuple #[.string (printP l).1, .int .i64 (printP l).2]
theorem told35 {l : List Pc} (ht : TellsAll l) (h1 : badAt l = none) (W : World) : ToldBy 35 #[] W tellP l := fun p hp => by
  refine ⟨fun k wr _ => ?_, ?_⟩
  · obtain ⟨g0, g1⟩ := bad_none_place h1 hp k
    obtain ⟨n, hn⟩ : ∃ n : Nat, p.place = n := ⟨p.place.toNat, by omega⟩
    rw [hn]
    exact clo35 n (by omega) wr
  · unfold txt
    by_cases k : p.kind = 2
    · rw [if_pos k, tellP_size]
      unfold digits
      split <;> simp
    · rw [if_neg k]; exact (ht p hp).2
set_option maxRecDepth 100000 in
set_option maxHeartbeats 4000000 in
theorem print_any (A : Option Addr) (l : List Pc) (c B : Nat) (ht : TellsAll l) (hn : l.length ≤ 281474976710656) (w : World) (hL : Lists w B A l) (hB : B ≤ w.heap.size) :
    Calls Tryd.prog 18 #[.slice A l.length c] w fun e w' => e = .returned (printR l) ∧ Below w.heap.size w w' := by
  have HC := check_any A l c B ht hn w hL hB
  cases hbad : badAt l with
  | some k =>
    have hR : printR l = .tuple #[.string ⟨#[]⟩, .int .i64 2] := by simp [printR, printP, hbad]
    rw [hbad] at HC
    rw [hR]
    simp only [faultV] at HC
    go_enter Tryd.func18, Tryd.ntmps18
    go_wp2_with (go_at_call 19; refine HC.mono ?_; rintro e w1 ⟨rfl, hb2⟩)
    go_quiet (fail)
    go_wp2_with fail
    refine bodyPost_ret (v := .tuple #[.string ⟨#[]⟩, .int .i64 2]) ?_ rfl ⟨rfl, blw_drewN (hb2.alloc hb2.size _) _⟩
    simp [results, Tryd.results18, go_sem]
  | none =>
    rw [hbad] at HC
    simp only [faultV] at HC
    have hT := fun W => told35 ht hbad W
    have hpn := putAll_nil tellP 4096 l
    have HP := fun w2 h1 h2 => put_any A l c B 4096 35 #[] tellP hn (by decide) w2 h1 h2 (hT w2) enters35
    clear hT
    by_cases hs : sumT tellP l ≤ 4096
    · rw [if_pos hs] at hpn
      rw [hpn] at HP
      simp only [putV] at HP
      have hR : printR l = .tuple #[.string (catT tellP l), .int .i64 0] := by simp [printR, printP, hbad, hs]
      rw [hR]
      generalize catT tellP l = q at *
      clear hpn hs
      go_enter Tryd.func18, Tryd.ntmps18
      go_wp2_with (go_at_call 19; refine HC.mono ?_; rintro e w1 ⟨rfl, hb2⟩)
      have hb3 := hb2.alloc hb2.size (.cells #[.int .i64 0, .int .i64 0] 43)
      refine (HP _ (hL.below (hb3.mono hB)) (Nat.le_trans hB hb3.size)).mono ?_
      rintro e w3 ⟨rfl, hb4⟩
      go_wp2_with fail
      refine bodyPost_ret (v := .tuple #[.string q, .int .i64 0]) ?_ rfl ⟨rfl, hb3.trans (hb4.mono hb3.size)⟩
      simp [results, Tryd.results18, go_sem]
    · rw [if_neg hs] at hpn
      rw [hpn] at HP
      simp only [putV] at HP
      have hR : printR l = .tuple #[.string ⟨#[]⟩, .int .i64 3] := by simp [printR, printP, hbad, hs]
      rw [hR]
      clear hpn hs
      go_enter Tryd.func18, Tryd.ntmps18
      go_wp2_with (go_at_call 19; refine HC.mono ?_; rintro e w1 ⟨rfl, hb2⟩)
      have hb3 := hb2.alloc hb2.size (.cells #[.int .i64 0, .int .i64 0] 43)
      refine (HP _ (hL.below (hb3.mono hB)) (Nat.le_trans hB hb3.size)).mono ?_
      rintro e w3 ⟨rfl, hb4⟩
      go_wp2_with fail
      refine bodyPost_ret (v := .tuple #[.string ⟨#[]⟩, .int .i64 3]) ?_ rfl ⟨rfl, hb3.trans (hb4.mono hb3.size)⟩
      simp [results, Tryd.results18, go_sem]
set_option maxRecDepth 100000 in
set_option maxHeartbeats 8000000 in
theorem same_yes (A A' : Option Addr) (l : List Pc) (c c' B B' : Nat) (w : World) (hk : ∀ p ∈ l, p.kind = 1 ∨ p.kind = 2) (h : Lists w B A (l.map norm)) (h' : Lists w B' A' l) (hl : l.length ≤ 1000000000000) :
    Calls Tryd.prog 20 #[.slice A l.length c, .slice A' l.length c'] w fun e w' => e = .returned (.bool true) ∧ Below w.heap.size w w' := by
  go_enter Tryd.func20, Tryd.ntmps20
  go_wp2_with fail
  go_loopw [13] (fun u wr => ∃ i : Nat, u = .int .i64 i ∧ i ≤ l.length ∧ Lists wr B A (l.map norm) ∧ Lists wr B' A' l ∧ Below w.heap.size w wr) (fun u _ => l.length - (intOf u).toNat)
  case atStart => exact ⟨0, rfl, by omega, h, h', Below.refl _ _⟩
  case round =>
    obtain ⟨i, rfl, hi, g, g', hb⟩ := hrel
    by_cases hlt : i < l.length
    · obtain ⟨ad, rfl, b0, c0, c1, c2⟩ := g.pc (i := i) (by rw [List.length_map]; exact hlt)
      obtain ⟨ad', rfl, b0', d0, d1, d2⟩ := g'.pc hlt
      rw [List.getElem_map] at c0 c1 c2
      rcases hk _ (List.getElem_mem hlt) with k | k
      · have en : norm l[i] = ⟨1, l[i].text, 0⟩ := by unfold norm; rw [if_pos k]
        rw [en] at c0 c1 c2
        rw [k] at d0
        simp only at c0 c1 c2
        clear k en hk
        go_wp2_with fail
        go_quiet (fail)
        go_wp2_with fail
        go_roundw
        case rel => exact ⟨i + 1, by go_num, by omega, g, g', blw_drewN hb _⟩
        case measure => simp [intOf]; omega
      · have en : norm l[i] = ⟨2, ⟨#[]⟩, l[i].place⟩ := by unfold norm; rw [if_neg (by omega)]
        rw [en] at c0 c1 c2
        rw [k] at d0
        simp only at c0 c1 c2
        clear k en hk
        go_wp2_with fail
        go_quiet (fail)
        go_wp2_with fail
        go_roundw
        case rel => exact ⟨i + 1, by go_num, by omega, g, g', blw_drewN hb _⟩
        case measure => simp [intOf]; omega
    · go_wp2_with fail
      refine bodyPost_ret (v := .bool true) ?_ rfl ⟨rfl, hb⟩
      simp [results, Tryd.results20, go_sem]
end Go.Proofs.YtbgcngkofbelmaaDoor
