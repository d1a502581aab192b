/-
  exact says yes to the same pieces, in memory twice. Condition: both slices read as these pieces.
-/
import Derived.Test.YtbgcngkofbelmaaDoorI
namespace Go.Proofs.YtbgcngkofbelmaaDoor
open Go.RowKit
open Ph
def Lists (w : World) (B : Nat) (A : Option Addr) (l : List Pc) : Prop :=
  0 < l.length → ∃ ad : Addr, A = some ad ∧ ad.block < B ∧ ∀ j u, (pcells l)[j]? = some u → w.cell? (ad.add j) = some u
theorem Lists.of_own {w : World} {base : Nat} {v : Value} {l : List Pc} (h : w.ownsRow base 31 3 v l.length (pcells l)) : ∃ A c, v = .slice A l.length c ∧ Lists w w.heap.size A l := by
  rcases Nat.eq_zero_or_pos l.length with z | z
  · rcases h.2 with ⟨rfl, _⟩ | ⟨g, cap, cur, rfl, _⟩
    · exact ⟨none, 0, by rw [z], fun hl => by omega⟩
    · exact ⟨_, _, rfl, fun hl => by omega⟩
  · obtain ⟨g, cap, rfl, _, hlt⟩ := h.form z
    exact ⟨_, _, rfl, (Reads.of_own h).2⟩
theorem Lists.pc {w : World} {B : Nat} {A : Option Addr} {l : List Pc} (h : Lists w B A l) {i : Nat} (hi : i < l.length) :
    ∃ ad : Addr, A = some ad ∧ ad.block < B ∧ w.cell? (ad.add (i * 3)) = some (.int .i64 l[i].kind) ∧ w.cell? ⟨(ad.add (i * 3)).block, (ad.add (i * 3)).off + 1, none⟩ = some (.string l[i].text) ∧
      w.cell? ⟨(ad.add (i * 3)).block, (ad.add (i * 3)).off + 2, none⟩ = some (.int .i64 l[i].place) := by
  obtain ⟨ad, e, hb, hc⟩ := h (by omega)
  obtain ⟨h0, h1, h2⟩ := pcells_get hi
  refine ⟨ad, e, hb, hc _ _ h0, ?_, ?_⟩
  · exact (congrArg w.cell? (add_of_add ad (i * 3) 1)).trans (hc _ _ h1)
  · exact (congrArg w.cell? (add_of_add ad (i * 3) 2)).trans (hc _ _ h2)
set_option maxRecDepth 100000 in
set_option maxHeartbeats 4000000 in
theorem exact_yes (A A' : Option Addr) (l : List Pc) (c c' B B' : Nat) (w : World) (h : Lists w B A l) (h' : Lists w B' A' l) (hl : l.length ≤ 1000000000000) :
    Calls Tryd.prog 14 #[.slice A l.length c, .slice A' l.length c'] w fun e w' => e = .returned (.bool true) ∧ Below w.heap.size w w' := by
  go_enter Tryd.func14, Tryd.ntmps14
  go_wp2_with fail
  go_loopw [13] (fun u wr => ∃ i : Nat, u = .int .i64 i ∧ i ≤ l.length ∧ Lists wr B A l ∧ Lists wr B' A' l ∧ Below w.heap.size w wr) (fun u _ => l.length - (intOf u).toNat)
  case atStart => exact ⟨0, rfl, by omega, h, h', Below.refl _ _⟩
  case round =>
    obtain ⟨i, rfl, hi, g, g', hb⟩ := hrel
    by_cases hlt : i < l.length
    · obtain ⟨ad, rfl, b0, c0, c1, c2⟩ := g.pc hlt
      obtain ⟨ad', rfl, b0', d0, d1, d2⟩ := g'.pc hlt
      go_wp2_with fail
      go_quiet (fail)
      go_wp2_with fail
      go_roundw
      case rel => exact ⟨i + 1, by go_num, by omega, g, g', blw_drewN hb _⟩
      case measure => simp [intOf]; omega
    · go_wp2_with fail
      refine bodyPost_ret (v := .bool true) ?_ rfl ⟨rfl, ?_⟩
      · simp [results, Tryd.results14, go_sem]
      · exact hb
end Go.Proofs.YtbgcngkofbelmaaDoor
