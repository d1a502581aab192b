/-
  slices.Values over texts: its closure hands each text, in order; for every loop body that keeps what lay below. Condition: the slice reads as these texts.
-/
import Derived.Test.YtdkekhaamhphcaaGreatDoorFd
import Derived.RangeFuncNested
import Derived.RangeFuncBound
import Derived.RangeFuncCalls
import Derived.RangeFuncLeaves
import Derived.RangeFuncBox
import Derived.Shelf.Abstract
import Derived.Shelf.RegionOpen
import Derived.OwnWalkIn
import Derived.TacticsInMore
import Derived.LoopNIn
import Derived.LoopIn
set_option linter.unusedVariables false
set_option linter.unusedSimpArgs false
namespace Go.Proofs.YtdkekhaamhphcaaGreatDoor
open Go.RowKit Go.Shelf
attribute [local go_sem] Oper.semAt_some
/-- a place in a row of so many -/
abbrev Pl (m : Nat) := { i : Nat // i < m }
/-- the first k places -/
def upK (m k : Nat) (h : k ≤ m) : List (Pl m) := (List.range k).attach.map fun ⟨j, hj⟩ => ⟨j, by have := List.mem_range.1 hj; omega⟩
theorem upK_length (m k : Nat) (h : k ≤ m) : (upK m k h).length = k := by simp [upK]
theorem upK_zero (m : Nat) (h : 0 ≤ m) : upK m 0 h = [] := by simp [upK]
theorem upK_get (m k : Nat) (h : k ≤ m) (j : Nat) (hj : j < k) : (upK m k h)[j]? = some ⟨j, by omega⟩ := by
  unfold upK
  rw [List.getElem?_map, List.getElem?_attach]
  simp [hj]
theorem upK_succ (m k : Nat) (h : k < m) : upK m (k + 1) h = upK m k (by omega) ++ [⟨k, h⟩] := by
  apply List.ext_getElem?
  intro j
  rcases Nat.lt_trichotomy j k with c | c | c
  · rw [upK_get _ _ _ _ (by omega), List.getElem?_append_left (by rw [upK_length]; exact c), upK_get _ _ _ _ c]
  · subst c
    rw [upK_get _ _ _ _ (by omega), List.getElem?_append_right (by rw [upK_length]; omega), upK_length, Nat.sub_self]
    rfl
  · rw [List.getElem?_eq_none (by rw [upK_length]; omega), List.getElem?_eq_none (by simp [upK_length]; omega)]
def getT (xs : List ByteArray) (i : Nat) : ByteArray := xs.getD i ⟨#[]⟩
def Texts (w : World) (B : Nat) (A : Option Addr) (l : List ByteArray) : Prop :=
  0 < l.length → ∃ ad : Addr, A = some ad ∧ ad.block < B ∧ ∀ i (h : i < l.length), w.cell? (ad.add i) = some (.string l[i])
theorem Texts.below {w w' : World} {B : Nat} {A : Option Addr} {l : List ByteArray} (h : Texts w B A l) (hb : Below B w w') : Texts w' B A l := fun hn => by
  obtain ⟨ad, e, hlt, hc⟩ := h hn
  exact ⟨ad, e, hlt, fun i hi => (hb.cell (p := ad.add i) (by rw [block_of_add]; exact hlt)).trans (hc i hi)⟩
/-- what a round that goes on keeps: what lay below, and the slice's own box -/
def KpB (n₀ Bs : Nat) (W W' : World) : Prop := Below n₀ W W' ∧ W'.heap[Bs]? = W.heap[Bs]?
theorem KpB.refl (n₀ Bs : Nat) (W : World) : KpB n₀ Bs W W := ⟨Below.refl _ _, rfl⟩
theorem KpB.trans {n₀ Bs : Nat} {A B C : World} (h : KpB n₀ Bs A B) (k : KpB n₀ Bs B C) : KpB n₀ Bs A C := ⟨h.1.trans k.1, k.2.trans h.2⟩
theorem KpB.box {n₀ Bs : Nat} {W W' : World} (h : KpB n₀ Bs W W') : W'.cell? ⟨Bs, 0, none⟩ = W.cell? ⟨Bs, 0, none⟩ := World.cell?_of_block (a := ⟨Bs, 0, none⟩) h.2
theorem KpB.put {n₀ Bs : Nat} {w W : World} (hn : n₀ ≤ w.heap.size) (hBs : Bs < w.heap.size) (l : Nat) (o o' : Obj) (hl : w.heap.size ≤ l) (ho : W.heap[l]? = some o) (hc : o.isCells = false) (hw : o.isWalk = false) : KpB n₀ Bs W (W.putObj l o') :=
  ⟨belowK_b hn W l o o' hl ho hc hw, World.putObj_heap_other (by omega)⟩
def encV (xs : List ByteArray) (x : Pl xs.length) : Array Value := #[.string (getT xs x.1)]
set_option maxRecDepth 100000 in
set_option maxHeartbeats 2000000 in
theorem vals1_in (F : Fence) (n : Nat) (h55 : F.fn 43) (hro : F.round = none) (hn : 1 ≤ n) (l Bs n₀ cap : Nat) (A : Option Addr) (xs : List ByteArray) (hreach : xs.length ≤ 100000) (J Jx : List (Pl xs.length) → World → Prop)
    (hY : ∀ pre x W, J pre W → pre.length < xs.length → (∃ k, ∃ h : k < xs.length, pre = upK xs.length k (Nat.le_of_lt h) ∧ x = ⟨k, h⟩) → YieldAt F (n - 1) Tryz.prog l (encV xs x) W fun e W' =>
      (e = .returned (.bool true) ∧ J (pre ++ [x]) W' ∧ KpB n₀ Bs W W') ∨ (e = .returned (.bool false) ∧ Jx (pre ++ [x]) W'))
    (W : World) (hBs : W.cell? ⟨Bs, 0, none⟩ = some (.slice A xs.length cap)) (hT : Texts W n₀ A xs) (h0 : J [] W) :
    CallsIn F n Tryz.prog 43 #[.func (.yield l) #[] #[], .pointer (some ⟨Bs, 0, none⟩)] W fun e W' => (∃ v, e = .returned v) ∧
      ((∃ ys, ys = upK xs.length xs.length (Nat.le_refl _) ∧ J ys W') ∨ (∃ pre, (∃ k, ∃ h : k < xs.length, pre = upK xs.length (k + 1) h) ∧ Jx pre W')) := by
  refine callsIn_of_wp Tryz.func43 rfl h55 ?_ hro
  simp only [Tryz.ntmps43, List.size_toArray, List.length_cons, List.length_nil, Nat.reduceAdd, Nat.reduceSub, Array.replicate_succ, Array.replicate_zero, List.push_toArray, List.append_toArray, List.nil_append, List.cons_append]
  gi_wp2
  gi_loopw [7] (fun i wr => ∃ (k : Nat) (hk : k ≤ xs.length), i = .int .i64 k ∧ J (upK xs.length k hk) wr ∧ KpB n₀ Bs W wr)
    (fun i _ => xs.length - (intOf i).toNat)
  case atStart => exact ⟨0, Nat.zero_le _, rfl, by rw [upK_zero]; exact h0, KpB.refl _ _ _⟩
  case round =>
    obtain ⟨k, hk, rfl, hJs, hnx⟩ := hrel
    have hBs' := hnx.box.trans hBs
    by_cases hlt : k < xs.length
    · obtain ⟨ad, rfl, hab, hcs⟩ := hT (by omega)
      have hc : wr.cell? (ad.add k) = some (.string (getT xs k)) := by
        rw [(hnx.1.cell (p := ad.add k) (by rw [block_of_add]; exact hab)).trans (hcs k hlt)]
        simp [getT, hlt]
      obtain ⟨fn, tmps, assign, body, hy, hR⟩ := hY _ (⟨k, hlt⟩ : Pl xs.length) wr hJs (by rw [upK_length]; exact hlt) ⟨k, hlt, rfl, rfl⟩
      simp only [encV] at hy
      have hd := upK_succ xs.length k hlt
      have hHd := Lib.hid hd
      clear hd hcs
      gi_wp2
      refine hR.mono ?_
      rintro e W3 (⟨rfl, hJ3, hk3⟩ | ⟨rfl, hJx3⟩)
      · gi_wp2
        go_roundw
        case rel => exact ⟨k + 1, hlt, by go_num, by rw [hHd.out]; exact hJ3, hnx.trans hk3⟩
        case measure => simp [intOf]; omega
      · gi_wp2
        refine bodyPost_ret (results_none rfl _ _ _) rfl ?_
        exact ⟨⟨_, rfl⟩, .inr ⟨_, ⟨k, hlt, rfl⟩, by rw [hHd.out]; exact hJx3⟩⟩
    · obtain rfl : k = xs.length := by omega
      gi_wp2
      go_end0
      exact ⟨⟨_, rfl⟩, .inl ⟨_, rfl, hJs⟩⟩
end Go.Proofs.YtdkekhaamhphcaaGreatDoor
