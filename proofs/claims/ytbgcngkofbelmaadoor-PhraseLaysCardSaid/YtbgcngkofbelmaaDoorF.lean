/-
  Contract of the closure in phrase.Parse: it hangs a text on the pieces, or leaves all as it was. Conditions: the captured variables lie apart.
-/
import Derived.Test.YtbgcngkofbelmaaDoorE
import Derived.Deep.RegionLaw
import Derived.WalkSpells
namespace Go.Proofs.YtbgcngkofbelmaaDoor
open Go.RowKit
open Ph
theorem stepPiece {W : World} {ops : Array Oper} {o : Oper} {a : Act} {K : Act → World → Prop} {Q : Exit → Act → World → Prop} {E : Prop} (hgd : o.guard = none) (sI xI : Operand)
    (ho : o.op = .call { callee := .builtin .append, args := #[sI, xI], argTypes := #[23, 23] })
    (base : Nat) (v : Value) (l : List Pc) (p : Pc) (hs : a.eval sI = v) (hown : W.ownsRow base 31 3 v l.length (pcells l)) (g : Nat) (hx : a.eval xI = .slice (some ⟨g, 0, none⟩) 1 1)
    (hr : Blk W g 31 #[.int .i64 p.kind, .string p.text, .int .i64 p.place])
    (hl : l.length ≤ 1000000000000) (hb : base ≤ W.heap.size)
    (h : ∀ gg cap w', w'.ownsRow base 31 3 (.slice (some ⟨gg, 0, none⟩) (l.length + 1) cap) (l ++ [p]).length (pcells (l ++ [p])) → W.grownBy w' v.ownBlock → K (a.put o.dst (.slice (some ⟨gg, 0, none⟩) (l.length + 1) cap)) w') :
    if Region.wanted o (yielded ops a.tmps) = true then Oper.wp Tryd.prog o a W K Q else E := by
  obtain ⟨i0, hi0, hz0, hz1, hz2⟩ := info_parts info31
  refine step_append_any _ hgd sI xI 23 ho base 31 i0 _ 3 32 Tryd.underlying23 hi0 hz0 hz1 hz2 rfl (by omega) v l.length (pcells l) hs hown (g + 1) _ 1 1 [.int .i64 p.kind, .string p.text, .int .i64 p.place] hx ?_ ?_ ?_ ?_ ?_ ?_
  · refine ⟨rfl, fun _ => ⟨_, rfl, by simp, ?_⟩⟩
    intro j u hu
    have hc := hr.cell j
    have he : (⟨g, 0, none⟩ : Addr).add j = ⟨g, j, none⟩ := by
      unfold Addr.add; split
      · rename_i h; rw [h]
      · simp
    rw [he, hc]; simpa using hu
  · intro u hu; simp at hu; rcases hu with rfl | rfl | rfl <;> rfl
  · unfold maxLen; omega
  · omega
  · exact hb
  · intro v' w' h1 h2 _
    obtain ⟨gg, cap, hv, _, _⟩ := h1.form (by omega)
    subst hv
    exact h gg cap w' (own_snoc l p h1) h2
/-- only the block of a row, the block L and what is new have turned -/
structure Turn (w w' : World) (r : Option Nat) (L : Nat) : Prop where
  os : w'.os = w.os
  tape : w'.tape = w.tape
  output : w'.output = w.output
  size : w.heap.size ≤ w'.heap.size
  block : ∀ k, k < w.heap.size → some k ≠ r → k ≠ L → w'.heap[k]? = w.heap[k]?
theorem clo_no (fr to : Int) (F Lb Sb : Nat) (w : World) (hF : Blk w F 3 #[.int .i64 fr]) (h : to ≤ fr) :
    Calls Tryd.prog 31 #[.int .i64 to, .pointer (some ⟨F, 0, none⟩), .pointer (some ⟨Lb, 0, none⟩), .pointer (some ⟨Sb, 0, none⟩)] w fun e w' => e = .returned (.tuple #[]) ∧ w = w' := by
  have hc := hF.at_ 0 (v := .int .i64 fr) rfl
  go_enter Tryd.func31, Tryd.ntmps31
  go_wp2_with fail
  go_end0
  exact ⟨rfl, rfl⟩
def CloPost (s : ByteArray) (fr to Lb base : Nat) (v : Value) (l : List Pc) (w : World) (e : Ending) (w' : World) : Prop :=
  e = .returned (.tuple #[]) ∧ ∃ v', Blk w' Lb 23 #[v'] ∧ w'.ownsRow base 31 3 v' (l ++ [Pc.mk 1 (s.extract fr to) 0]).length (pcells (l ++ [Pc.mk 1 (s.extract fr to) 0])) ∧ Turn w w' v.ownBlock Lb
set_option maxHeartbeats 2000000 in
theorem clo_yes (s : ByteArray) (fr to : Nat) (F Lb Sb base : Nat) (v : Value) (l : List Pc) (w : World) (hF : Blk w F 3 #[.int .i64 fr]) (hL : Blk w Lb 23 #[v]) (hS : Blk w Sb 9 #[.string s])
    (hown : w.ownsRow base 31 3 v l.length (pcells l)) (hb : base ≤ w.heap.size) (hl : l.length ≤ 1000000000000) (h : fr < to) (hs : to ≤ s.size) (_hz : s.size ≤ 281474976710656) :
    Calls Tryd.prog 31 #[.int .i64 to, .pointer (some ⟨F, 0, none⟩), .pointer (some ⟨Lb, 0, none⟩), .pointer (some ⟨Sb, 0, none⟩)] w (CloPost s fr to Lb base v l w) := by
  have c1 := hF.at_ 0 (v := .int .i64 fr) rfl
  have c2 := hL.at_ 0 (v := v) rfl
  have c3 := hS.at_ 0 (v := .string s) rfl
  have f2 := hL.frozen
  have hle : fr ≤ to := by omega
  have e1 := (hF.alloc (.cells #[.int .i64 1, .string (s.extract fr to), .int .i64 0] 31)).at_ 0 (v := .int .i64 fr) rfl
  have e2 := (hL.alloc (.cells #[.int .i64 1, .string (s.extract fr to), .int .i64 0] 31)).at_ 0 (v := v) rfl
  have e3 := (hS.alloc (.cells #[.int .i64 1, .string (s.extract fr to), .int .i64 0] 31)).at_ 0 (v := .string s) rfl
  go_enter Tryd.func31, Tryd.ntmps31
  go_wp2_with fail
  go_region_law ((refine stepPiece rfl (.tmp 8) (.tmp 14) rfl base v l (Pc.mk 1 (s.extract fr to) 0) rfl (own_drew (hown.alloc _)) w.heap.size rfl (Blk.drew (Blk.new _ _ _)) hl (by simp; omega) ?_; intro gg cap w1 hown2 hg1; have hL1 := ((hL.alloc (.cells #[.int .i64 1, .string (s.extract fr to), .int .i64 0] 31)).drew).grown hg1 (fun e => own_blk_ne hown hL (by decide) e.symm); have d1 := hL1.at_ 0 (v := v) rfl; have d2 := hL1.frozen))
  all_goals
    have hB2 := hL1.set_ 0 (.slice (some ⟨gg, 0, none⟩) (l.length + 1) cap)
    have ho := own_far hown2 (p := ⟨Lb, 0, none⟩) (own_blk_ne hown2 hL1 (by decide)) (.slice (some ⟨gg, 0, none⟩) (l.length + 1) cap)
    have hT : Turn w (w1.setCell ⟨Lb, 0, none⟩ (.slice (some ⟨gg, 0, none⟩) (l.length + 1) cap)) v.ownBlock Lb :=
      ⟨hg1.os, hg1.tape, hg1.output, by have := hg1.size; simp [World.setCell] at this ⊢; omega, fun k hk h1 h2 => (Below.heap_setCell _ _ _ _ h2).trans ((hg1.block k (by simp; omega) h1).trans (Below.heap_alloc w _ k hk))⟩
    go_end0
    exact ⟨rfl, _, hB2, ho, hT⟩
end Go.Proofs.YtbgcngkofbelmaaDoor
