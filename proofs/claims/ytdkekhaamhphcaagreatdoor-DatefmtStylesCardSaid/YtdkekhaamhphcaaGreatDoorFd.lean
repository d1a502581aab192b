/-
  Words for fields in memory: their cells, a slice that reads as fields, append of a field onto a row of the call's own. Conditions: those of each theorem.
-/
import Derived.Test.YtdkekhaamhphcaaGreatDoorSk
import Derived.Test.YtdkekhaamhphcaaGreatDoorUc
import Derived.Test.YtdkekhaamhphcaaGreatDoorProg
import Derived.Test.YtdkekhaamhphcaaGreatDoorRows
import Derived.WalkKit
import Derived.ProofKit
import Derived.Lib.Hide
import Derived.Lib.SmallJoins
import Derived.Laws.IdiomStrings
import Derived.Deep.RegionWith
import Derived.Deep.QuietTactic
import Derived.Deep.RegionHeld3
import Derived.BigQuiet
import Derived.Lib.QuietBelow
import Derived.Below
import Derived.WalkLawsBesides
import Derived.WalkSpells
import Derived.LoopN
set_option linter.unusedVariables false
namespace Go.Proofs.YtdkekhaamhphcaaGreatDoor
open Go.RowKit
def fcells (l : List Fd) : List Value := l.flatMap fun p => [.int .u8 p.b.toNat, .int .i64 p.n, .string p.t]
theorem fcells_length (l : List Fd) : (fcells l).length = l.length * 3 := by
  unfold fcells; induction l with
  | nil => rfl
  | cons p l ih => simp only [List.flatMap_cons, List.length_append, ih]; simp; omega
theorem fcells_append (l m : List Fd) : fcells (l ++ m) = fcells l ++ fcells m := by unfold fcells; simp
theorem fcells_one (l : List Fd) : ∀ u ∈ fcells l, u.oneCell' = true := by
  intro u hu; unfold fcells at hu; simp at hu
  obtain ⟨p, _, h⟩ := hu
  rcases h with rfl | rfl | rfl <;> rfl
theorem fcells_get : ∀ {l : List Fd} {i : Nat} (h : i < l.length), (fcells l)[i * 3]? = some (.int .u8 l[i].b.toNat) ∧ (fcells l)[i * 3 + 1]? = some (.int .i64 l[i].n) ∧ (fcells l)[i * 3 + 2]? = some (.string l[i].t)
  | x :: l, 0, _ => ⟨rfl, rfl, rfl⟩
  | x :: l, i + 1, h => by
    have := fcells_get (l := l) (i := i) (by simpa using h)
    rw [show (i + 1) * 3 = i * 3 + 3 by omega]
    simpa [fcells] using this
theorem infoFd : (Tryz.prog.info? 64).map (fun i => (i.zero, i.size, i.bytes)) = some (some (.agg #[.int .u8 0, .int .i64 0, .string ⟨#[]⟩]), 3, 32) := by kernel_rfl
def sp (e k : Int) : Value := .agg #[.int .i64 e, .int .i64 k]
theorem reads_new3 (w : World) (a b c : Value) (t : TypeId) : Reads (w.alloc (.cells #[a, b, c] t)) (w.heap.size + 1) 3 (some ⟨w.heap.size, 0, none⟩) 1 [a, b, c] := by
  refine ⟨rfl, fun _ => ⟨_, rfl, by simp, ?_⟩⟩
  intro j u hu
  have hc := (Blk.new w t #[a, b, c]).cell j
  have he : (⟨w.heap.size, 0, none⟩ : Addr).add j = ⟨w.heap.size, j, none⟩ := by
    unfold Addr.add; split
    · rename_i h; rw [h]
    · simp
  rw [he, hc]; simpa using hu
theorem grown_set (w : World) (p : Addr) (u : Value) : w.grownBy (w.setCell p u) (some p.block) :=
  ⟨rfl, rfl, rfl, by simp [World.setCell], fun k _ hne => Below.heap_setCell w p u k (fun e => hne (by rw [e]))⟩
theorem grown_below {w w' : World} (h : Below w.heap.size w w') : w.grownBy w' none := ⟨h.os, h.tape, h.output, h.size, fun k hk _ => h.block k hk⟩
section
variable {w w' : World} {base e size n : Nat} {v : Value} {xs : List Value}
theorem own_far (h : w.ownsRow base e size v n xs) {p : Addr} (hp : v.ownBlock ≠ some p.block) (u : Value) : (w.setCell p u).ownsRow base e size v n xs := h.kept (grown_set w p u) (Or.inr hp)
theorem own_below (h : w.ownsRow base e size v n xs) (hb : Below w.heap.size w w') : w'.ownsRow base e size v n xs :=
  h.kept (grown_below hb) (by cases v.ownBlock with | none => exact Or.inl rfl | some k => exact Or.inr (fun e => by cases e))
theorem own_drew (h : w.ownsRow base e size v n xs) : w.drew.ownsRow base e size v n xs := h
theorem own_drewN (h : w.ownsRow base e size v n xs) (k : Nat) : (w.drewN k).ownsRow base e size v n xs := h
theorem own_base {b : Nat} (h : w.ownsRow base e size v n xs) (hb : b ≤ base) : w.ownsRow b e size v n xs := by
  obtain ⟨h1, h2⟩ := h
  refine ⟨h1, ?_⟩
  rcases h2 with h2 | ⟨g, cap, cur, a, b', c⟩
  · exact Or.inl h2
  · exact Or.inr ⟨g, cap, cur, a, by omega, c⟩
end
theorem fown_snoc {w : World} {base : Nat} {v : Value} (l : List Fd) (p : Fd) (h : w.ownsRow base 64 3 v (l.length + 1) (fcells l ++ [.int .u8 p.b.toNat, .int .i64 p.n, .string p.t])) : w.ownsRow base 64 3 v (l ++ [p]).length (fcells (l ++ [p])) := by
  rw [fcells_append, List.length_append]
  exact h
theorem wpFd {ops : Array Oper} {rest : List Oper} {o : Oper} {a : Act} {Q : Exit → Act → World → Prop} (hgd : o.guard = none) (sI xI : Operand)
    (ho : o.op = .call { callee := .builtin .append, args := #[sI, xI], argTypes := #[33, 33] })
    (base : Nat) (w0 : World) (v : Value) (l : List Fd) (p : Fd) (hs : a.eval sI = v) (hown : w0.ownsRow base 64 3 v l.length (fcells l)) (hx : a.eval xI = .slice (some ⟨w0.heap.size, 0, none⟩) 1 1)
    (hl : l.length ≤ 1000000000000) (hb : base ≤ w0.heap.size)
    (h : ∀ v' w', w'.ownsRow base 64 3 v' (l ++ [p]).length (fcells (l ++ [p])) → (w0.alloc (.cells #[.int .u8 p.b.toNat, .int .i64 p.n, .string p.t] 64)).grownBy w' v.ownBlock → wpList Tryz.prog ops Q rest (a.put o.dst v') w') :
    wpList Tryz.prog ops Q (o :: rest) a (w0.alloc (.cells #[.int .u8 p.b.toNat, .int .i64 p.n, .string p.t] 64)) := by
  obtain ⟨i0, hi0, hz0, hz1, hz2⟩ := info_parts infoFd
  refine wpList_append_any _ hgd sI xI 33 ho base 64 i0 _ 3 32 Tryz.underlying33 hi0 hz0 hz1 hz2 rfl (by omega) v l.length (fcells l) hs (hown.alloc _) (w0.heap.size + 1) _ 1 1 [.int .u8 p.b.toNat, .int .i64 p.n, .string p.t] hx (reads_new3 w0 _ _ _ _) ?_ ?_ ?_ ?_ ?_
  · intro u hu; simp at hu; rcases hu with rfl | rfl | rfl <;> rfl
  · unfold maxLen; omega
  · omega
  · simp only [World.size_alloc]; omega
  · intro v' w' h1 h2 _
    exact h v' w' (fown_snoc l p h1) h2
/-- a slice that reads as fields -/
def Flds (w : World) (B : Nat) (A : Option Addr) (l : List Fd) : Prop :=
  0 < l.length → ∃ ad : Addr, A = some ad ∧ ad.block < B ∧ ∀ j u, (fcells l)[j]? = some u → w.cell? (ad.add j) = some u
theorem Flds.nil (w : World) (B : Nat) (A : Option Addr) : Flds w B A [] := fun h => by simp at h
theorem Flds.of_own {w : World} {base : Nat} {v : Value} {l : List Fd} (h : w.ownsRow base 64 3 v l.length (fcells l)) : ∃ A c, v = .slice A l.length c ∧ Flds w w.heap.size A l := by
  rcases Nat.eq_zero_or_pos l.length with z | z
  · rcases h.2 with ⟨rfl, _⟩ | ⟨g, cap, cur, rfl, _⟩
    · exact ⟨none, 0, by rw [z], fun hl => by omega⟩
    · exact ⟨_, _, rfl, fun hl => by omega⟩
  · obtain ⟨g, cap, rfl, _, hlt⟩ := h.form z
    exact ⟨_, _, rfl, (Reads.of_own h).2⟩
theorem Flds.fd {w : World} {B : Nat} {A : Option Addr} {l : List Fd} (h : Flds w B A l) {i : Nat} (hi : i < l.length) :
    ∃ ad : Addr, A = some ad ∧ ad.block < B ∧ w.cell? (ad.add (i * 3)) = some (.int .u8 l[i].b.toNat) ∧ w.cell? ⟨(ad.add (i * 3)).block, (ad.add (i * 3)).off + 1, none⟩ = some (.int .i64 l[i].n) ∧
      w.cell? ⟨(ad.add (i * 3)).block, (ad.add (i * 3)).off + 2, none⟩ = some (.string l[i].t) := by
  obtain ⟨ad, e, hb, hc⟩ := h (by omega)
  obtain ⟨h0, h1, h2⟩ := fcells_get hi
  refine ⟨ad, e, hb, hc _ _ h0, ?_, ?_⟩
  · exact (congrArg w.cell? (add_of_add ad (i * 3) 1)).trans (hc _ _ h1)
  · exact (congrArg w.cell? (add_of_add ad (i * 3) 2)).trans (hc _ _ h2)
theorem Flds.below {w w' : World} {B : Nat} {A : Option Addr} {l : List Fd} (h : Flds w B A l) (hb : Below B w w') : Flds w' B A l := fun hn => by
  obtain ⟨ad, e, hlt, hc⟩ := h hn
  exact ⟨ad, e, hlt, fun j u hj => (hb.cell (p := ad.add j) (by rw [block_of_add]; exact hlt)).trans (hc j u hj)⟩
theorem Flds.more {w : World} {B B' : Nat} {A : Option Addr} {l : List Fd} (h : Flds w B A l) (hB : B ≤ B') : Flds w B' A l := fun hn => by
  obtain ⟨ad, e, hlt, hc⟩ := h hn
  exact ⟨ad, e, by omega, hc⟩
theorem Flds.alloc {w : World} {B : Nat} {A : Option Addr} {l : List Fd} (h : Flds w B A l) (hB : B ≤ w.heap.size) (o : Obj) : Flds (w.alloc o) B A l := h.below ((Below.refl B w).alloc hB o)
theorem eqB (b : UInt8) (n : Nat) : ((b.toNat : Int) == (n : Int)) = decide (b.toNat = n) := by
  rw [Bool.eq_iff_iff]
  simp only [beq_iff_eq, decide_eq_true_eq]
  omega
theorem u8_ne {a b : UInt8} (h : a ≠ b) : a.toNat ≠ b.toNat := fun e => h (UInt8.toNat_inj.1 e)
end Go.Proofs.YtdkekhaamhphcaaGreatDoor
