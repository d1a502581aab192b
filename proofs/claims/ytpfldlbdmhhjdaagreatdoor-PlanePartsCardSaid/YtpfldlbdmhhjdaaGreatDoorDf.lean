/-
  Contracts of dec.made, of slices.Clone and Repeat at bytes, of dec.halved, of dec.up. Conditions: sizes.
-/
import Derived.Test.YtpfldlbdmhhjdaaGreatDoorDc
import Derived.LoopN
import Derived.Handy
import Derived.Deep.AppendLies
import Derived.Lib.SliceRun
set_option linter.unusedVariables false
namespace Go.Proofs.YtpfldlbdmhhjdaaGreatDoor
open Go.RowKit Go.Fl Go.Sort
def decV (neg : Bool) (v scale : Nat) : Value := .agg #[.bool (neg && decide (v ≠ 0)), .string ⟨(Lib.decDigits v).toArray⟩, .int .i64 (scale : Int)]
set_option maxRecDepth 100000 in
set_option maxHeartbeats 1000000 in
theorem made_any (neg : Bool) (l : List Nat) (hl : Dig l) (s : ByteArray) (hs : s.data.toList = txt l) (hz : s.size ≤ 281474976710656) (scale : Nat) (hsc : scale ≤ 400) (hv : vL l < 10 ^ 400) (w : World) :
    Calls Tryz.prog 32 #[.bool neg, .string s, .int .i64 scale] w fun e w' => e = .returned (.tuple #[decV neg (vL l) scale, .int .i64 0]) ∧ Below w.heap.size w w' := by
  have HT := TrimLeft0 s hz
  rw [hs, trim_dec hl] at HT
  have hb1 := (Below.refl w.heap.size w).alloc (Nat.le_refl _) (.cells #[.bool false, .string ⟨#[]⟩, .int .i64 0] 27)
  have hsc2 : ¬ (400 : Int) < (scale : Int) := by omega
  by_cases h0 : vL l = 0
  · rw [if_pos h0] at HT
    have hd : decV neg (vL l) scale = .agg #[.bool false, .string ⟨#[48]⟩, .int .i64 (scale : Int)] := by
      rw [h0]
      unfold decV
      rw [Lib.decDigits_one (by decide)]
      simp
    rw [hd]
    clear h0 hd hv hl hs
    go_enter Tryz.func32, Tryz.ntmps32
    go_wp2_with (go_at_call 60; refine (HT _).mono ?_; rintro e w1 ⟨rfl, rfl⟩)
    refine bodyPost_ret (v := .tuple #[.agg #[.bool false, .string ⟨#[48]⟩, .int .i64 (scale : Int)], .int .i64 0]) ?_ rfl ⟨rfl, ?_⟩
    · simp [results, Tryz.results32, go_sem]
    · go_grown
  · rw [if_neg h0] at HT
    have hlen := dec_len 400 (by decide) hv
    have hne := dec_ne (vL l)
    have hd : decV neg (vL l) scale = .agg #[.bool neg, .string ⟨(Lib.decDigits (vL l)).toArray⟩, .int .i64 (scale : Int)] := by
      unfold decV
      rw [decide_eq_true h0, Bool.and_true]
    rw [hd]
    obtain ⟨r, hr⟩ : ∃ r : ByteArray, r = ⟨(Lib.decDigits (vL l)).toArray⟩ := ⟨_, rfl⟩
    have hrz : r.size = (Lib.decDigits (vL l)).length := by
      rw [hr]
      show (Lib.decDigits (vL l)).toArray.size = _
      simp
    rw [← hr] at HT ⊢
    have hr1 : ¬ (400 : Int) < (r.size : Int) := by omega
    have hr2 : r.toList.isEmpty = false := by
      rw [isEmpty_dec, decide_eq_false_iff_not]
      intro c
      exact hne (List.eq_nil_of_length_eq_zero (by omega))
    clear h0 hd hv hl hs hr hrz hlen hne
    go_enter Tryz.func32, Tryz.ntmps32
    go_wp2_with (go_at_call 60; refine (HT _).mono ?_; rintro e w1 ⟨rfl, rfl⟩)
    refine bodyPost_ret (v := .tuple #[.agg #[.bool neg, .string r, .int .i64 (scale : Int)], .int .i64 0]) ?_ rfl ⟨rfl, ?_⟩
    · simp [results, Tryz.results32, go_sem]
    · go_grown
/-! ### bytes -/
def bcells (l : List UInt8) : List Value := l.map fun b => .int .u8 (b.toNat : Int)
theorem bcells_len (l : List UInt8) : (bcells l).length = l.length := by simp [bcells]
theorem bcells_get {l : List UInt8} {j : Nat} (h : j < l.length) : (bcells l)[j]? = some (.int .u8 (l[j].toNat : Int)) := by simp [bcells, h]
theorem RowAt.of_own {w : World} {base n g cap : Nat} {l : List UInt8} (h : w.ownsRow base 5 1 (.slice (some ⟨g, 0, none⟩) n cap) l.length (bcells l)) : RowAt w ⟨g, 0, none⟩ l ∧ (0 < l.length → g < w.heap.size) := by
  rcases h.2 with ⟨e, _⟩ | ⟨g', cap', cur, e, hb, hg, hn, hm, hs, ht⟩
  · cases e
  · injection e with e1 e2 e3
    injection e1 with e1
    injection e1 with e1
    subst e1
    have hlt : g < w.heap.size := by
      rcases Nat.lt_or_ge g w.heap.size with q | q
      · exact q
      · rw [Array.getElem?_eq_none q] at hg; cases hg
    refine ⟨fun j hj => ?_, fun _ => hlt⟩
    rw [Lib.add_plain, Nat.zero_add]
    have h1 : (cur.toList.take (l.length * 1))[j]? = some (.int .u8 (l[j].toNat : Int)) := by rw [ht]; exact bcells_get hj
    rw [List.getElem?_take, if_pos (by omega)] at h1
    unfold World.cell?
    rw [hg]
    simpa using h1
theorem RowAt.gets {w : World} {ad : Addr} {l : List UInt8} (h : RowAt w ad l) : ∀ j u, (bcells l)[j]? = some u → w.cell? (ad.add j) = some u := fun j u hu => by
  have hj : j < l.length := by
    rcases Nat.lt_or_ge j l.length with q | q
    · exact q
    · rw [List.getElem?_eq_none (by rw [bcells_len]; exact q)] at hu; cases hu
  rw [bcells_get hj, Option.some.injEq] at hu
  rw [← hu]
  exact h j hj
theorem bcells_one {l : List UInt8} : ∀ u ∈ bcells l, u.oneCell' = true := fun u hu => by
  obtain ⟨b, _, rfl⟩ := List.mem_map.1 hu
  rfl
/-- append of a whole row of bytes -/
theorem wpRow {ops : Array Oper} {rest : List Oper} {o : Oper} {a : Act} {Q : Exit → Act → World → Prop} (hgd : o.guard = none) (sI xI : Operand)
    (ho : o.op = .call { callee := .builtin .append, args := #[sI, xI], argTypes := #[67, 67] })
    (base : Nat) (w : World) (v : Value) (l m : List UInt8) (hs : a.eval sI = v) (hown : w.ownsRow base 5 1 v l.length (bcells l)) (ad : Addr) (c : Nat) (hx : a.eval xI = .slice (some ad) m.length c) (hm : RowAt w ad m)
    (h0 : 0 < m.length) (hl : l.length + m.length ≤ 1000000) (hb : base ≤ w.heap.size) (H : Nat) (hH : w.heap.size = H)
    (h : ∀ g cap w', w'.ownsRow base 5 1 (.slice (some ⟨g, 0, none⟩) (l.length + m.length) cap) (l ++ m).length (bcells (l ++ m)) → w.grownBy w' v.ownBlock → (v.ownBlock = some g ∨ g = H) → g < w'.heap.size → wpList Tryz.prog ops Q rest (a.put o.dst (.slice (some ⟨g, 0, none⟩) (l.length + m.length) cap)) w') :
    wpList Tryz.prog ops Q (o :: rest) a w := by
  obtain ⟨i0, hi0, hz0, hz1, hz2⟩ := info_parts infoB
  refine wpList_append_lies _ hgd sI xI 67 ho base 5 i0 _ 1 1 Tryz.underlying67 hi0 hz0 hz1 hz2 rfl (by omega) v l.length (bcells l) hs hown ad m.length c (bcells m) hx (by rw [bcells_len, Nat.mul_one]) hm.gets bcells_one h0 (by unfold maxLen; omega) (by omega) hb H hH ?_
  intro g cap w' h1 h2 h3 h4
  refine h g cap w' ?_ h2 h3 h4
  have e : bcells (l ++ m) = bcells l ++ bcells m := by simp [bcells]
  rw [e, List.length_append]
  exact h1
def chM (D : List Nat) : List UInt8 := D.map chr
theorem chM_len (D : List Nat) : (chM D).length = D.length := by simp [chM]
theorem txt_chM (l : List Nat) : txt l = chM l.reverse := rfl
set_option maxRecDepth 100000 in
set_option maxHeartbeats 1000000 in
theorem Clone_any (ad : Addr) (m : List UInt8) (c : Nat) (h0 : 0 < m.length) (hn : m.length ≤ 100000) (w : World) (hm : RowAt w ad m) (hb : ad.block < w.heap.size) :
    Calls Tryz.prog 51 #[.slice (some ad) m.length c] w fun e w' => ∃ g cap, e = .returned (.slice (some ⟨g, 0, none⟩) m.length cap) ∧ w'.ownsRow w.heap.size 5 1 (.slice (some ⟨g, 0, none⟩) m.length cap) m.length (bcells m) ∧ w.heap.size ≤ g ∧ g < w'.heap.size ∧ Below w.heap.size w w' := by
  have qT : ∀ (w : World) (a : Option Addr) (n c n' c' : Nat), (binOp .eql 67 (.slice a n c) (.slice none n' c')).run Tryz.prog w = .ok (.bool a.isNone) w := fun w a n c n' c' => Lib.run_eql_slice_nil w _ _ a n c n' c' Tryz.underlying67
  have hheap : (w.alloc (.cells #[] 5)).heap[w.heap.size]? = some (.cells #[] 5) := heap_alloc_new w _
  have hown0 : (w.alloc (.cells #[] 5)).ownsRow w.heap.size 5 1 (.slice (some ⟨w.heap.size, 0, none⟩) 0 0) ([] : List UInt8).length (bcells []) :=
    ⟨by simp [bcells], Or.inr ⟨w.heap.size, 0, #[], rfl, Nat.le_refl _, hheap, Nat.le_refl _, Nat.zero_le _, by simp, by simp [bcells]⟩⟩
  have hB1 := (Below.refl w.heap.size w).alloc (Nat.le_refl _) (.cells #[] 5)
  have hm1 := hm.below hB1 hb
  clear hheap
  go_enter Tryz.func51, Tryz.ntmps51
  go_wp2_with (at_builtin; refine wpRow rfl (.tmp 5) (.tmp 6) rfl w.heap.size _ (.slice (some ⟨w.heap.size, 0, none⟩) 0 0) [] m (by rfl) hown0 ad c (by rfl) hm1 h0 (by simp; omega) (by simp) (w.heap.size + 1) (by simp) ?_; intro g cap w1 hown hgrow hat hlt)
  have hz : ([] : List UInt8).length + m.length = m.length := by simp
  rw [hz, List.nil_append] at hown
  have hg : w.heap.size ≤ g := by
    rcases hat with e | e
    · injection e with e; simp at e; omega
    · omega
  have hB2 := hB1.grown hgrow (by simp) (fun k hk => by injection hk with hk; simp at hk; omega)
  refine bodyPost_ret (v := .slice (some ⟨g, 0, none⟩) m.length cap) ?_ rfl ⟨g, cap, rfl, hown, hg, hlt, hB2⟩
  simp [results, Tryz.results51, go_sem]
set_option maxRecDepth 100000 in
set_option maxHeartbeats 1000000 in
theorem Repeat0_any (w : World) (g : Nat) (hw : w.cell? ⟨g, 0, none⟩ = some (.int .u8 48)) : Calls Tryz.prog 29 #[.slice (some ⟨g, 0, none⟩) 1 1, .int .i64 0] w fun e w' => e = .returned (.slice (some ⟨w.heap.size, 0, none⟩) 0 0) ∧ w' = w.alloc (.cells #[] 5) := by
  have HM := fun w : World => Tryz.bits_Mul 1 0 (by decide) (by decide) w
  have hmk : ∀ W : World, (Instr.makeSlice 67 (.int .i64 0) (.int .i64 0)).run Tryz.prog W = .ok (.slice (some ⟨W.heap.size, 0, none⟩) 0 0) (W.alloc (.cells #[] 5)) := fun W => by
    have h := make_bytes 0 (by omega) W
    have e : madeCells #[Value.int .u8 0] 0 = #[] := by simp [madeCells]
    rw [e] at h
    exact h
  have hcp : ∀ W : World, (Builtin.copy_ #[67, 67] 3 #[.slice (some ⟨w.heap.size, 0, none⟩) 0 0, .slice (some ⟨g, 0, none⟩) 1 1]).run Tryz.prog W = .ok (.int .i64 0) W := fun W => by
    have := run_copy_none (P := Tryz.prog) W 67 67 3 5 (some ⟨w.heap.size, 0, none⟩) (some ⟨g, 0, none⟩) 0 0 1 1 Tryz.underlying67 (by kernel_rfl) (by decide)
    exact this
  go_enter Tryz.func29, Tryz.ntmps29
  go_wp2_with (go_at_call 52; refine (HM _).mono ?_; rintro e w1 ⟨rfl, rfl⟩)
  go_loopw [8] (fun u wr => u = .int .i64 0 ∧ wr = w1.alloc (.cells #[] 5)) (fun _ _ => 0)
  case atStart => exact ⟨rfl, rfl⟩
  case round =>
    obtain ⟨rfl, rfl⟩ := hrel
    go_wp2_with fail
    refine bodyPost_ret (v := .slice (some ⟨w1.heap.size, 0, none⟩) 0 0) ?_ rfl ⟨rfl, rfl⟩
    simp [results, Tryz.results29, go_sem]
end Go.Proofs.YtpfldlbdmhhjdaaGreatDoor
