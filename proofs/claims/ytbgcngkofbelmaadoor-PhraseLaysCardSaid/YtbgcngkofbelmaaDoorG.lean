/-
  Contract of phrase.Parse: what a text falls into, or what is wrong with it and where. Conditions: the text is short enough to be in memory; the two sentinels of strconv hold interface values.
-/
import Derived.Test.YtbgcngkofbelmaaDoorF
import Derived.Laws.RangeAny
import Derived.Lib.OthersKept
import Derived.RegionTactic
namespace Go.Proofs.YtbgcngkofbelmaaDoor
open Go.RowKit
open Ph
theorem own_iter_ne {w : World} {base e size n : Nat} {v : Value} {xs : List Value} (h : w.ownsRow base e size v n xs) {k : Nat} {s : ByteArray} {pos : Nat} (hk : w.heap[k]? = some (.stringIter s pos)) : some k ≠ v.ownBlock := by
  rcases h.2 with ⟨rfl, _⟩ | ⟨g, cap, cur, rfl, _, hh, _⟩
  · simp [Value.ownBlock]
  · intro he
    have : k = g := by simpa [Value.ownBlock] using he
    subst this
    rw [hk] at hh; cases hh
theorem blk_iter_ne {w : World} {g : Nat} {t : TypeId} {cs : Array Value} (h : Blk w g t cs) {k : Nat} {s : ByteArray} {pos : Nat} (hk : w.heap[k]? = some (.stringIter s pos)) : k ≠ g := by
  rintro rfl
  unfold Blk at h; rw [hk] at h; cases h
theorem Turn.blk {w w' : World} {r : Option Nat} {L g : Nat} {t : TypeId} {cs : Array Value} (hT : Turn w w' r L) (h : Blk w g t cs) (h1 : some g ≠ r) (h2 : g ≠ L) : Blk w' g t cs := (hT.block g h.lt h1 h2).trans h
theorem Turn.below {w w' a : World} {r : Option Nat} {L B : Nat} (hT : Turn w w' r L) (h : Below B a w) (hB : B ≤ w.heap.size) (hr : ∀ k, r = some k → B ≤ k) (hL : B ≤ L) : Below B a w' :=
  h.trans ⟨hT.os, hT.tape, hT.output, hT.size, fun k hk => hT.block k (by omega) (fun e => by have := hr k e.symm; omega) (by omega)⟩
theorem own_iterAt {w : World} {base e size n : Nat} {v : Value} {xs : List Value} (h : w.ownsRow base e size v n xs) {k : Nat} {s : ByteArray} {pos : Nat} (hk : w.heap[k]? = some (.stringIter s pos)) (pos' : Nat) : (w.iterAt k s pos').ownsRow base e size v n xs := by
  obtain ⟨h1, h2⟩ := h
  refine ⟨h1, ?_⟩
  rcases h2 with h2 | ⟨g, cap, cur, a, b, c, d⟩
  · exact Or.inl h2
  · refine Or.inr ⟨g, cap, cur, a, b, ?_, d⟩
    rw [Lib.iterAt_other w k g s pos' (fun e => by rw [e, hk] at c; cases c)]; exact c
/-- where the reading stands -/
def Mode (s : ByteArray) (l : List Pc) (fr pos : Nat) (op : Int) : Prop :=
  (op = -1 ∧ (∀ r, Par s fr r → Par s 0 (pre l r)) ∧ ∀ m (hm : m < s.size), fr ≤ m → m < pos → ¬ brace s[m]) ∨
  (∃ o : Nat, op = o ∧ fr ≤ o ∧ o < pos ∧ (∃ ho : o < s.size, s[o] = 123) ∧ (∀ r, Par s o r → Par s 0 (pre l r)) ∧ ∀ m (hm : m < s.size), o < m → m < pos → s[m] ≠ 125)
theorem wpPieceS {ops : Array Oper} {rest : List Oper} {o : Oper} {a : Act} {Q : Exit → Act → World → Prop} (hgd : o.guard = none) (sI xI : Operand)
    (ho : o.op = .call { callee := .builtin .append, args := #[sI, xI], argTypes := #[23, 23] })
    (base : Nat) (w0 : World) (v : Value) (l : List Pc) (p : Pc) (hs : a.eval sI = v) (hown : w0.ownsRow base 31 3 v l.length (pcells l)) (hx : a.eval xI = .slice (some ⟨w0.heap.size, 0, none⟩) 1 1)
    (hl : l.length ≤ 1000000000000) (hb : base ≤ w0.heap.size)
    (h : ∀ gg cap w', w'.ownsRow base 31 3 (.slice (some ⟨gg, 0, none⟩) (l.length + 1) cap) (l ++ [p]).length (pcells (l ++ [p])) → (w0.alloc (.cells #[.int .i64 p.kind, .string p.text, .int .i64 p.place] 31)).grownBy w' v.ownBlock → wpList Tryd.prog ops Q rest (a.put o.dst (.slice (some ⟨gg, 0, none⟩) (l.length + 1) cap)) w') :
    wpList Tryd.prog ops Q (o :: rest) a (w0.alloc (.cells #[.int .i64 p.kind, .string p.text, .int .i64 p.place] 31)) := by
  refine wpPiece hgd sI xI ho base w0 v l p hs hown hx hl hb ?_
  intro v' w' h1 h2
  obtain ⟨gg, cap, hv, _, _⟩ := h1.form (by simp)
  rw [List.length_append] at hv
  subst hv
  exact h gg cap w' h1 h2
theorem brace_low {c : UInt8} (h : 128 ≤ c.toNat) : ¬ brace c := by
  rintro (rfl | rfl) <;> simp at h
theorem skipA {s : ByteArray} {fr pos : Nat} (hp : pos < s.size) (C : ¬ brace s[pos]) (hno : ∀ m (hm : m < s.size), fr ≤ m → m < pos → ¬ brace s[m]) : ∀ m (hm : m < s.size), fr ≤ m → m < pos + (Utf8.decode s pos).2 → ¬ brace s[m] := by
  intro m hm h1 h2
  rcases Nat.lt_trichotomy m pos with g | g | g
  · exact hno m hm h1 g
  · subst g; exact C
  · exact brace_low (within s pos m hp g h2 hm)
theorem skipB {s : ByteArray} {o pos : Nat} (hp : pos < s.size) (C : s[pos] ≠ 125) (hno : ∀ m (hm : m < s.size), o < m → m < pos → s[m] ≠ 125) : ∀ m (hm : m < s.size), o < m → m < pos + (Utf8.decode s pos).2 → s[m] ≠ 125 := by
  intro m hm h1 h2
  rcases Nat.lt_trichotomy m pos with g | g | g
  · exact hno m hm h1 g
  · subst g; exact C
  · exact fun e => brace_low (within s pos m hp g h2 hm) (Or.inr e)
theorem rune_eq {s : ByteArray} {pos : Nat} (hp : pos < s.size) {c : Nat} (hc : c < 128) {b : UInt8} (hb : b.toNat = c) : (((Utf8.decode s pos).1 : Int) == (c : Int)) = decide (s[pos] = b) := by
  rw [Bool.eq_iff_iff, beq_iff_eq, decide_eq_true_iff]
  rw [show (((Utf8.decode s pos).1 : Int) = (c : Int)) ↔ (Utf8.decode s pos).1 = c by omega, low_iff s pos c hp hc]
  constructor
  · intro e; exact UInt8.toNat_inj.1 (e.trans hb.symm)
  · intro e; rw [e, hb]
theorem rune1 {s : ByteArray} {pos : Nat} (hp : pos < s.size) (h : s[pos].toNat < 128) : (Utf8.decode s pos).2 = 1 := by rw [decode_ascii s pos hp h]
theorem err_close {s : ByteArray} {l : List Pc} {fr pos : Nat} (hfp : fr ≤ pos) (hp : pos < s.size) (c : s[pos] = 125) (HP : ∀ r, Par s fr r → Par s 0 (pre l r)) (hno : ∀ m (hm : m < s.size), fr ≤ m → m < pos → ¬ brace s[m]) : Par s 0 (.error pos) := by
  rcases Nat.lt_or_ge fr pos with g | g
  · exact HP _ (Par.text fr pos _ (by omega) g (by omega) hno (fun _ => Or.inr c) (Par.closes pos hp c))
  · obtain rfl : fr = pos := by omega
    exact HP _ (Par.closes fr hp c)
theorem err_place {s : ByteArray} {l : List Pc} {o pos : Nat} (hop : o < pos) (hp : pos < s.size) (c : s[pos] = 125) (ho : ∃ ho : o < s.size, s[o] = 123) (HP : ∀ r, Par s o r → Par s 0 (pre l r)) (hno : ∀ m (hm : m < s.size), o < m → m < pos → s[m] ≠ 125)
    (hq : placeOf (s.extract (o + 1) pos).data.toList = none) : Par s 0 (.error o) := by
  obtain ⟨ho, c0⟩ := ho
  exact HP _ (Par.badplace o pos ho c0 hop hp c hno hq)
theorem ok_place {s : ByteArray} {l : List Pc} {o pos m : Nat} (hop : o < pos) (hp : pos < s.size) (c : s[pos] = 125) (ho : ∃ ho : o < s.size, s[o] = 123) (HP : ∀ r, Par s o r → Par s 0 (pre l r)) (hno : ∀ m (hm : m < s.size), o < m → m < pos → s[m] ≠ 125)
    (hq : placeOf (s.extract (o + 1) pos).data.toList = some m) : Mode s (l ++ [Pc.mk 2 ⟨#[]⟩ m]) (pos + 1) (pos + 1) (-1) := by
  obtain ⟨ho, c0⟩ := ho
  refine Or.inl ⟨rfl, fun r hr => ?_, fun m hm h1 h2 => by omega⟩
  rw [← pre_pre]
  exact HP _ (Par.opens o pos m r ho c0 hop hp c hno hq hr)
theorem err_open {s : ByteArray} {l : List Pc} {o pos : Nat} (hp : pos = s.size) (ho : ∃ ho : o < s.size, s[o] = 123) (HP : ∀ r, Par s o r → Par s 0 (pre l r)) (hno : ∀ m (hm : m < s.size), o < m → m < pos → s[m] ≠ 125) : Par s 0 (.error o) := by
  obtain ⟨ho, c0⟩ := ho
  exact HP _ (Par.noclose o ho c0 (fun k hk h => hno k hk h (by omega)))
theorem ok_end {s : ByteArray} {l : List Pc} {fr : Nat} (hf : ¬ fr < s.size) (HP : ∀ r, Par s fr r → Par s 0 (pre l r)) : Par s 0 (.ok l) := par_end HP hf
theorem ok_end_text {s : ByteArray} {l : List Pc} {fr pos : Nat} (hf : fr < pos) (hp : pos = s.size) (HP : ∀ r, Par s fr r → Par s 0 (pre l r)) (hno : ∀ m (hm : m < s.size), fr ≤ m → m < pos → ¬ brace s[m]) : Par s 0 (.ok (l ++ [Pc.mk 1 (s.extract fr pos) 0])) :=
  par_end (par_text HP (by omega) hf (by omega) hno (fun h => absurd h (by omega))) (by omega)
set_option maxRecDepth 100000 in
set_option maxHeartbeats 8000000 in
theorem parse_any (s : ByteArray) (hs : s.size ≤ 281474976710656) (w : World) (hg : Glob w) : Calls Tryd.prog 13 #[.string s] w (Parsed s w) := by
  by_cases h0 : 4096 < s.size
  · have h1 : (4096 : Int) < s.size := by omega
    go_enter Tryd.func13, Tryd.ntmps13
    go_wp2_with fail
    go_step3
    go_wp2_with fail
    try rw [Exit.noGoto_ret]
    refine bodyPost_ret (v := .tuple #[.slice none 0 0, sp 3 4096]) ?_ rfl (Or.inr ⟨_, _, Or.inl ⟨h0, rfl, rfl⟩, rfl, ?_⟩)
    · simp [sp, results, Tryd.results13, go_sem]
    · exact ((Below.refl _ _).alloc (Nat.le_refl _) _).alloc (by simp) _
  have h1 : s.size ≤ 4096 := by omega
  have HU := utfCheck s (by omega)
  cases hb : brk s 0 with
  | some j =>
    have H := Lib.hid hb
    rw [hb] at HU
    unfold spotV at HU
    clear hb
    go_enter Tryd.func13, Tryd.ntmps13
    go_wp2_with fail
    go_step3
    go_wp2_with fail
    refine (HU _).mono ?_
    rintro e w1 ⟨rfl, hb1⟩
    go_wp2_with fail
    have hB3 := (Blk.new (w.alloc (.cells #[.string s] 9)) 26 #[.int .i64 0, .int .i64 0]).below hb1 (by simp)
    simp only [World.size_alloc] at hB3
    have c0 := hB3.at_ 0 (v := .int .i64 0) rfl
    have c1 := hB3.at_ 1 (v := .int .i64 0) rfl
    have f0 := hB3.frozen
    have hlt := hB3.lt
    have hbw : Below w.heap.size w w1 := (((Below.refl _ w).alloc (Nat.le_refl _) _).alloc (by simp) _).trans (hb1.mono (by simp; omega))
    go_region
    all_goals
      go_wp2_with fail
      try rw [Exit.noGoto_ret]
      refine bodyPost_ret (v := .tuple #[.slice none 0 0, sp 6 j]) ?_ rfl (Or.inr ⟨_, _, Or.inr (Or.inl ⟨h1, j, H.out, rfl, rfl⟩), rfl, ?_⟩)
      · simp [sp, results, Tryd.results13, go_sem, c0, c1, hlt]
      · repeat' (first | (with_reducible exact hbw) | (with_reducible refine Below.setCell ?_ ?_ _) | (with_reducible refine Below.alloc ?_ ?_ _) | (with_reducible refine blw_drew ?_) | (with_reducible refine blw_drewN ?_ _) | (simp; done) | (simp; omega))
  | none =>
    have H := Lib.hid hb
    rw [hb] at HU
    unfold spotV at HU
    clear hb
    go_enter Tryd.func13, Tryd.ntmps13
    go_wp2_with fail
    go_step3
    go_wp2_with fail
    refine (HU _).mono ?_
    rintro e w1 ⟨rfl, hb1⟩
    have hB1 := ((Blk.new w 9 #[.string s]).alloc (.cells #[.int .i64 0, .int .i64 0] 26)).below hb1 (by simp; omega)
    have hB3 := (Blk.new (w.alloc (.cells #[.string s] 9)) 26 #[.int .i64 0, .int .i64 0]).below hb1 (by simp)
    simp only [World.size_alloc] at hB3
    have hbw : Below w.heap.size w w1 := (((Below.refl _ w).alloc (Nat.le_refl _) _).alloc (by simp) _).trans (hb1.mono (by simp; omega))
    have hg1 : Glob w1 := hg.below hbw hg.size
    have hlt := hB3.lt
    have hlt0 := hB1.lt
    have d0 := hB1.at_ 0 (v := .string s) rfl
    have d3 := (((hB1.alloc (.cells #[.int .i64 0, .int .i64 0] 26)).alloc (.cells #[.slice none 0 0] 23)).alloc (.cells #[.int .i64 0] 3)).at_ 0 (v := .string s) rfl
    clear hb1 hg
    go_wp2_with fail
    go_step3
    go_wp2_with fail
    clear d0 d3
    go_loopw [7] (fun u wr => ∃ (pos fr : Nat) (op : Int) (l : List Pc) (v : Value), u = .int .i64 op ∧ wr.heap[w1.heap.size + 1 + 1 + 1]? = some (.stringIter s pos) ∧ Blk wr w.heap.size 9 #[.string s] ∧ Blk wr (w.heap.size + 1) 26 #[.int .i64 0, .int .i64 0] ∧ Blk wr (w1.heap.size + 1) 23 #[v] ∧ Blk wr (w1.heap.size + 1 + 1) 3 #[.int .i64 fr] ∧ wr.ownsRow w1.heap.size 31 3 v l.length (pcells l) ∧ Below w1.heap.size w1 wr ∧ fr ≤ pos ∧ pos ≤ s.size ∧ l.length ≤ pos ∧ Mode s l fr pos op) (fun _ wr => s.size - wr.iterPos (w1.heap.size + 1 + 1 + 1))
    case atStart =>
      refine ⟨0, 0, -1, [], .slice none 0 0, rfl, ?_, ((hB1.alloc _).alloc _).alloc _ |>.alloc _, ((hB3.alloc _).alloc _).alloc _ |>.alloc _, ?_, ?_, ⟨rfl, Or.inl ⟨rfl, rfl⟩⟩, ((((Below.refl _ w1).alloc (Nat.le_refl _) _).alloc (by simp) _).alloc (by simp; omega) _).alloc (by simp; omega) _, by omega, by omega, by simp, Or.inl ⟨rfl, fun r h => by rw [pre_nil]; exact h, fun m hm h1 h2 => by omega⟩⟩
      · have := World.iter_heap (((w1.alloc (.cells #[.int .i64 0, .int .i64 0] 26)).alloc (.cells #[.slice none 0 0] 23)).alloc (.cells #[.int .i64 0] 3)) s 0
        simpa using this
      · have := ((Blk.new (w1.alloc (.cells #[.int .i64 0, .int .i64 0] 26)) 23 #[.slice none 0 0]).alloc (.cells #[.int .i64 0] 3)).alloc (.stringIter s 0)
        simp only [World.size_alloc] at this
        exact this
      · have := (Blk.new ((w1.alloc (.cells #[.int .i64 0, .int .i64 0] 26)).alloc (.cells #[.slice none 0 0] 23)) 3 #[.int .i64 0]).alloc (.stringIter s 0)
        simp only [World.size_alloc] at this
        exact this
    case round =>
      obtain ⟨pos, fr, op, l, v, rfl, hit, b1, b3, bL, bF, hown, hbe, hfp, hp, hl, hm⟩ := hrel
      have hsz : w1.heap.size + 1 + 1 + 1 < wr.heap.size := (Array.getElem?_eq_some_iff.1 hit).1
      have hl9 : l.length ≤ 1000000000000 := by omega
      by_cases hpos : pos < s.size
      · have hnx : ∀ ty, (Instr.next (.pointer (some ⟨w1.heap.size + 1 + 1 + 1, 0, none⟩)) true ty).run Tryd.prog wr = _ := fun ty => Lib.run_next_any_at wr (w1.heap.size + 1 + 1 + 1) s pos ty hit hpos
        have n1 := Ph.w1 s pos
        have n2 := wIn s pos hpos
        have n3 := decode_le s pos
        have r123 := rune_eq hpos (c := 123) (by omega) (b := 123) rfl
        have r125 := rune_eq hpos (c := 125) (by omega) (b := 125) rfl
        have it2 := Lib.iterAt_heap wr (w1.heap.size + 1 + 1 + 1) s pos (pos + (Utf8.decode s pos).2) hit
        have b1i := b1.iterAt hit (pos + (Utf8.decode s pos).2)
        have b3i := b3.iterAt hit (pos + (Utf8.decode s pos).2)
        have bLi := bL.iterAt hit (pos + (Utf8.decode s pos).2)
        have bFi := bF.iterAt hit (pos + (Utf8.decode s pos).2)
        have owi := own_iterAt hown hit (pos + (Utf8.decode s pos).2)
        have bei := Lib.below_iterAt hbe (k := w1.heap.size + 1 + 1 + 1) (by omega) s (pos + (Utf8.decode s pos).2)
        rcases hm with ⟨rfl, HP, hno⟩ | ⟨o, rfl, hfo, hop, hoo, HP, hno⟩
        · by_cases c1 : s[pos] = 123
          · have t1 : (((Utf8.decode s pos).1 : Int) == 123) = true := by rw [show (123 : Int) = ((123 : Nat) : Int) from rfl, r123]; simpa using c1
            have w1e := rune1 hpos (by rw [c1]; decide)
            rcases Nat.lt_or_ge fr pos with g | g
            · have HC := clo_yes s fr pos _ _ _ w1.heap.size v l _ bFi bLi b1i owi bei.size hl9 g (by omega) hs
              have HM := Lib.hid (show Mode s (l ++ [Pc.mk 1 (s.extract fr pos) 0]) fr (pos + (Utf8.decode s pos).2) pos from Or.inr ⟨pos, rfl, hfp, by omega, ⟨hpos, c1⟩, par_text HP (by omega) g (by omega) hno (fun _ => Or.inl c1), fun m hm h1 h2 => by omega⟩)
              clear r123 r125 c1 HP hno w1e
              go_wp2_with fail
              refine HC.mono ?_
              rintro e w2 ⟨rfl, v2, bL2, ow2, hT⟩
              have it3 := (hT.block _ (by rw [Lib.iterAt_size]; exact hsz) (own_iter_ne owi it2) (by omega)).trans it2
              have b12 := hT.blk b1i (own_blk_ne owi b1i (by decide)).symm (by omega)
              have b32 := hT.blk b3i (own_blk_ne owi b3i (by decide)).symm (by omega)
              have bF2 := hT.blk bFi (own_blk_ne owi bFi (by decide)).symm (by omega)
              have be2 := hT.below bei bei.size (fun k hk => (owi.lt k hk).1) (by omega)
              clear hT
              go_wp2_with fail
              go_roundw
              case rel => exact ⟨pos + (Utf8.decode s pos).2, fr, pos, _, v2, rfl, it3, b12, b32, bL2, bF2, ow2, be2, by omega, n2, by simp; omega, HM.out⟩
              case measure =>
                simp only [World.iterPos, it3, hit]
                omega
            · obtain rfl : fr = pos := by omega
              have HC := clo_no (fr : Int) fr _ (w1.heap.size + 1) w.heap.size _ bFi (by omega)
              have HM := Lib.hid (show Mode s l fr (fr + (Utf8.decode s fr).2) fr from Or.inr ⟨fr, rfl, hfp, by omega, ⟨hpos, c1⟩, HP, fun m hm h1 h2 => by omega⟩)
              clear r123 r125 c1 HP hno w1e
              go_wp2_with fail
              refine HC.mono ?_
              rintro e w2 ⟨rfl, rfl⟩
              go_wp2_with fail
              go_roundw
              case rel => exact ⟨fr + (Utf8.decode s fr).2, fr, fr, l, v, rfl, it2, b1i, b3i, bLi, bFi, owi, bei, by omega, n2, by omega, HM.out⟩
              case measure =>
                simp only [World.iterPos, it2, hit]
                omega
          by_cases c2 : s[pos] = 125
          · have t1 : (((Utf8.decode s pos).1 : Int) == 123) = false := by rw [show (123 : Int) = ((123 : Nat) : Int) from rfl, r123]; simpa using c1
            have t2 : (((Utf8.decode s pos).1 : Int) == 125) = true := by rw [show (125 : Int) = ((125 : Nat) : Int) from rfl, r125]; simpa using c2
            have E := Lib.hid (err_close hfp hpos c2 HP hno)
            have d0 := b3i.at_ 0 (v := .int .i64 0) rfl
            have d1 := b3i.at_ 1 (v := .int .i64 0) rfl
            have df := b3i.frozen
            clear r123 r125 c1 c2 HP hno
            go_wp2_with fail
            try rw [Exit.noGoto_ret]
            refine bodyPost_ret (v := .tuple #[.slice none 0 0, sp 280 pos]) ?_ rfl (Or.inr ⟨_, _, Or.inr (Or.inr ⟨h1, H.out, pos, E.out, rfl, rfl⟩), rfl, ?_⟩)
            · simp [sp, results, Tryd.results13, go_sem, d0, d1]
            · exact (((hbw.trans (bei.mono hbw.size))).setCell (by simp) _).setCell (by simp) _
          · have t1 : (((Utf8.decode s pos).1 : Int) == 123) = false := by rw [show (123 : Int) = ((123 : Nat) : Int) from rfl, r123]; simpa using c1
            have t2 : (((Utf8.decode s pos).1 : Int) == 125) = false := by rw [show (125 : Int) = ((125 : Nat) : Int) from rfl, r125]; simpa using c2
            have HM := Lib.hid (show Mode s l fr (pos + (Utf8.decode s pos).2) (-1) from Or.inl ⟨rfl, HP, skipA hpos (fun e => e.elim c1 c2) hno⟩)
            clear r123 r125 c1 c2 HP hno
            go_wp2_with fail
            go_roundw
            case rel => exact ⟨pos + (Utf8.decode s pos).2, fr, -1, l, v, rfl, it2, b1i, b3i, bLi, bFi, owi, bei, by omega, n2, by omega, HM.out⟩
            case measure =>
              simp only [World.iterPos, it2, hit]
              omega
        · by_cases c2 : s[pos] = 125
          · have t2 : (((Utf8.decode s pos).1 : Int) == 125) = true := by rw [show (125 : Int) = ((125 : Nat) : Int) from rfl, r125]; simpa using c2
            have t1 : (((Utf8.decode s pos).1 : Int) == 123) = false := by rw [show (123 : Int) = ((123 : Nat) : Int) from rfl, r123]; simp [c2]
            have w1e := rune1 hpos (by rw [c2]; decide)
            have q1 : o + 1 ≤ pos := by omega
            have q2 : pos ≤ s.size := hp
            have hes : (s.extract (o + 1) pos).size ≤ 281474976710656 := by rw [ByteArray.size_extract]; omega
            cases hq : placeOf (s.extract (o + 1) pos).data.toList with
            | none =>
              have HN := place_no (s.extract (o + 1) pos) hes hq _ (hg1.below bei hg1.size)
              have E := Lib.hid (err_place hop hpos c2 hoo HP hno hq)
              have d0 := b3i.at_ 0 (v := .int .i64 0) rfl
              have d1 := b3i.at_ 1 (v := .int .i64 0) rfl
              have df := b3i.frozen
              have db := b1i.at_ 0 (v := .string s) rfl
              clear r123 r125 c2 HP hno w1e hes hq hoo
              go_wp2_with fail
              refine HN.mono ?_
              rintro e w2 ⟨n, rfl, hb2⟩
              have b32 := b3i.below hb2 b3i.lt
              have d02 := b32.at_ 0 (v := .int .i64 0) rfl
              have d12 := b32.at_ 1 (v := .int .i64 0) rfl
              have df2 := b32.frozen
              have be2 := bei.trans (hb2.mono bei.size)
              go_wp2_with fail
              try rw [Exit.noGoto_ret]
              refine bodyPost_ret (v := .tuple #[.slice none 0 0, sp 280 o]) ?_ rfl (Or.inr ⟨_, _, Or.inr (Or.inr ⟨h1, H.out, o, E.out, rfl, rfl⟩), rfl, ?_⟩)
              · simp [sp, results, Tryd.results13, go_sem, d02, d12]
              · exact (((hbw.trans (be2.mono hbw.size))).setCell (by simp) _).setCell (by simp) _
            | some m =>
              have HN := place_yes (s.extract (o + 1) pos) m hq ((wr.iterAt (w1.heap.size + 1 + 1 + 1) s (pos + (Utf8.decode s pos).2)))
              have HM := Lib.hid (ok_place hop hpos c2 hoo HP hno hq)
              have HW := Lib.hid w1e
              have db := b1i.at_ 0 (v := .string s) rfl
              clear r123 r125 c2 HP hno w1e hes hq hoo
              go_wp2_with fail
              refine HN.mono ?_
              rintro e w2 ⟨rfl, hb2⟩
              have b12 := b1i.below hb2 b1i.lt
              have b32 := b3i.below hb2 b3i.lt
              have bL2 := bLi.below hb2 bLi.lt
              have bF2 := bFi.below hb2 bFi.lt
              have ow2 := own_below owi hb2
              have be2 := bei.trans (hb2.mono bei.size)
              have it4 := (hb2.block _ (by rw [Lib.iterAt_size]; exact hsz)).trans it2
              have dL := bL2.at_ 0 (v := v) rfl
              have dLf := bL2.frozen
              clear hb2
              go_wp2_with (first | (at_builtin; refine wpPieceS rfl (.tmp 59) (.tmp 62) rfl w1.heap.size w2 v l (Pc.mk 2 ⟨#[]⟩ m) rfl ow2 rfl hl9 be2.size ?_; intro gg cap w3 ow3 hg3; have bL3 := (bL2.alloc (.cells #[.int .i64 2, .string ⟨#[]⟩, .int .i64 m] 31)).grown hg3 (own_blk_ne ow2 bL2 (by decide)).symm; have bF3 := (bF2.alloc (.cells #[.int .i64 2, .string ⟨#[]⟩, .int .i64 m] 31)).grown hg3 (own_blk_ne ow2 bF2 (by decide)).symm; have eL := bL3.at_ 0 (v := v) rfl; have eLf := bL3.frozen; have eF := bF3.at_ 0 (v := .int .i64 fr) rfl; have eFf := bF3.frozen))
              have b13 := (b12.alloc (.cells #[.int .i64 2, .string ⟨#[]⟩, .int .i64 m] 31)).grown hg3 (own_blk_ne ow2 b12 (by decide)).symm
              have b33 := (b32.alloc (.cells #[.int .i64 2, .string ⟨#[]⟩, .int .i64 m] 31)).grown hg3 (own_blk_ne ow2 b32 (by decide)).symm
              have it5 := (hg3.block (w1.heap.size + 1 + 1 + 1) (by simp; have := (Array.getElem?_eq_some_iff.1 it4).1; omega) (own_iter_ne ow2 it4)).trans ((Below.heap_alloc w2 _ _ (Array.getElem?_eq_some_iff.1 it4).1).trans it4)
              have be3 := (be2.alloc be2.size (.cells #[.int .i64 2, .string ⟨#[]⟩, .int .i64 m] 31)).grown hg3 (by simp; have := be2.size; omega) (fun k hk => (ow2.lt k hk).1)
              have X1 := (bL3.set_ 0 (.slice (some ⟨gg, 0, none⟩) (l.length + 1) cap)).far (p := ⟨w1.heap.size + 1 + 1, 0, none⟩) (by simp) (.int .i64 (pos + 1))
              have X2 := (bF3.far (p := ⟨w1.heap.size + 1, 0, none⟩) (by simp) (.slice (some ⟨gg, 0, none⟩) (l.length + 1) cap)).set_ 0 (.int .i64 (pos + 1))
              have X3 := (b13.far (p := ⟨w1.heap.size + 1, 0, none⟩) (by show w.heap.size ≠ w1.heap.size + 1; omega) (.slice (some ⟨gg, 0, none⟩) (l.length + 1) cap)).far (p := ⟨w1.heap.size + 1 + 1, 0, none⟩) (by show w.heap.size ≠ w1.heap.size + 1 + 1; omega) (.int .i64 (pos + 1))
              have X4 := (b33.far (p := ⟨w1.heap.size + 1, 0, none⟩) (by show w.heap.size + 1 ≠ w1.heap.size + 1; omega) (.slice (some ⟨gg, 0, none⟩) (l.length + 1) cap)).far (p := ⟨w1.heap.size + 1 + 1, 0, none⟩) (by show w.heap.size + 1 ≠ w1.heap.size + 1 + 1; omega) (.int .i64 (pos + 1))
              have X5 := own_far (own_far ow3 (p := ⟨w1.heap.size + 1, 0, none⟩) (own_blk_ne ow3 bL3 (by decide)) (.slice (some ⟨gg, 0, none⟩) (l.length + 1) cap)) (p := ⟨w1.heap.size + 1 + 1, 0, none⟩) (own_blk_ne ow3 bF3 (by decide)) (.int .i64 (pos + 1))
              have X6 := (Below.heap_setCell (w3.setCell ⟨w1.heap.size + 1, 0, none⟩ (.slice (some ⟨gg, 0, none⟩) (l.length + 1) cap)) ⟨w1.heap.size + 1 + 1, 0, none⟩ (.int .i64 (pos + 1)) (w1.heap.size + 1 + 1 + 1) (by show w1.heap.size + 1 + 1 + 1 ≠ w1.heap.size + 1 + 1; omega)).trans ((Below.heap_setCell w3 ⟨w1.heap.size + 1, 0, none⟩ (.slice (some ⟨gg, 0, none⟩) (l.length + 1) cap) (w1.heap.size + 1 + 1 + 1) (by show w1.heap.size + 1 + 1 + 1 ≠ w1.heap.size + 1; omega)).trans it5)
              have X7 := (be3.setCell (p := ⟨w1.heap.size + 1, 0, none⟩) (by show w1.heap.size ≤ w1.heap.size + 1; omega) (.slice (some ⟨gg, 0, none⟩) (l.length + 1) cap)).setCell (p := ⟨w1.heap.size + 1 + 1, 0, none⟩) (by show w1.heap.size ≤ w1.heap.size + 1 + 1; omega) (.int .i64 (pos + 1))
              have HM3 := Lib.hid (show Mode s (l ++ [Pc.mk 2 ⟨#[]⟩ m]) (pos + 1) (pos + (Utf8.decode s pos).2) (-1) by rw [HW.out]; exact HM.out)
              have cast1 : (pos : Int) + 1 = ((pos + 1 : Nat) : Int) := by omega
              rw [cast1] at X1 X2 X3 X4 X5 X6 X7
              have C1 := Lib.hid cast1
              clear cast1 bL3 bF3 b13 b33 ow3 it5 be3 hg3 eL eLf eF eFf
              go_roundw
              case rel =>
                rw [C1.out]
                exact ⟨pos + (Utf8.decode s pos).2, pos + 1, -1, _, _, rfl, X6, X3, X4, X1, X2, X5, X7, by omega, n2, by simp; omega, HM3.out⟩
              case measure =>
                rw [C1.out]
                simp only [World.iterPos, X6, hit]
                omega
          · have t2 : (((Utf8.decode s pos).1 : Int) == 125) = false := by rw [show (125 : Int) = ((125 : Nat) : Int) from rfl, r125]; simpa using c2
            have HM := Lib.hid (show Mode s l fr (pos + (Utf8.decode s pos).2) o from Or.inr ⟨o, rfl, hfo, by omega, hoo, HP, skipB hpos c2 hno⟩)
            clear r123 r125 c2 HP hno hoo
            go_wp2_with fail
            all_goals
              go_roundw
              case rel => exact ⟨pos + (Utf8.decode s pos).2, fr, o, l, v, rfl, it2, b1i, b3i, bLi, bFi, owi, bei, by omega, n2, by omega, HM.out⟩
              case measure =>
                simp only [World.iterPos, it2, hit]
                omega
      · have hnx : ∀ ty, (Instr.next (.pointer (some ⟨w1.heap.size + 1 + 1 + 1, 0, none⟩)) true ty).run Tryd.prog wr = _ := fun ty => Lib.run_next_end_at wr (w1.heap.size + 1 + 1 + 1) s pos ty hit hpos
        have e1 := b3.at_ 0 (v := .int .i64 0) rfl
        have e2 := b3.at_ 1 (v := .int .i64 0) rfl
        have ef := b3.frozen
        rcases hm with ⟨rfl, HP, hno⟩ | ⟨o, rfl, hfo, hop, hoo, HP, hno⟩
        · have hpe : pos = s.size := by omega
          have f1 := b1.at_ 0 (v := .string s) rfl
          rcases Nat.lt_or_ge fr s.size with g | g
          · have HC := clo_yes s fr s.size _ _ _ w1.heap.size v l _ bF bL b1 hown hbe.size hl9 g (by omega) hs
            have E := Lib.hid (ok_end_text g rfl HP (by rw [hpe] at hno; exact hno))
            clear HP hno hpe
            go_wp2_with fail
            refine HC.mono ?_
            rintro e w2 ⟨rfl, v2, bL2, ow2, hT⟩
            have b32 := hT.blk b3 (own_blk_ne hown b3 (by decide)).symm (by omega)
            have be2 := hT.below hbe hbe.size (fun k hk => (hown.lt k hk).1) (by omega)
            have d0 := b32.at_ 0 (v := .int .i64 0) rfl
            have d1 := b32.at_ 1 (v := .int .i64 0) rfl
            have df := b32.frozen
            have dL := bL2.at_ 0 (v := v2) rfl
            clear hT
            go_wp2_with fail
            try rw [Exit.noGoto_ret]
            refine bodyPost_ret (v := .tuple #[v2, sp 0 0]) ?_ rfl (Or.inl ⟨_, v2, ⟨h1, H.out, E.out⟩, rfl, ?_, ?_⟩)
            · simp [sp, results, Tryd.results13, go_sem, d0, d1]
            · refine own_base (own_far (own_far ow2 ?_ _) ?_ _) hbw.size
              · exact own_blk_ne ow2 b32 (by decide)
              · exact own_blk_ne ow2 b32 (by decide)
            · exact (((hbw.trans (be2.mono hbw.size))).setCell (by simp) _).setCell (by simp) _
          · have HC := clo_no (fr : Int) s.size _ (w1.heap.size + 1) w.heap.size _ bF (by omega)
            have E := Lib.hid (ok_end (by omega) HP)
            have dL := bL.at_ 0 (v := v) rfl
            clear HP hno hpe
            go_wp2_with fail
            refine HC.mono ?_
            rintro e w2 ⟨rfl, rfl⟩
            go_wp2_with fail
            try rw [Exit.noGoto_ret]
            refine bodyPost_ret (v := .tuple #[v, sp 0 0]) ?_ rfl (Or.inl ⟨_, v, ⟨h1, H.out, E.out⟩, rfl, ?_, ?_⟩)
            · simp [sp, results, Tryd.results13, go_sem, e1, e2]
            · refine own_base (own_far (own_far hown ?_ _) ?_ _) hbw.size
              · exact own_blk_ne hown b3 (by decide)
              · exact own_blk_ne hown b3 (by decide)
            · exact (((hbw.trans (hbe.mono hbw.size))).setCell (by simp) _).setCell (by simp) _
        · have E := Lib.hid (err_open (by omega) hoo HP hno)
          clear HP hno hoo
          go_wp2_with fail
          try rw [Exit.noGoto_ret]
          refine bodyPost_ret (v := .tuple #[.slice none 0 0, sp 280 o]) ?_ rfl (Or.inr ⟨_, _, Or.inr (Or.inr ⟨h1, H.out, o, E.out, rfl, rfl⟩), rfl, ?_⟩)
          · simp [sp, results, Tryd.results13, go_sem, e1, e2]
          · exact (((hbw.trans (hbe.mono hbw.size))).setCell (by simp) _).setCell (by simp) _
end Go.Proofs.YtbgcngkofbelmaaDoor
