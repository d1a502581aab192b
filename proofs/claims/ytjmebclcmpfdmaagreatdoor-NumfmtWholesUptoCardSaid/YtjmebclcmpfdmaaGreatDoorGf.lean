/-
  The paths of a sign and of the digits, in plain Lean. Condition: the system is a name.
  What the sources say at the paths of a sign and of the digits. Conditions: the keys lie where the steps say; sizes.
  numfmt.at with one key. Condition: the strings lie where the slice says.
  The runes of a text, in plain Lean: what the conversion to runes gives, their number, and that a right text is valid. No condition.
  unicode/utf8's ValidString at this program: the library's contract, laid by hand. Conditions: those that the theorem names.
  The digits of a system, as runes: numfmt's voice.digits, ref25's Runes and Source.Digits. Conditions: the slice reads as what is said, in right texts; utf8's tables are laid; sizes.
  The reference's Runes of a right text, and Source.Digits. Conditions: the slice reads as what is said, in right texts; sizes.
  The digits of a system: ref25's Source.Digits. Conditions: the slice reads as what is said, in right texts; sizes.
-/
import Derived.Test.YtjmebclcmpfdmaaGreatDoorGe
import Derived.Deep.RegionLaw
import Derived.Deep.AppendLies
import Derived.Test.YtjmebclcmpfdmaaGreatDoorGa
import Derived.Lib.ValidLaws
import Derived.Lib.RuneCount
import Derived.Lib.RuneBytes
import Derived.Lib.MapLaws
import Derived.Test.YtjmebclcmpfdmaaGreatDoorRows
import Derived.Shelf.Unicode.ValidAny
import Derived.Test.YtjmebclcmpfdmaaGreatDoorShelf
set_option linter.unusedVariables false
set_option linter.unusedSimpArgs false
namespace Go.Proofs.YtjmebclcmpfdmaaGreatDoor
open Go.RowKit
open Ph
def symbolsB : ByteArray := ⟨#[115, 121, 109, 98, 111, 108, 115]⟩
def nsB : ByteArray := ⟨#[110, 117, 109, 98, 101, 114, 83, 121, 115, 116, 101, 109]⟩
def digitsB : ByteArray := ⟨#[100, 105, 103, 105, 116, 115]⟩
def idB : ByteArray := ⟨#[105, 100]⟩
/-- the path of the minus sign in a system of digits -/
def symP (v : ByteArray) : List Stp := [⟨numbersB, []⟩, ⟨symbolsB, [(nsB, v)]⟩, ⟨minusB, []⟩]
/-- the path of a system's digits -/
def digP (v : ByteArray) : List Stp := [⟨digitsB, [(idB, v)]⟩]
theorem named_val {v : ByteArray} (h : namedB v = true) : valB v = true := by
  unfold namedB nameB allB at h
  simp only [Bool.and_eq_true, decide_eq_true_eq] at h
  unfold valB
  rw [h.1.1.2, decide_eq_true h.2]; rfl
theorem named_le {v : ByteArray} (h : namedB v = true) : v.size ≤ 64 := by
  unfold namedB at h
  simp only [Bool.and_eq_true, decide_eq_true_eq] at h
  exact h.2
theorem key_step (n k v : ByteArray) (hn : (nameB n && decide (n.size ≤ 64)) = true) (hk : (nameB k && (decide (k.size ≤ 64) && !(leS k ⟨#[]⟩))) = true) (hv : valB v = true) : stepB ⟨n, [(k, v)]⟩ = true := by
  simp only [Bool.and_eq_true, decide_eq_true_eq, Bool.not_eq_true'] at hn hk
  unfold stepB
  rw [hn.1, decide_eq_true hn.2]
  simp only [keysB, keyB, hk.1, decide_eq_true hk.2.1, hv, hk.2.2]
  rfl
theorem one_step (n : ByteArray) (hn : (nameB n && decide (n.size ≤ 64)) = true) : stepB ⟨n, []⟩ = true := by
  simp only [Bool.and_eq_true, decide_eq_true_eq] at hn
  unfold stepB
  rw [hn.1, decide_eq_true hn.2]; rfl
theorem key_size (n k v : ByteArray) : (stepT ⟨n, [(k, v)]⟩).size = n.size + (k.size + v.size + 3) := by
  show (n ++ keyT (k, v)).size = _
  rw [ByteArray.size_append, keyT_size]
theorem symP_ok {v : ByteArray} (h : namedB v = true) : PathOk (symP v) := by
  refine ⟨by simp [symP, digP], by simp [symP, digP], ?_, ?_⟩
  · have h1 := named_le h
    have h2 := key_size symbolsB nsB v
    show (stepT ⟨numbersB, []⟩).size + 1 + ((stepT ⟨symbolsB, [(nsB, v)]⟩).size + 1 + ((stepT ⟨minusB, []⟩).size + 1 + 0)) ≤ 513
    rw [h2]
    show 7 + 1 + (7 + (12 + v.size + 3) + 1 + (9 + 1 + 0)) ≤ 513
    omega
  · intro s hs
    simp only [symP, List.mem_cons, List.not_mem_nil, or_false] at hs
    rcases hs with rfl | rfl | rfl
    · exact ⟨one_step _ (by decide +kernel), by simp⟩
    · exact ⟨key_step _ _ _ (by decide +kernel) (by decide +kernel) (named_val h), by simp⟩
    · exact ⟨one_step _ (by decide +kernel), by simp⟩
theorem digP_ok {v : ByteArray} (h : namedB v = true) : PathOk (digP v) := by
  refine ⟨by simp [symP, digP], by simp [symP, digP], ?_, ?_⟩
  · have h1 := named_le h
    have h2 := key_size digitsB idB v
    show (stepT ⟨digitsB, [(idB, v)]⟩).size + 1 + 0 ≤ 513
    rw [h2]
    show 6 + (2 + v.size + 3) + 1 + 0 ≤ 513
    omega
  · intro s hs
    simp only [digP, List.mem_cons, List.not_mem_nil, or_false] at hs
    subst hs
    exact ⟨key_step _ _ _ (by decide +kernel) (by decide +kernel) (named_val h), by simp⟩
theorem latn_named : namedB latnB = true := by decide +kernel
theorem system_named (L : List Sd) (loc : ByteArray) : namedB (systemV L loc) = true := by
  unfold systemV
  cases valueOf L loc (leftT sysP) with
  | none => exact latn_named
  | some v =>
    dsimp only
    split
    · assumption
    · exact latn_named
end Go.Proofs.YtjmebclcmpfdmaaGreatDoor
namespace Go.Proofs.YtjmebclcmpfdmaaGreatDoor
open Go.RowKit
open Ph
theorem cells_key {w : World} {B : Nat} (n k v : ByteArray) (A : Option Addr) (c : Nat) (hp : Pairs w B A [(k, v)]) {l : List Stp} {xs : List Value} (h : Cells w B l xs) : Cells w B (⟨n, [(k, v)]⟩ :: l) (.string n :: .slice A 1 c :: xs) := .cons n [(k, v)] A c l xs hp h
theorem ask_dig (A : Option Addr) (L : List Sd) (c B : Nat) (loc v : ByteArray) (hv : namedB v = true) (hn : L.length ≤ 281474976710656) (w : World) (hL : Saids w B A L) (hB : B ≤ w.heap.size) (A1 : Option Addr) (c1 : Nat) (hp : Pairs w w.heap.size A1 [(idB, v)]) :
    Calls Tryz.prog 41 #[.agg #[.slice A L.length c], .string loc, .slice (some ⟨w.heap.size, 0, none⟩) 1 1] (w.alloc (.cells #[.string digitsB, .slice A1 1 c1] 92)) fun e w' => e = .returned (valR (valueOf L loc (leftT (digP v)))) ∧ Below (w.heap.size + 1) (w.alloc (.cells #[.string digitsB, .slice A1 1 c1] 92)) w' := by
  have S : Steps _ _ _ (digP v) := steps_new (cells_key digitsB idB v A1 c1 hp Cells.nil) (Nat.le_refl _) 92
  have hz : (w.alloc (.cells #[.string digitsB, .slice A1 1 c1] 92)).heap.size = w.heap.size + 1 := by simp
  have := Ask_any A L c (w.heap.size + 1) loc (some ⟨w.heap.size, 0, none⟩) 1 (digP v) (digP_ok hv) hn (w.alloc (.cells #[.string digitsB, .slice A1 1 c1] 92)) ((hL.below ((Below.refl B w).alloc hB _)).more (by omega)) S (by omega)
  rw [hz] at this
  exact this
theorem say_dig (A : Option Addr) (L : List Sd) (c B : Nat) (loc v : ByteArray) (hv : namedB v = true) (hn : L.length ≤ 281474976710656) (w : World) (hL : Saids w B A L) (hB : B ≤ w.heap.size) (A1 : Option Addr) (c1 : Nat) (hp : Pairs w w.heap.size A1 [(idB, v)]) :
    Calls Tryz.prog 72 #[.agg #[srcV A L.length c, .string loc], .slice (some ⟨w.heap.size, 0, none⟩) 1 1] (w.alloc (.cells #[.string digitsB, .slice A1 1 c1] 92)) fun e w' => e = .returned (valR (valueOf L loc (leftT (digP v)))) ∧ Below (w.heap.size + 1) (w.alloc (.cells #[.string digitsB, .slice A1 1 c1] 92)) w' := by
  have S : Steps _ _ _ (digP v) := steps_new (cells_key digitsB idB v A1 c1 hp Cells.nil) (Nat.le_refl _) 92
  have hz : (w.alloc (.cells #[.string digitsB, .slice A1 1 c1] 92)).heap.size = w.heap.size + 1 := by simp
  have := say_any A L c (w.heap.size + 1) loc (some ⟨w.heap.size, 0, none⟩) 1 (digP v) (digP_ok hv) hn (w.alloc (.cells #[.string digitsB, .slice A1 1 c1] 92)) ((hL.below ((Below.refl B w).alloc hB _)).more (by omega)) S (by omega)
  rw [hz] at this
  exact this
theorem ask_sym (A : Option Addr) (L : List Sd) (c B : Nat) (loc v : ByteArray) (hv : namedB v = true) (hn : L.length ≤ 281474976710656) (w : World) (hL : Saids w B A L) (hB : B ≤ w.heap.size) (A1 : Option Addr) (c1 : Nat) (hp : Pairs w w.heap.size A1 [(nsB, v)]) :
    Calls Tryz.prog 41 #[.agg #[.slice A L.length c], .string loc, .slice (some ⟨w.heap.size, 0, none⟩) 3 3] (w.alloc (.cells #[.string numbersB, .slice none 0 0, .string symbolsB, .slice A1 1 c1, .string minusB, .slice none 0 0] 92)) fun e w' => e = .returned (valR (valueOf L loc (leftT (symP v)))) ∧ Below (w.heap.size + 1) (w.alloc (.cells #[.string numbersB, .slice none 0 0, .string symbolsB, .slice A1 1 c1, .string minusB, .slice none 0 0] 92)) w' := by
  have S : Steps _ _ _ (symP v) := steps_new (cells_one numbersB (cells_key symbolsB nsB v A1 c1 hp (cells_one minusB Cells.nil))) (Nat.le_refl _) 92
  have hz : (w.alloc (.cells #[.string numbersB, .slice none 0 0, .string symbolsB, .slice A1 1 c1, .string minusB, .slice none 0 0] 92)).heap.size = w.heap.size + 1 := by simp
  have := Ask_any A L c (w.heap.size + 1) loc (some ⟨w.heap.size, 0, none⟩) 3 (symP v) (symP_ok hv) hn (w.alloc (.cells #[.string numbersB, .slice none 0 0, .string symbolsB, .slice A1 1 c1, .string minusB, .slice none 0 0] 92)) ((hL.below ((Below.refl B w).alloc hB _)).more (by omega)) S (by omega)
  rw [hz] at this
  exact this
theorem say_sym (A : Option Addr) (L : List Sd) (c B : Nat) (loc v : ByteArray) (hv : namedB v = true) (hn : L.length ≤ 281474976710656) (w : World) (hL : Saids w B A L) (hB : B ≤ w.heap.size) (A1 : Option Addr) (c1 : Nat) (hp : Pairs w w.heap.size A1 [(nsB, v)]) :
    Calls Tryz.prog 72 #[.agg #[srcV A L.length c, .string loc], .slice (some ⟨w.heap.size, 0, none⟩) 3 3] (w.alloc (.cells #[.string numbersB, .slice none 0 0, .string symbolsB, .slice A1 1 c1, .string minusB, .slice none 0 0] 92)) fun e w' => e = .returned (valR (valueOf L loc (leftT (symP v)))) ∧ Below (w.heap.size + 1) (w.alloc (.cells #[.string numbersB, .slice none 0 0, .string symbolsB, .slice A1 1 c1, .string minusB, .slice none 0 0] 92)) w' := by
  have S : Steps _ _ _ (symP v) := steps_new (cells_one numbersB (cells_key symbolsB nsB v A1 c1 hp (cells_one minusB Cells.nil))) (Nat.le_refl _) 92
  have hz : (w.alloc (.cells #[.string numbersB, .slice none 0 0, .string symbolsB, .slice A1 1 c1, .string minusB, .slice none 0 0] 92)).heap.size = w.heap.size + 1 := by simp
  have := say_any A L c (w.heap.size + 1) loc (some ⟨w.heap.size, 0, none⟩) 3 (symP v) (symP_ok hv) hn (w.alloc (.cells #[.string numbersB, .slice none 0 0, .string symbolsB, .slice A1 1 c1, .string minusB, .slice none 0 0] 92)) ((hL.below ((Below.refl B w).alloc hB _)).more (by omega)) S (by omega)
  rw [hz] at this
  exact this
end Go.Proofs.YtjmebclcmpfdmaaGreatDoor
namespace Go.Proofs.YtjmebclcmpfdmaaGreatDoor
open Go.RowKit
open Ph
set_option maxRecDepth 100000 in
set_option maxHeartbeats 8000000 in
theorem at_key (n k v : ByteArray) (g : Nat) (w : World) (hg : Blk w g 9 #[.string k, .string v]) : Calls Tryz.prog 73 #[.string n, .slice (some ⟨g, 0, none⟩) 2 2] w fun e w' =>
      ∃ A c, e = .returned (stepV n A 1 c) ∧ Pairs w' w'.heap.size A [(k, v)] ∧ Below w.heap.size w w' := by
  go_enter Tryz.func73, Tryz.ntmps73
  go_wp2_with fail
  go_loopw [6] (fun u wr => (u = .int .i64 0 ∧ Blk wr w.heap.size 92 #[.string ⟨#[]⟩, .slice none 0 0] ∧ Blk wr (w.heap.size + 1) 92 #[.string n, .slice none 0 0] ∧ Below w.heap.size w wr) ∨ (∃ gg c, u = .int .i64 2 ∧ Blk wr w.heap.size 92 #[.string ⟨#[]⟩, .slice none 0 0] ∧ Blk wr (w.heap.size + 1) 92 #[.string n, .slice (some ⟨gg, 0, none⟩) 1 c] ∧ wr.ownsRow (w.heap.size + 2) 175 2 (.slice (some ⟨gg, 0, none⟩) 1 c) 1 (kcells [(k, v)]) ∧ Below w.heap.size w wr)) (fun u _ => 2 - (intOf u).toNat)
  case atStart =>
    refine Or.inl ⟨rfl, (Blk.new w _ _).alloc _, ?_, (((Below.refl w.heap.size w).alloc (Nat.le_refl _) _).alloc (by simp) _)⟩
    have := Blk.new (w.alloc (.cells #[.string ⟨#[]⟩, .slice none 0 0] 92)) 92 #[.string n, .slice none 0 0]
    simpa using this
  case round =>
    rcases hrel with ⟨rfl, R, K, hb⟩ | ⟨gg, c1, rfl, R, K, hown, hb⟩
    · have k0 := K.at_ 0 (v := .string n) rfl
      have k1 := K.at_ 1 (v := .slice none 0 0) rfl
      have G := hg.below hb hg.lt
      have g0 := G.at_ 0 (v := .string k) rfl
      have g1 := G.at_ 1 (v := .string v) rfl
      have kf := K.frozen
      go_wp2_with fail
      have i1 : IntKind.i64.wrap ((0 : Int) + 1) = 1 := by decide
      have i2 : IntKind.i64.wrap (1 : Int) = 1 := by decide
      have ia : (⟨g, 0, none⟩ : Addr).add 1 = ⟨g, 1, none⟩ := rfl
      have klt := K.lt
      obtain ⟨i0, hi0, hz0, hz1, hz2⟩ := info_parts infoP
      go_region_law ((refine step_append_lies _ (by rfl) _ _ _ (by rfl) (w.heap.size + 2) 175 i0 _ 2 32 Tryz.underlying90 hi0 hz0 hz1 hz2 (by rfl) (by omega) (.slice none 0 0) 0 [] (by rfl) ⟨by simp, Or.inl ⟨rfl, rfl⟩⟩ ⟨wr.heap.size, 0, none⟩ 1 1 [.string k, .string v] (by rfl) (by rfl) (World.news_of_block (cs := #[.string k, .string v]) (heap_alloc_new _ _)) (by intro u hu; simp at hu; rcases hu with rfl | rfl <;> rfl) (by omega) (by unfold maxLen; omega) (by omega) (by simp; omega) (wr.heap.size + 1) (by simp) ?_; intro gg cap1 w1 hown1 hgr1 hat1 hlt1; have c2 : w1.cell? ⟨w.heap.size + 1, 1, none⟩ = some (.slice none 0 0) := (hgr1.cell_far _ (by simp; omega) (by intro e; cases e)).trans ((K.drew.alloc _).at_ 1 rfl); have f2 : w1.frozen? ⟨w.heap.size + 1, 1, none⟩ = false := (hgr1.frozen_far _ (by simp; omega) (by intro e; cases e)).trans ((K.drew.alloc _).frozen _)))
      all_goals
        have R1 := (R.drew.alloc (.cells #[.string k, .string v] 175)).grown hgr1 (by intro e; cases e)
        have K1 := (K.drew.alloc (.cells #[.string k, .string v] 175)).grown hgr1 (by intro e; cases e)
        have hz9 : w.heap.size ≤ (wr.drew.alloc (.cells #[.string k, .string v] 175)).heap.size := by simp; omega
        have hb1 := ((blw_drew hb).alloc hb.size (.cells #[.string k, .string v] 175)).grown hgr1 hz9 (fun k hk => by cases hk)
        have R2 := R1.far (p := ⟨w.heap.size + 1, 1, none⟩) (by show w.heap.size ≠ w.heap.size + 1; omega) (.slice (some ⟨gg, 0, none⟩) 1 cap1)
        have K2 := K1.set_ 1 (.slice (some ⟨gg, 0, none⟩) 1 cap1)
        have hb2 := hb1.setCell (p := ⟨w.heap.size + 1, 1, none⟩) (Nat.le_succ _) (.slice (some ⟨gg, 0, none⟩) 1 cap1)
        have ho2 := own_far hown1 (p := ⟨w.heap.size + 1, 1, none⟩) (fun e => by have := (hown1.lt gg rfl).1; injection e with e; simp at e; omega) (.slice (some ⟨gg, 0, none⟩) 1 cap1)
        clear c2 f2 hown1 hgr1 hat1 hlt1 R1 K1 hb1 k0 k1 kf g0 g1 hi0 hz0 hz1 hz2 R K hb G
        go_wp2_with fail
        go_roundw
        case rel => exact Or.inr ⟨gg, cap1, by trivial, R2, K2, ho2, hb2⟩
        case measure => simp [intOf]
    · have k0 := K.at_ 0 (v := .string n) rfl
      have k1 := K.at_ 1 (v := .slice (some ⟨gg, 0, none⟩) 1 c1) rfl
      have r0 := R.at_ 0 (v := .string ⟨#[]⟩) rfl
      have r1 := R.at_ 1 (v := .slice none 0 0) rfl
      have rf := R.frozen
      have hgl := (hown.lt gg rfl).1
      go_wp2_with fail
      have R1 := (R.set_ 0 (.string n)).set_ 1 (.slice (some ⟨gg, 0, none⟩) 1 c1)
      have hb2 := (hb.setCell (p := ⟨w.heap.size, 0, none⟩) (Nat.le_refl _) (.string n)).setCell (p := ⟨w.heap.size, 1, none⟩) (Nat.le_refl _) (.slice (some ⟨gg, 0, none⟩) 1 c1)
      have ho2 := own_far (own_far hown (p := ⟨w.heap.size, 0, none⟩) (fun e => by injection e with e; simp at e; omega) (.string n)) (p := ⟨w.heap.size, 1, none⟩) (fun e => by injection e with e; simp at e; omega) (.slice (some ⟨gg, 0, none⟩) 1 c1)
      have e0 := R1.at_ 0 (v := .string n) rfl
      have e1 := R1.at_ 1 (v := .slice (some ⟨gg, 0, none⟩) 1 c1) rfl
      obtain ⟨A2, c2, hv2, hp2⟩ := Pairs.of_own (ks := [(k, v)]) ho2
      injection hv2 with hv3 hv4 hv5
      subst hv3
      refine bodyPost_ret (v := stepV n (some ⟨gg, 0, none⟩) 1 c1) ?_ rfl ⟨_, _, rfl, hp2, hb2⟩
      simp [results, Tryz.results73, go_sem, e0, e1, stepV]
end Go.Proofs.YtjmebclcmpfdmaaGreatDoor
namespace Ph
open Go
def runesF (s : ByteArray) : Nat → Nat → List Nat
  | 0, _ => []
  | f + 1, i => if i < s.size then (Utf8.decode s i).1 :: runesF s f (i + (Utf8.decode s i).2) else []
/-- the runes of a text -/
def runesT (s : ByteArray) : List Nat := runesF s s.size 0
/-- the runes of a text from a place on -/
def runesR (s : ByteArray) (i : Nat) : List Nat := runesF s (s.size - i) i
theorem runesF_more (s : ByteArray) : ∀ (f i : Nat), s.size - i ≤ f → runesF s f i = runesR s i := by
  intro f
  induction f using Nat.strongRecOn with
  | ind f ih =>
    intro i hf
    unfold runesR
    cases f with
    | zero => rw [show s.size - i = 0 by omega]
    | succ f =>
      by_cases h : i < s.size
      · obtain ⟨g, hg⟩ : ∃ g, s.size - i = g + 1 := ⟨s.size - i - 1, by omega⟩
        rw [hg]
        simp only [runesF, h, if_true]
        have w := w1 s i
        rw [ih f (by omega) _ (by omega), ih g (by omega) _ (by omega)]
      · rw [show s.size - i = 0 by omega]; simp [runesF, h]
theorem runesT_eq (s : ByteArray) : runesT s = runesR s 0 := rfl
theorem runesR_end (s : ByteArray) (i : Nat) (h : ¬ i < s.size) : runesR s i = [] := by
  unfold runesR; rw [show s.size - i = 0 by omega]; rfl
theorem runesR_step (s : ByteArray) (i : Nat) (h : i < s.size) : runesR s i = (Utf8.decode s i).1 :: runesR s (i + (Utf8.decode s i).2) := by
  have w := w1 s i
  obtain ⟨g, hg⟩ : ∃ g, s.size - i = g + 1 := ⟨s.size - i - 1, by omega⟩
  rw [← runesF_more s g (i + (Utf8.decode s i).2) (by omega)]
  unfold runesR
  rw [hg]; simp only [runesF, h, if_true]
theorem runesFrom_eq (s : ByteArray) : ∀ (b i : Nat) (acc : Array Value), Conv.runesFrom s b i acc = acc ++ ((runesF s b i).map fun r => Value.int .i32 (Int.ofNat r)).toArray
  | 0, i, acc => by simp [Conv.runesFrom, runesF]
  | b + 1, i, acc => by
    unfold Conv.runesFrom runesF
    split
    · show Conv.runesFrom s b (i + (Utf8.decode s i).2) (acc.push (.int .i32 (Int.ofNat (Utf8.decode s i).1))) = _
      rw [runesFrom_eq s b]
      simp
    · simp
theorem runeCountFrom_eq (s : ByteArray) : ∀ (f i : Nat), Lib.runeCountFrom s f i = (runesF s f i).length
  | 0, i => rfl
  | f + 1, i => by
    unfold Lib.runeCountFrom runesF
    split
    · rw [runeCountFrom_eq s f]; simp; omega
    · rfl
theorem runeCount_eq (s : ByteArray) : Lib.runeCount s = (runesT s).length := runeCountFrom_eq s _ _
theorem sz (s : ByteArray) : s.data.size = s.size := rfl
theorem drop_size (s : ByteArray) (i : Nat) : (⟨(s.data.toList.drop i).toArray⟩ : ByteArray).size = s.size - i := by
  show (s.data.toList.drop i).toArray.size = _
  rw [List.size_toArray, List.length_drop, Array.length_toList]
  rfl
theorem get_drop (s : ByteArray) (i k : Nat) : (⟨(s.data.toList.drop i).toArray⟩ : ByteArray).get! (0 + k) = s.get! (i + k) := by
  have e : (s.data.toList.drop i).toArray.size = s.size - i := drop_size s i
  have a := sz s
  show (s.data.toList.drop i).toArray[0 + k]! = s.data[i + k]!
  by_cases h : i + k < s.size
  · rw [getElem!_pos _ _ (by omega), getElem!_pos _ _ (by omega)]
    simp
  · rw [getElem!_neg _ _ (by omega), getElem!_neg _ _ (by omega)]
theorem decodeL_drop (s : ByteArray) (i : Nat) : Lib.decodeL (s.data.toList.drop i) = Utf8.decode s i := by
  unfold Lib.decodeL
  rw [Lib.decode_at, Lib.decode_at]
  have e0 := get_drop s i 0
  have e1 := get_drop s i 1
  have e2 := get_drop s i 2
  have e3 := get_drop s i 3
  rw [Nat.add_zero, Nat.add_zero] at e0
  rw [e0, e1, e2, e3, drop_size, Nat.sub_zero]
theorem drop_nil (s : ByteArray) (i : Nat) (h : s.size ≤ i) : s.data.toList.drop i = [] := by
  apply List.drop_eq_nil_of_le
  rw [Array.length_toList]
  exact h
theorem valid_from (s : ByteArray) : ∀ (f i : Nat), s.size - i ≤ f → brk s i = none → Lib.validD (s.data.toList.drop i) = true := by
  intro f
  induction f with
  | zero =>
    intro i hf hb
    rw [drop_nil s i (by omega)]
    exact Lib.validD_nil
  | succ f ih =>
    intro i hf hb
    by_cases h : i < s.size
    · have hne : s.data.toList.drop i ≠ [] := fun e => by
        have h2 := congrArg List.length e
        rw [List.length_drop, Array.length_toList, sz] at h2
        simp at h2; omega
      rw [Lib.validD_step _ hne, decodeL_drop]
      have w := w1 s i
      cases hq : bad s i with
      | true => rw [brk_bad s i h hq] at hb; cases hb
      | false =>
        rw [brk_step s i h hq] at hb
        have : ¬ ((Utf8.decode s i).1 = 65533 ∧ (Utf8.decode s i).2 = 1) := by
          unfold bad at hq; simpa using hq
        rw [if_neg this, List.drop_drop]
        exact ih _ (by omega) hb
    · rw [drop_nil s i (by omega)]
      exact Lib.validD_nil
theorem valid_of_right (s : ByteArray) (h : brk s 0 = none) : Lib.validD s.data.toList = true := by
  have := valid_from s s.size 0 (by omega) h
  simpa using this
theorem runesF_le (s : ByteArray) : ∀ (f i : Nat), (runesF s f i).length ≤ f
  | 0, _ => by simp [runesF]
  | f + 1, i => by
    unfold runesF
    split
    · have := runesF_le s f (i + (Utf8.decode s i).2)
      simp; omega
    · simp
theorem runesT_le (s : ByteArray) : (runesT s).length ≤ s.size := runesF_le s _ _
theorem decode_max (s : ByteArray) (i : Nat) : (Utf8.decode s i).1 ≤ 1114111 := by
  rw [Lib.decode_at]
  have a := UInt8.toNat_lt (s.get! i)
  have b := UInt8.toNat_lt (s.get! (i + 1))
  have c := UInt8.toNat_lt (s.get! (i + 2))
  have d := UInt8.toNat_lt (s.get! (i + 3))
  unfold Lib.decodeN
  repeat' split
  all_goals (try simp only)
  all_goals omega
theorem runesF_max (s : ByteArray) : ∀ (f i : Nat), ∀ r ∈ runesF s f i, r ≤ 1114111
  | 0, _, r, h => by simp [runesF] at h
  | f + 1, i, r, h => by
    unfold runesF at h
    split at h
    · rcases List.mem_cons.1 h with rfl | h
      · exact decode_max s i
      · exact runesF_max s f _ r h
    · cases h
/-- a rune's form, by the shelf and by the model -/
theorem encode_eq (r : Nat) : Utf8.encode (r : Int) = ⟨(Lib.encodeRune (r : Int)).toArray⟩ := by
  by_cases hv : Utf8.valid (r : Int) = true
  · have h : ((0 : Int) ≤ r ∧ (r : Int) < 55296) ∨ ((57344 : Int) ≤ r ∧ (r : Int) ≤ 1114111) := by
      unfold Utf8.valid at hv
      simpa only [Bool.or_eq_true, Bool.and_eq_true, decide_eq_true_eq] using hv
    unfold Utf8.encode Lib.encodeRune
    rw [if_pos hv, Int.toNat_natCast]
    by_cases h1 : r < 128
    · rw [Lib.encodeRuneZ_one (by omega) (by omega)]
      show (if r < 128 then _ else _) = _
      rw [if_pos h1]
      rfl
    · show (if r < 128 then _ else _) = _
      rw [if_neg h1]
      by_cases h2 : r < 2048
      · rw [Lib.encodeRuneZ_two (by omega) (by omega)]
        show (if r < 2048 then _ else _) = _
        rw [if_pos h2]
        rfl
      · show (if r < 2048 then _ else _) = _
        rw [if_neg h2]
        by_cases h3 : r < 65536
        · rw [Lib.encodeRuneZ_three (by omega)]
          show (if r < 65536 then _ else _) = _
          rw [if_pos h3]
          rfl
        · show (if r < 65536 then _ else _) = _
          rw [if_neg h3, Lib.encodeRuneZ_four (by omega) (by omega)]
          rfl
  · have h : ((55296 : Int) ≤ r ∧ (r : Int) ≤ 57343) ∨ (1114111 : Int) < r := by
      have h' : ¬ (((0 : Int) ≤ r ∧ (r : Int) < 55296) ∨ ((57344 : Int) ≤ r ∧ (r : Int) ≤ 1114111)) := fun h => hv (by
        unfold Utf8.valid
        simpa only [Bool.or_eq_true, Bool.and_eq_true, decide_eq_true_eq] using h)
      omega
    unfold Utf8.encode Lib.encodeRune
    rw [if_neg hv, Lib.encodeRuneZ_bad (by omega)]
    rfl
end Ph
namespace Go.Proofs
open Go.Shelf
def Tryz.vs_ren : Go.Shelf.Ren := ⟨fun | 196 => 89 | 259 => 142 | n => n, fun | 0 => 0 | 3 => 3 | 4 => 4 | 5 => 5 | 9 => 9 | 12 => 12 | 46 => 116 | 53 => 169 | 119 => 198 | 138 => 200 | 139 => 201 | n => n, fun | 3 => 0 | 4 => 1 | n => n⟩
theorem Tryz.vs196 : Go.Proofs.Lays.n196 Tryz.prog Tryz.vs_ren := {
  mixed := by kernel_rfl
  f196 := Tryz.func89.trans (congrArg some (by kernel_rfl))
  f259 := Tryz.func142.trans (congrArg some (by kernel_rfl))
  t0 := Tryz.underlying0
  a0 := Tryz.isAgg0
  z0 := Tryz.sizeOf0
  v0 := Tryz.zeroValue0
  t3 := Tryz.underlying3
  a3 := Tryz.isAgg3
  z3 := Tryz.sizeOf3
  v3 := Tryz.zeroValue3
  t4 := Tryz.underlying4
  a4 := Tryz.isAgg4
  z4 := Tryz.sizeOf4
  v4 := Tryz.zeroValue4
  t5 := Tryz.underlying5
  a5 := Tryz.isAgg5
  z5 := Tryz.sizeOf5
  v5 := Tryz.zeroValue5
  t9 := Tryz.underlying9
  a9 := Tryz.isAgg9
  z9 := Tryz.sizeOf9
  v9 := Tryz.zeroValue9
  t12 := Tryz.underlying12
  a12 := Tryz.isAgg12
  z12 := Tryz.sizeOf12
  v12 := Tryz.zeroValue12
  t46 := Tryz.underlying116
  a46 := Tryz.isAgg116
  z46 := Tryz.sizeOf116
  v46 := Tryz.zeroValue116
  t53 := Tryz.underlying169
  a53 := Tryz.isAgg169
  z53 := Tryz.sizeOf169
  v53 := Tryz.zeroValue169
  t119 := Tryz.underlying198
  a119 := Tryz.isAgg198
  z119 := Tryz.sizeOf198
  t138 := Tryz.underlying200
  a138 := Tryz.isAgg200
  z138 := Tryz.sizeOf200
  v138 := Tryz.zeroValue200
  t139 := Tryz.underlying201
  a139 := Tryz.isAgg201
  z139 := Tryz.sizeOf201
  v139 := Tryz.zeroValue201
  g3 := by kernel_rfl
  g4 := by kernel_rfl
  }
open Go.RowKit in
theorem Tryz.utf8_ValidString (s : ByteArray) (w : World) (hs : s.size ≤ 9223372036854775807) (hT : Lib.Utf8Tabs 0 1 w) :
    Calls Tryz.prog 89 #[.string s] w fun e w' => e = .returned (.bool (Lib.validD s.data.toList)) ∧ Below w.heap.size w w' :=
  Any.utf8_ValidString Tryz.vs196 s w hs hT
end Go.Proofs
namespace Go.Proofs.YtjmebclcmpfdmaaGreatDoor
open Go.RowKit
open Ph
/-- a slice that reads as runes -/
def Runs (w : World) (B : Nat) (A : Option Addr) (l : List Nat) : Prop :=
  0 < l.length → ∃ ad : Addr, A = some ad ∧ ad.block < B ∧ ∀ (j : Nat) (r : Nat), l[j]? = some r → w.cell? (ad.add j) = some (.int .i32 (r : Int))
theorem Runs.below {w w' : World} {B : Nat} {A : Option Addr} {l : List Nat} (h : Runs w B A l) (hb : Below B w w') : Runs w' B A l := fun hn => by
  obtain ⟨ad, e, hlt, hc⟩ := h hn
  exact ⟨ad, e, hlt, fun j u hj => (hb.cell (p := ad.add j) (by rw [block_of_add]; exact hlt)).trans (hc j u hj)⟩
theorem Runs.more {w : World} {B B' : Nat} {A : Option Addr} {l : List Nat} (h : Runs w B A l) (hB : B ≤ B') : Runs w B' A l := fun hn => by
  obtain ⟨ad, e, hlt, hc⟩ := h hn
  exact ⟨ad, e, by omega, hc⟩
def rcells (l : List Nat) : List Value := l.map fun (r : Nat) => Value.int .i32 (r : Int)
theorem runesFrom_T (s : ByteArray) : Conv.runesFrom s s.size 0 #[] = (rcells (runesT s)).toArray := by
  rw [runesFrom_eq]
  simp [rcells, runesT]
theorem conv_runes (W : World) (s : ByteArray) (hs : s.size ≤ 70368744177664) : ∃ c W', (convert 9 85 (.string s)).run Tryz.prog W = .ok (.slice (some ⟨W.heap.size, 0, none⟩) (runesT s).length c) W' ∧ Runs W' (W.heap.size + 1) (some ⟨W.heap.size, 0, none⟩) (runesT s) ∧ W.heap.size < W'.heap.size ∧ Below W.heap.size W W' := by
  have hr := runesFrom_T s
  have h := run_runes_of_string W 9 85 21 s Tryz.underlying9 Tryz.underlying85 Tryz.underlying21 (by
    have := size_runesFrom s s.size 0 #[]
    simp at this
    omega)
  rw [hr] at h
  have hl : (rcells (runesT s)).toArray.size = (runesT s).length := by simp [rcells]
  rw [hl] at h
  refine ⟨_, _, h, ?_, ?_, ?_⟩
  · intro hn
    refine ⟨_, rfl, Nat.lt_succ_self _, fun j r hj => ?_⟩
    rw [add_new]
    refine (World.cell?_alloc_mark W.drew _ _ _ j).trans ?_
    have hj2 : j < (runesT s).length := (List.getElem?_eq_some_iff.1 hj).1
    rw [Array.getElem?_append_left (by rw [hl]; exact hj2)]
    rw [List.getElem?_toArray]
    unfold rcells
    rw [List.getElem?_map, hj]
    rfl
  · rw [World.size_alloc]; exact Nat.lt_succ_self _
  · exact (blw_drewN (Below.refl W.heap.size W) 1).alloc (Nat.le_refl _) _
def tenB : ByteArray := ⟨#[48, 49, 50, 51, 52, 53, 54, 55, 56, 57]⟩
def ten : List Nat := [48, 49, 50, 51, 52, 53, 54, 55, 56, 57]
theorem ten_runes : runesT tenB = ten := by decide +kernel
/-- the digits that a text says -/
def digOf : Option ByteArray → List Nat
  | some t => if (runesT t).length = 10 then runesT t else ten
  | none => ten
/-- the digits of a system that a source says -/
def digitsV (L : List Sd) (v : ByteArray) : List Nat := digOf (valueOf L ⟨#[]⟩ (leftT (digP v)))
theorem digOf_none : digOf none = runesT tenB := ten_runes.symm
theorem digOf_yes {t : ByteArray} (h : (runesT t).length = 10) : digOf (some t) = runesT t := if_pos h
theorem digOf_no {t : ByteArray} (h : ¬ (runesT t).length = 10) : digOf (some t) = runesT tenB := (if_neg h).trans ten_runes.symm
theorem digOf_len (r : Option ByteArray) : (digOf r).length = 10 := by
  cases r with
  | none => rfl
  | some t =>
    unfold digOf
    dsimp only
    split
    · assumption
    · rfl
theorem digOf_le (r : Option ByteArray) : ∀ d ∈ digOf r, d ≤ 1114111 := by
  have h10 : ∀ r ∈ ten, r ≤ 1114111 := by decide
  cases r with
  | none => exact h10
  | some t =>
    unfold digOf
    dsimp only
    split
    · exact fun r h => runesF_max t _ _ r h
    · exact h10
theorem digits_len (L : List Sd) (v : ByteArray) : (digitsV L v).length = 10 := digOf_len _
theorem digits_le (L : List Sd) (v : ByteArray) : ∀ r ∈ digitsV L v, r ≤ 1114111 := digOf_le _
theorem right_brk {s : ByteArray} (h : rightB s = true) : brk s 0 = none := by
  unfold rightB at h
  exact Option.isNone_iff_eq_none.1 h
set_option maxRecDepth 100000 in
set_option maxHeartbeats 4000000 in
theorem voice_all (A : Option Addr) (n c : Nat) (loc : ByteArray) (w : World) :
    Calls Tryz.prog 80 #[.agg #[srcV A n c, .string loc]] w fun e w' => e = .returned (.agg #[srcV A n c, .string ⟨#[]⟩]) ∧ Below w.heap.size w w' := by
  unfold srcV
  obtain ⟨X, hX⟩ : ∃ X, Value.agg #[.slice A n c] = X := ⟨_, rfl⟩
  rw [hX]
  clear hX
  go_enter Tryz.func80, Tryz.ntmps80
  go_wp2_with fail
  refine bodyPost_ret (v := .agg #[.iface 32 X, .string ⟨#[]⟩]) ?_ rfl ⟨rfl, ((Below.refl w.heap.size w).alloc (Nat.le_refl _) _).alloc (by simp) _⟩
  simp [results, Tryz.results80, go_sem]
/-- what numfmt's and the reference's digits answer -/
def Digs (D : List Nat) (w : World) (e : Ending) (w' : World) : Prop := ∃ A c, e = .returned (.slice A 10 c) ∧ Runs w' w'.heap.size A D ∧ Below w.heap.size w w'
theorem digs_of {D : List Nat} {r : Option ByteArray} {w W W5 : World} {c5 : Nat} {s : ByteArray} {l : Nat} (hb : Below w.heap.size w W) (hs : digOf r = runesT s) (hl : (runesT s).length = l) (hr : Runs W5 (W.heap.size + 1) (some ⟨W.heap.size, 0, none⟩) (runesT s)) (hlt : W.heap.size < W5.heap.size) (hb5 : Below W.heap.size W W5) (hD : D = digOf r) :
    Digs D w (.returned (.slice (some ⟨W.heap.size, 0, none⟩) l c5)) W5 := by
  have h10 : l = 10 := by rw [← hl, ← hs]; exact digOf_len r
  subst h10
  exact ⟨_, _, rfl, by rw [hD, hs]; exact hr.more hlt, hb.trans (hb5.mono hb.size)⟩
set_option maxRecDepth 100000 in
set_option maxHeartbeats 8000000 in
theorem digits_any (A : Option Addr) (L : List Sd) (c B : Nat) (loc v : ByteArray) (hv : namedB v = true) (hn : L.length ≤ 281474976710656) (hx : ∀ x ∈ L, x.text.size ≤ 70368744177664) (hR : ∀ x ∈ L, rightB x.text = true) (w : World) (hL : Saids w B A L) (hB : B ≤ w.heap.size) (hT : Lib.Utf8Tabs 0 1 w) :
    Calls Tryz.prog 38 #[.agg #[srcV A L.length c, .string loc], .string v] w (Digs (digitsV L v) w) := by
  have HA := voice_all A L.length c loc
  have HK := fun (w2 : World) (g : Nat) h => at_key digitsB idB v g w2 h
  have HS := fun (w2 : World) (h1 : Saids w2 B A L) (h2 : B ≤ w2.heap.size) (A1 : Option Addr) (c1 : Nat) h3 => say_dig A L c B ⟨#[]⟩ v hv hn w2 h1 h2 A1 c1 h3
  have HC := fun (W : World) (s : ByteArray) h => conv_runes W s h
  have B1 := (Below.refl w.heap.size w).alloc (Nat.le_refl _) (.cells #[srcV A L.length c, .string loc] 71)
  unfold digitsB idB stepV at HK
  unfold digitsB idB at HS
  unfold digitsV
  obtain ⟨r, hr⟩ : ∃ r, valueOf L ⟨#[]⟩ (leftT (digP v)) = r := ⟨_, rfl⟩
  have hrs : ∀ t, r = some t → t.size ≤ 70368744177664 ∧ rightB t = true := fun t ht => by
    rw [ht] at hr
    obtain ⟨x, hx1, hx2⟩ := value_in hr
    rw [← hx2]; exact ⟨hx x hx1, hR x hx1⟩
  rw [hr] at HS ⊢
  clear hr hx hR hn hv
  obtain ⟨D, hD⟩ : ∃ D, D = digOf r := ⟨_, rfl⟩
  rw [← hD]
  have HD := Lib.hid hD
  clear hD
  obtain ⟨X, hX⟩ : ∃ X, Value.agg #[.slice A L.length c] = X := ⟨_, rfl⟩
  unfold srcV at *
  rw [hX] at HA HS B1 ⊢
  clear hX
  cases r with
  | none =>
    unfold valR at HS
    go_enter Tryz.func38, Tryz.ntmps38
    go_wp2_with (first | (go_at_call 80; refine (HA _).mono ?_; rintro e w2 ⟨rfl, hb2⟩; have B2 := B1.trans (hb2.mono B1.size)) | (go_at_call 73; refine (HK _ _ (Blk.new _ _ _)).mono ?_; rintro e w3 ⟨A1, c1, rfl, hp3, hb3⟩; have B3 := (B2.alloc B2.size _).trans (hb3.mono (B2.alloc B2.size _).size); have hL3 := hL.below (B3.mono hB); have hB3 := Nat.le_trans hB B3.size) | (go_at_call 72; refine (HS _ hL3 hB3 A1 c1 hp3).mono ?_; rintro e w4 ⟨rfl, hb4⟩; have B4 := (B3.alloc B3.size _).trans (hb4.mono (Nat.le_succ_of_le B3.size)); obtain ⟨c5, W5, hcv, hr5, hlt5, hb5⟩ := HC w4 tenB (by decide); unfold tenB at hcv))
    refine bodyPost_ret (v := .slice (some ⟨w4.heap.size, 0, none⟩) (runesT tenB).length c5) ?_ rfl (digs_of B4 digOf_none rfl hr5 hlt5 hb5 HD.out)
    simp [results, Tryz.results38, go_sem, tenB]
  | some t =>
    obtain ⟨ht, hrt⟩ := hrs t rfl
    have hval := valid_of_right t (right_brk hrt)
    have HV := fun (w2 : World) h => Tryz.utf8_ValidString t w2 (by omega) h
    rw [hval] at HV
    have HN := fun (w2 : World) => Tryz.utf8_RuneCountInString t w2 (by omega)
    rw [runeCount_eq] at HN
    clear hrs hval hrt
    unfold valR at HS
    dsimp only at HS
    by_cases h10 : (runesT t).length = 10
    · have hdt := digOf_yes h10
      have HDT := Lib.hid hdt
      have H10 := Lib.hid h10
      rw [h10] at HN
      clear hdt h10
      go_enter Tryz.func38, Tryz.ntmps38
      go_wp2_with (first | (go_at_call 80; refine (HA _).mono ?_; rintro e w2 ⟨rfl, hb2⟩; have B2 := B1.trans (hb2.mono B1.size)) | (go_at_call 73; refine (HK _ _ (Blk.new _ _ _)).mono ?_; rintro e w3 ⟨A1, c1, rfl, hp3, hb3⟩; have B3 := (B2.alloc B2.size _).trans (hb3.mono (B2.alloc B2.size _).size); have hL3 := hL.below (B3.mono hB); have hB3 := Nat.le_trans hB B3.size) | (go_at_call 72; refine (HS _ hL3 hB3 A1 c1 hp3).mono ?_; rintro e w4 ⟨rfl, hb4⟩; have B4 := (B3.alloc B3.size _).trans (hb4.mono (Nat.le_succ_of_le B3.size)); have hT4 := Utf8Tabs_below hT B4) | (go_at_call 89; refine (HV _ hT4).mono ?_; rintro e w5 ⟨rfl, hb5⟩; have B5 := B4.trans (hb5.mono B4.size)) | (go_at_call 90; refine (HN _).mono ?_; rintro e w6 ⟨rfl, pos, hw6⟩; have B6 := B5.alloc B5.size (.stringIter t pos); rw [show w5.alloc (.stringIter t pos) = w6 from hw6.symm] at B6; clear hw6; obtain ⟨c7, W7, hcv, hr7, hlt7, hb7⟩ := HC w6 t ht))
      refine bodyPost_ret (v := .slice (some ⟨w6.heap.size, 0, none⟩) (runesT t).length c7) ?_ rfl (digs_of B6 HDT.out rfl hr7 hlt7 hb7 HD.out)
      simp [results, Tryz.results38, go_sem]
    · have hdt := digOf_no h10
      have HDT := Lib.hid hdt
      generalize (runesT t).length = n at *
      have e1 : ((n : Int) == 10) = false := beq_eq_false_iff_ne.2 (by omega)
      have e2 : ((n : Int) != 10) = true := bne_iff_ne.2 (by omega)
      have e3 : ¬ (n : Int) = 10 := by omega
      clear hdt h10
      go_enter Tryz.func38, Tryz.ntmps38
      go_wp2_with (first | (go_at_call 80; refine (HA _).mono ?_; rintro e w2 ⟨rfl, hb2⟩; have B2 := B1.trans (hb2.mono B1.size)) | (go_at_call 73; refine (HK _ _ (Blk.new _ _ _)).mono ?_; rintro e w3 ⟨A1, c1, rfl, hp3, hb3⟩; have B3 := (B2.alloc B2.size _).trans (hb3.mono (B2.alloc B2.size _).size); have hL3 := hL.below (B3.mono hB); have hB3 := Nat.le_trans hB B3.size) | (go_at_call 72; refine (HS _ hL3 hB3 A1 c1 hp3).mono ?_; rintro e w4 ⟨rfl, hb4⟩; have B4 := (B3.alloc B3.size _).trans (hb4.mono (Nat.le_succ_of_le B3.size)); have hT4 := Utf8Tabs_below hT B4) | (go_at_call 89; refine (HV _ hT4).mono ?_; rintro e w5 ⟨rfl, hb5⟩; have B5 := B4.trans (hb5.mono B4.size)) | (go_at_call 90; refine (HN _).mono ?_; rintro e w6 ⟨rfl, pos, hw6⟩; have B6 := B5.alloc B5.size (.stringIter t pos); rw [show w5.alloc (.stringIter t pos) = w6 from hw6.symm] at B6; clear hw6; obtain ⟨c7, W7, hcv, hr7, hlt7, hb7⟩ := HC w6 tenB (by decide); unfold tenB at hcv))
      refine bodyPost_ret (v := .slice (some ⟨w6.heap.size, 0, none⟩) (runesT tenB).length c7) ?_ rfl (digs_of B6 HDT.out rfl hr7 hlt7 hb7 HD.out)
      simp [results, Tryz.results38, go_sem, tenB]
end Go.Proofs.YtjmebclcmpfdmaaGreatDoor
namespace Go.Proofs.YtjmebclcmpfdmaaGreatDoor
open Go.RowKit
open Ph
theorem infoR : (Tryz.prog.info? 21).map (fun i => (i.zero, i.size, i.bytes)) = some (some (.int .i32 0), 1, 4) := by kernel_rfl
theorem rcells_snoc (l : List Nat) (p : Nat) : rcells (l ++ [p]) = rcells l ++ [.int .i32 (p : Int)] := by simp [rcells]
theorem wpRune {ops : Array Oper} {rest : List Oper} {o : Oper} {a : Act} {Q : Exit → Act → World → Prop} (hgd : o.guard = none) (sI xI : Operand)
    (ho : o.op = .call { callee := .builtin .append, args := #[sI, xI], argTypes := #[85, 85] })
    (base : Nat) (w0 : World) (v : Value) (l : List Nat) (p : Nat) (hs : a.eval sI = v) (hown : w0.ownsRow base 21 1 v l.length (rcells l)) (hx : a.eval xI = .slice (some ⟨w0.heap.size, 0, none⟩) 1 1)
    (hl : l.length ≤ 10000000000000) (hb : base ≤ w0.heap.size)
    (h : ∀ v' w', w'.ownsRow base 21 1 v' (l ++ [p]).length (rcells (l ++ [p])) → (w0.alloc (.cells #[.int .i32 (p : Int)] 21)).grownBy w' v.ownBlock → wpList Tryz.prog ops Q rest (a.put o.dst v') w') :
    wpList Tryz.prog ops Q (o :: rest) a (w0.alloc (.cells #[.int .i32 (p : Int)] 21)) := by
  obtain ⟨i0, hi0, hz0, hz1, hz2⟩ := info_parts infoR
  refine wpList_append_any _ hgd sI xI 85 ho base 21 i0 _ 1 4 Tryz.underlying85 hi0 hz0 hz1 hz2 rfl (by omega) v l.length (rcells l) hs (hown.alloc _) (w0.heap.size + 1) _ 1 1 [.int .i32 (p : Int)] hx ⟨rfl, fun _ => ⟨_, rfl, by simp, fun j u hu => ?_⟩⟩ ?_ ?_ ?_ ?_ ?_
  · have hc := (Blk.new w0 21 #[.int .i32 (p : Int)]).cell j
    rw [add_new, hc]; simpa using hu
  · intro u hu; simp at hu; subst hu; rfl
  · unfold maxLen; omega
  · omega
  · simp only [World.size_alloc]; omega
  · intro v' w' h1 h2 _
    refine h v' w' ?_ h2
    rw [rcells_snoc, List.length_append]
    exact h1
set_option maxRecDepth 100000 in
theorem At_right (s : ByteArray) (i : Nat) (hs : s.size ≤ 281474976710656) (hi : i < s.size) (hb : bad s i = false) (w : World) :
    Calls Tryz.prog 147 #[.string s, .int .i64 i] w fun e w' => e = .returned (.tuple #[.int .i32 ((Utf8.decode s i).1 : Int), .int .i64 ((Utf8.decode s i).2 : Int)]) ∧ w = w' := by
  have HF := form_any s i hs hi w
  unfold formV at HF
  rw [if_neg (by rw [hb]; decide)] at HF
  obtain ⟨a, ha⟩ : ∃ a, (Utf8.decode s i).1 = a := ⟨_, rfl⟩
  obtain ⟨b, hb2⟩ : ∃ b, (Utf8.decode s i).2 = b := ⟨_, rfl⟩
  rw [ha, hb2] at HF ⊢
  clear ha hb2 hb
  go_enter Tryz.func147, Tryz.ntmps147
  go_wp2_with (go_at_call 163; refine HF.mono ?_; rintro e w' ⟨rfl, rfl⟩)
  go_ret2
  exact ⟨rfl, rfl⟩
/-- what the reference's Runes answers -/
def RunesAns (D : List Nat) (w : World) (e : Ending) (w' : World) : Prop := ∃ A c, e = .returned (.slice A D.length c) ∧ Runs w' w'.heap.size A D ∧ Below w.heap.size w w'
theorem runs_of_own {w : World} {base : Nat} {v : Value} {l : List Nat} (h : w.ownsRow base 21 1 v l.length (rcells l)) : ∃ A c, v = .slice A l.length c ∧ Runs w w.heap.size A l := by
  obtain ⟨A, c, rfl, hr⟩ := reads_of_own h
  refine ⟨A, c, rfl, fun hn => ?_⟩
  obtain ⟨ad, e, hlt, hc⟩ := hr.2 hn
  exact ⟨ad, e, hlt, fun j r hj => hc j _ (by unfold rcells; rw [List.getElem?_map, hj]; rfl)⟩
set_option maxRecDepth 100000 in
set_option maxHeartbeats 4000000 in
theorem Runes_any (s : ByteArray) (hs : s.size ≤ 10000000000000) (hr : brk s 0 = none) (D : List Nat) (hD : runesT s = D) (w : World) :
    Calls Tryz.prog 97 #[.string s] w (RunesAns D w) := by
  have hD2 := Lib.hid hD
  clear hD
  unfold RunesAns
  go_enter Tryz.func97, Tryz.ntmps97
  go_wp2_with fail
  go_loopw [3, 4] (fun v u wr => ∃ (pos : Nat) (l : List Nat), u = .int .i64 pos ∧ pos ≤ s.size ∧ brk s pos = none ∧ wr.ownsRow w.heap.size 21 1 v l.length (rcells l) ∧ l ++ runesR s pos = D ∧ Below w.heap.size w wr) (fun _ u _ => s.size - (intOf u).toNat)
  case atStart => exact ⟨0, [], rfl, by omega, hr, ⟨rfl, Or.inl ⟨rfl, rfl⟩⟩, by rw [← hD2.out]; rfl, Below.refl _ _⟩
  case round =>
    clear hr
    obtain ⟨pos, l, rfl, hp, hbk, hown, hl, hb⟩ := hrel
    have hll : l.length ≤ 10000000000000 := by
      have h1 := congrArg List.length hl
      rw [List.length_append, ← hD2.out] at h1
      have h2 := runesT_le s
      omega
    by_cases h : pos < s.size
    · have hq : bad s pos = false := by
        cases hq : bad s pos with
        | false => rfl
        | true => rw [brk_bad s pos h hq] at hbk; cases hbk
      have hbk2 := (brk_step s pos h hq).symm.trans hbk
      have hst := runesR_step s pos h
      have HA := At_right s pos (by omega) h hq
      have hwi := wIn s pos h
      have hw1 := w1 s pos
      obtain ⟨a, ha⟩ : ∃ a, (Utf8.decode s pos).1 = a := ⟨_, rfl⟩
      obtain ⟨b, hb2⟩ : ∃ b, (Utf8.decode s pos).2 = b := ⟨_, rfl⟩
      rw [ha] at HA hst
      rw [hb2] at HA hst hwi hw1 hbk2
      rw [hst] at hl
      have HL := Lib.hid hl
      have HBK := Lib.hid hbk2
      have HO := Lib.hid hown
      clear ha hb2 hst hl hbk hbk2 hq hown
      go_wp2_with (first | (go_at_call 147; refine (HA _).mono ?_; rintro e w2 ⟨rfl, rfl⟩) | (at_builtin; refine wpRune rfl (.tmp 17) (.tmp 19) rfl w.heap.size wr _ l a rfl HO.out rfl hll hb.size ?_; intro v5 w5 O5 hg5))
      have hlk := fun k hk => (HO.out.lt k hk).1
      have B5 := (hb.alloc hb.size (.cells #[.int .i32 (a : Int)] 21)).grown hg5 (by simp; exact Nat.le_succ_of_le hb.size) hlk
      go_roundw
      case rel => exact ⟨pos + b, l ++ [a], by go_num, hwi, HBK.out, O5, by rw [List.append_assoc]; exact HL.out, B5⟩
      case measure => simp [intOf]; omega
    · rw [runesR_end s pos h, List.append_nil] at hl
      subst hl
      obtain ⟨A, c, rfl, hR⟩ := runs_of_own hown
      have HR := Lib.hid hR
      clear hR hown
      go_wp2_with fail
      refine bodyPost_ret (v := .slice A l.length c) ?_ rfl ⟨_, _, rfl, HR.out, hb⟩
      simp [results, Tryz.results97, go_sem]
end Go.Proofs.YtjmebclcmpfdmaaGreatDoor
namespace Go.Proofs.YtjmebclcmpfdmaaGreatDoor
open Go.RowKit
open Ph
/-- the source's box, what is said and what was there, kept -/
structure Sw (w : World) (B : Nat) (A : Option Addr) (L : List Sd) (c : Nat) (wx : World) : Prop where
  k : Blk wx w.heap.size 32 #[.slice A L.length c]
  s : Saids wx B A L
  b : Below w.heap.size w wx
theorem Sw.drew {w wx : World} {B : Nat} {A : Option Addr} {L : List Sd} {c : Nat} (h : Sw w B A L c wx) : Sw w B A L c wx.drew := ⟨h.k.drew, h.s, blw_drew h.b⟩
theorem Sw.call {w wx wy : World} {B : Nat} {A : Option Addr} {L : List Sd} {c : Nat} (h : Sw w B A L c wx) (hb : Below wx.heap.size wx wy) (hB : B ≤ w.heap.size) : Sw w B A L c wy := ⟨h.k.below hb h.k.lt, h.s.below (hb.mono (Nat.le_trans hB h.b.size)), h.b.trans (hb.mono h.b.size)⟩
theorem Sw.alloc {w wx : World} {B : Nat} {A : Option Addr} {L : List Sd} {c : Nat} (h : Sw w B A L c wx) (hB : B ≤ w.heap.size) (o : Obj) : Sw w B A L c (wx.alloc o) := h.call ((Below.refl _ _).alloc (Nat.le_refl _) o) hB
theorem Sw.c0 {w wx : World} {B : Nat} {A : Option Addr} {L : List Sd} {c : Nat} (h : Sw w B A L c wx) : wx.cell? ⟨w.heap.size, 0, none⟩ = some (.slice A L.length c) := h.k.at_ 0 rfl
theorem Sw.new {w : World} {B : Nat} {A : Option Addr} {L : List Sd} {c : Nat} (hL : Saids w B A L) (hB : B ≤ w.heap.size) : Sw w B A L c (w.alloc (.cells #[.slice A L.length c] 32)) :=
  ⟨Blk.new _ _ _, hL.below ((Below.refl B w).alloc hB _), (Below.refl _ w).alloc (Nat.le_refl _) _⟩
theorem runes_ret {D D' : List Nat} {A : Option Addr} {c : Nat} {w W W5 : World} (hb : Below w.heap.size w W) (h : Runs W5 W5.heap.size A D') (hl : D'.length = 10) (hb5 : Below W.heap.size W W5) (hD : D = D') : Digs D w (.returned (.slice A 10 c)) W5 :=
  ⟨_, _, rfl, by rw [hD]; exact h, hb.trans (hb5.mono hb.size)⟩
set_option maxRecDepth 100000 in
set_option maxHeartbeats 8000000 in
theorem refDigits_any (A : Option Addr) (L : List Sd) (c B : Nat) (v : ByteArray) (hv : namedB v = true) (hn : L.length ≤ 281474976710656) (hx : ∀ x ∈ L, x.text.size ≤ 10000000000000) (hR : ∀ x ∈ L, rightB x.text = true) (w : World) (hL : Saids w B A L) (hB : B ≤ w.heap.size) :
    Calls Tryz.prog 43 #[.agg #[.slice A L.length c], .string v] w (Digs (digitsV L v) w) := by
  have HK := fun (w2 : World) => Step_one digitsB idB v (by decide) w2
  have HS0 := fun (w2 : World) (h1 : Saids w2 B A L) (h2 : B ≤ w2.heap.size) (A1 : Option Addr) (c1 : Nat) h3 => ask_dig A L c B ⟨#[]⟩ v hv hn w2 h1 h2 A1 c1 h3
  unfold digitsB idB stepV at HK
  unfold digitsB idB at HS0
  unfold digitsV
  obtain ⟨r, hr⟩ : ∃ r, valueOf L ⟨#[]⟩ (leftT (digP v)) = r := ⟨_, rfl⟩
  have hrs : ∀ t, r = some t → t.size ≤ 10000000000000 ∧ rightB t = true := fun t ht => by
    rw [ht] at hr
    obtain ⟨x, hx1, hx2⟩ := value_in hr
    rw [← hx2]; exact ⟨hx x hx1, hR x hx1⟩
  rw [hr] at HS0 ⊢
  clear hr hx hR hn hv
  have HSv := fun (w2 : World) (h : Sw w B A L c w2) (A1 : Option Addr) (c1 : Nat) h3 => (HS0 w2 h.s (Nat.le_trans hB h.b.size) A1 c1 h3).mono (fun e w' (hh : _ ∧ _) => (⟨hh.1, (h.alloc hB _).call (hh.2.mono (by simp)) hB⟩ : _ ∧ Sw w B A L c w'))
  clear HS0
  obtain ⟨D, hD⟩ : ∃ D, D = digOf r := ⟨_, rfl⟩
  rw [← hD]
  have HD := Lib.hid hD
  clear hD
  have v0 := Sw.new (c := c) hL hB
  have HT := fun (w2 : World) => Runes_any tenB (by decide) (by decide +kernel) ten ten_runes w2
  unfold tenB RunesAns at HT
  simp only [show ten.length = 10 from rfl] at HT
  cases r with
  | none =>
    unfold valR at HSv
    go_enter Tryz.func43, Tryz.ntmps43
    go_wp2_with fail
    have z0 := v0.c0
    go_region_held3 (fun w' => w'.cell? ⟨w.heap.size, 0, none⟩ = some (.slice A L.length c)) (first | (with_reducible exact y20) | (with_reducible exact y10) | (with_reducible exact z0) | go_keep) ((first | (go_at_call 96; with_reducible refine (HK _).mono ?_; rintro e y1 ⟨A1, c1, rfl, hp1, hc1⟩; have v1 := (by first | exact Sw.call (Sw.drew v0) hc1 hB | exact Sw.call v0 hc1 hB : Sw w B A L c y1); have y10 := v1.c0) | (go_at_call 41; refine (HSv _ v1 A1 c1 hp1).mono ?_; rintro e y2 ⟨rfl, v2⟩; have y20 := v2.c0)))
    go_wp2_with (go_at_call 97; refine (HT _).mono ?_; rintro e w5 ⟨A5, c5, rfl, hr5, hb5⟩)
    refine bodyPost_ret (v := .slice A5 10 c5) ?_ rfl (runes_ret v2.b hr5 rfl hb5 HD.out)
    simp [results, Tryz.results43, go_sem]
  | some t =>
    obtain ⟨ht, hrt⟩ := hrs t rfl
    have HV := fun (w2 : World) => right_any2 t (by omega) true hrt w2
    have HN := fun (w2 : World) => Runes_any t ht (right_brk hrt) (runesT t) rfl w2
    unfold RunesAns at HN
    clear hrs hrt
    unfold valR at HSv
    dsimp only at HSv
    by_cases h10 : (runesT t).length = 10
    · have hdt := digOf_yes h10
      have HDT := Lib.hid (HD.out.trans hdt)
      have H10 := Lib.hid h10
      simp only [h10] at HN
      clear hdt h10 HT
      go_enter Tryz.func43, Tryz.ntmps43
      go_wp2_with fail
      have z0 := v0.c0
      go_region_held3 (fun w' => w'.cell? ⟨w.heap.size, 0, none⟩ = some (.slice A L.length c)) (first | (with_reducible exact y20) | (with_reducible exact y10) | (with_reducible exact z0) | go_keep) ((first | (go_at_call 96; with_reducible refine (HK _).mono ?_; rintro e y1 ⟨A1, c1, rfl, hp1, hc1⟩; have v1 := (by first | exact Sw.call (Sw.drew v0) hc1 hB | exact Sw.call v0 hc1 hB : Sw w B A L c y1); have y10 := v1.c0) | (go_at_call 41; refine (HSv _ v1 A1 c1 hp1).mono ?_; rintro e y2 ⟨rfl, v2⟩; have y20 := v2.c0)))
      go_wp2_with (first | (go_at_call 64; refine (HV _).mono ?_; rintro e w4 ⟨rfl, hw4⟩; subst hw4) | (go_at_call 97; refine (HN _).mono ?_; rintro e w5 ⟨A5, c5, rfl, hr5, hb5⟩))
      rename_i w8 A8 c8 hr8 hb8
      refine bodyPost_ret (v := .slice A5 10 c5) ?_ rfl (runes_ret ((v2.b.trans (hb8.mono v2.b.size))) hr5 H10.out hb5 HDT.out)
      simp [results, Tryz.results43, go_sem]
    · have hdt := digOf_no h10
      have HDT := Lib.hid (HD.out.trans hdt)
      generalize (runesT t).length = n at *
      have e1 : ((n : Int) == 10) = false := beq_eq_false_iff_ne.2 (by omega)
      have e2 : ((n : Int) != 10) = true := bne_iff_ne.2 (by omega)
      have e3 : ¬ (n : Int) = 10 := by omega
      clear hdt h10
      go_enter Tryz.func43, Tryz.ntmps43
      go_wp2_with fail
      have z0 := v0.c0
      go_region_held3 (fun w' => w'.cell? ⟨w.heap.size, 0, none⟩ = some (.slice A L.length c)) (first | (with_reducible exact y20) | (with_reducible exact y10) | (with_reducible exact z0) | go_keep) ((first | (go_at_call 96; with_reducible refine (HK _).mono ?_; rintro e y1 ⟨A1, c1, rfl, hp1, hc1⟩; have v1 := (by first | exact Sw.call (Sw.drew v0) hc1 hB | exact Sw.call v0 hc1 hB : Sw w B A L c y1); have y10 := v1.c0) | (go_at_call 41; refine (HSv _ v1 A1 c1 hp1).mono ?_; rintro e y2 ⟨rfl, v2⟩; have y20 := v2.c0)))
      go_wp2_with (first | (go_at_call 64; refine (HV _).mono ?_; rintro e w4 ⟨rfl, hw4⟩; subst hw4) | (go_at_call 97; with_reducible refine (HN _).mono ?_; rintro e w5 ⟨A5, c5, rfl, hr5, hb5⟩) | (go_at_call 97; with_reducible refine (HT _).mono ?_; rintro e w6 ⟨A6, c6, rfl, hr6, hb6⟩))
      refine bodyPost_ret (v := .slice A6 10 c6) ?_ rfl (runes_ret (v2.b.trans (hb5.mono v2.b.size)) hr6 rfl hb6 (HDT.out.trans ten_runes))
      simp [results, Tryz.results43, go_sem]
end Go.Proofs.YtjmebclcmpfdmaaGreatDoor
