/-
  Runes of a text in plain Lean: where a form begins and ends, and the first broken byte. No condition.
  Phrases in plain Lean: what a text falls into from a place on, and which bytes are a place's number. No condition.
  Words for memory: a slice that reads as a list, a block that is known whole, append onto a row of the call's own, and the frame's last step. No condition.
  Contract of utf.Check: it tells the first broken byte of a text. Condition: the text's length fits an int.
  Contracts of the reference's Form, Broken and Right: they answer as the model's own decoder. Condition: the text's length fits an int.
  Contracts of phrase.place and of the reference's number: both tell whether a text is a place's number. Conditions: the text is short enough, the two sentinels of strconv hold interface values.
  Contract of the reference's Parse: what a text falls into, or what is wrong with it and where. Condition: the text is short enough to be in memory.
  Contract of the closure in phrase.Parse: it hangs a text on the pieces, or leaves all as it was. Conditions: the captured variables lie apart.
  Contract of phrase.Parse: what a text falls into, or what is wrong with it and where. Conditions: the text is short enough to be in memory; the two sentinels of strconv hold interface values.
-/
import Derived.Lib.DecodeN
import Derived.Lib.TrimU
import Derived.Below
import Derived.Laws.OwnMore
import Derived.Deep.AppendLies
import Derived.Deep.Draws
import Derived.Laws.Rows
import Derived.Maps.AppendAt
import Derived.RegionTactic
import Derived.OwnWalk
import Derived.ChangeSame
import Derived.Lib.OthersKept
import Derived.Test.YtpcgcghhddnifaaGreatDoorRows
import Derived.WalkKit
import Derived.ProofKit
import Derived.Laws.RangeAny
import Derived.Lib.Hide
import Derived.Outline
import Derived.WalkLawsBesides
import Derived.LoopN
import Derived.Test.YtpcgcghhddnifaaGreatDoorShelf
import Derived.Lib.UnsafeStr
import Derived.Lib.IndexLaws
import Derived.Lib.IndexBytes
import Derived.WalkSpells
import Derived.Deep.RegionLaw
set_option linter.unusedVariables false
set_option linter.unusedSimpArgs false
namespace Ph
open Go
theorem w1 (s : ByteArray) (i : Nat) : 1 ≤ (Utf8.decode s i).2 := Lib.width_pos s i
theorem wN (n b0 b1 b2 b3 : Nat) (h : 1 ≤ n) : (Lib.decodeN n b0 b1 b2 b3).2 ≤ n ∧ (Lib.decodeN n b0 b1 b2 b3).2 ≤ 4 := by
  unfold Lib.decodeN; repeat' split
  all_goals (simp only; omega)
theorem wIn (s : ByteArray) (i : Nat) (h : i < s.size) : i + (Utf8.decode s i).2 ≤ s.size := by
  rw [Lib.decode_at]
  have := (wN (s.size - i) (s.get! i).toNat (s.get! (i + 1)).toNat (s.get! (i + 2)).toNat (s.get! (i + 3)).toNat (by omega)).1
  omega
theorem get_eq (s : ByteArray) (i : Nat) (h : i < s.size) : s.get! i = s[i] := by
  simp [ByteArray.get!, getElem!_pos, h]
  rfl
theorem lowN (n b0 b1 b2 b3 c : Nat) (hc : c < 128) : (Lib.decodeN n b0 b1 b2 b3).1 = c ↔ b0 = c := by
  unfold Lib.decodeN; repeat' split
  all_goals (try simp only)
  all_goals omega
/-- a rune of ASCII is its byte -/
theorem low_iff (s : ByteArray) (i c : Nat) (h : i < s.size) (hc : c < 128) : (Utf8.decode s i).1 = c ↔ s[i].toNat = c := by
  rw [Lib.decode_at, lowN _ _ _ _ _ _ hc, get_eq s i h]
theorem contN (n b0 b1 b2 b3 k : Nat) (h1 : b1 < 256) (h2 : b2 < 256) (h3 : b3 < 256) (hk : 0 < k) (hw : k < (Lib.decodeN n b0 b1 b2 b3).2) : 128 ≤ (if k = 1 then b1 else if k = 2 then b2 else b3) ∧ k < n ∧ k ≤ 3 ∧ 128 ≤ b0 := by
  unfold Lib.decodeN at hw; repeat' split at hw
  all_goals (simp only at hw; repeat' split)
  all_goals omega
/-- what stands within a form is no ASCII -/
theorem within (s : ByteArray) (i j : Nat) (_h : i < s.size) (h1 : i < j) (h2 : j < i + (Utf8.decode s i).2) (hj : j < s.size) : 128 ≤ s[j].toNat := by
  rw [Lib.decode_at] at h2
  obtain ⟨a, b, c, _⟩ := contN (s.size - i) (s.get! i).toNat (s.get! (i + 1)).toNat (s.get! (i + 2)).toNat (s.get! (i + 3)).toNat (j - i) (UInt8.toNat_lt _) (UInt8.toNat_lt _) (UInt8.toNat_lt _) (by omega) (by omega)
  rw [← get_eq s j hj]
  split at a
  · rw [show j = i + 1 by omega]; exact a
  · split at a
    · rw [show j = i + 2 by omega]; exact a
    · rw [show j = i + 3 by omega]; exact a
theorem first (s : ByteArray) (i : Nat) (h : i < s.size) (hw : 1 < (Utf8.decode s i).2) : 128 ≤ s[i].toNat := by
  rw [Lib.decode_at] at hw
  obtain ⟨_, _, _, a⟩ := contN (s.size - i) (s.get! i).toNat (s.get! (i + 1)).toNat (s.get! (i + 2)).toNat (s.get! (i + 3)).toNat 1 (UInt8.toNat_lt _) (UInt8.toNat_lt _) (UInt8.toNat_lt _) (by omega) hw
  rw [← get_eq s i h]; exact a
def bad (s : ByteArray) (i : Nat) : Bool := decide ((Utf8.decode s i).1 = 65533 ∧ (Utf8.decode s i).2 = 1)
/-- the first broken byte from a place on -/
def brkF (s : ByteArray) : Nat → Nat → Option Nat
  | 0, _ => none
  | f + 1, i => if i < s.size then (if bad s i then some i else brkF s f (i + (Utf8.decode s i).2)) else none
theorem brkF_more (s : ByteArray) : ∀ (f i : Nat), s.size - i ≤ f → brkF s f i = brkF s (s.size - i) i := by
  intro f
  induction f using Nat.strongRecOn with
  | ind f ih =>
    intro i hf
    cases f with
    | zero => rw [show s.size - i = 0 by omega]
    | succ f =>
      by_cases h : i < s.size
      · obtain ⟨g, hg⟩ : ∃ g, s.size - i = g + 1 := ⟨s.size - i - 1, by omega⟩
        rw [hg]
        simp only [brkF, h, if_true]
        split
        · rfl
        · have w := w1 s i
          rw [ih f (by omega) _ (by omega), ih g (by omega) _ (by omega)]
      · rw [show s.size - i = 0 by omega]; simp [brkF, h]
def brk (s : ByteArray) (i : Nat) : Option Nat := brkF s (s.size - i) i
theorem brk_end (s : ByteArray) (i : Nat) (h : ¬ i < s.size) : brk s i = none := by
  unfold brk; rw [show s.size - i = 0 by omega]; rfl
theorem brk_bad (s : ByteArray) (i : Nat) (h : i < s.size) (hb : bad s i = true) : brk s i = some i := by
  unfold brk
  obtain ⟨g, hg⟩ : ∃ g, s.size - i = g + 1 := ⟨s.size - i - 1, by omega⟩
  rw [hg]; simp [brkF, h, hb]
theorem brk_step (s : ByteArray) (i : Nat) (h : i < s.size) (hb : bad s i = false) : brk s i = brk s (i + (Utf8.decode s i).2) := by
  unfold brk
  obtain ⟨g, hg⟩ : ∃ g, s.size - i = g + 1 := ⟨s.size - i - 1, by omega⟩
  have w := w1 s i
  rw [hg]; simp only [brkF, h, if_true, hb, Bool.false_eq_true, if_false]
  exact brkF_more s g _ (by omega)
theorem brk_lt (s : ByteArray) : ∀ (f i k : Nat), brkF s f i = some k → i ≤ k ∧ k < s.size := by
  intro f
  induction f with
  | zero => intro i k h; simp [brkF] at h
  | succ f ih =>
    intro i k h
    simp only [brkF] at h
    split at h
    · split at h
      · simp at h; omega
      · have := ih _ _ h; omega
    · simp at h
end Ph
namespace Ph
/-- a piece of a phrase -/
structure Pc where
  kind : Int
  text : ByteArray
  place : Int
/-- a place's digits -/
def digits (n : Nat) : List UInt8 := if n < 10 then [UInt8.ofNat (48 + n)] else [49, UInt8.ofNat (48 + (n - 10))]
def placeOf (l : List UInt8) : Option Nat := (List.range 16).find? (fun n => digits n == l)
theorem place_some {l : List UInt8} {n : Nat} (h : placeOf l = some n) : n < 16 ∧ l = digits n := by
  unfold placeOf at h
  have a := List.find?_some h
  have b := List.mem_of_find?_eq_some h
  exact ⟨by simpa using b, by simpa using (beq_iff_eq.1 a).symm⟩
theorem digits_inj : ∀ n, n < 16 → ∀ m, m < 16 → digits n = digits m → n = m := by decide +kernel
theorem place_digits {n : Nat} (h : n < 16) : placeOf (digits n) = some n := by
  cases e : placeOf (digits n) with
  | none =>
    unfold placeOf at e
    have := List.find?_eq_none.1 e n (by simpa using h)
    simp at this
  | some m =>
    obtain ⟨a, b⟩ := place_some e
    rw [digits_inj n h m a b]
theorem place_none {l : List UInt8} (h : placeOf l = none) (n : Nat) (hn : n < 16) : l ≠ digits n := by
  rintro rfl
  rw [place_digits hn] at h; cases h
def pre (l : List Pc) : Except Nat (List Pc) → Except Nat (List Pc)
  | .ok m => .ok (l ++ m)
  | .error k => .error k
theorem pre_nil (r : Except Nat (List Pc)) : pre [] r = r := by cases r <;> rfl
theorem pre_pre (l m : List Pc) (r : Except Nat (List Pc)) : pre l (pre m r) = pre (l ++ m) r := by cases r <;> simp [pre]
def brace (c : UInt8) : Prop := c = 123 ∨ c = 125
/-- what a text falls into from a place on, or where it is wrong -/
inductive Par (s : ByteArray) : Nat → Except Nat (List Pc) → Prop
  | fin (i : Nat) (h : ¬ i < s.size) : Par s i (.ok [])
  | opens (i j n : Nat) (r : Except Nat (List Pc)) (h : i < s.size) (h1 : s[i] = 123) (hj : i < j) (hj' : j < s.size) (h2 : s[j] = 125)
      (h3 : ∀ k (hk : k < s.size), i < k → k < j → s[k] ≠ 125) (hp : placeOf (s.extract (i + 1) j).data.toList = some n) (hr : Par s (j + 1) r) : Par s i (pre [⟨2, ⟨#[]⟩, n⟩] r)
  | noclose (i : Nat) (h : i < s.size) (h1 : s[i] = 123) (h3 : ∀ k (hk : k < s.size), i < k → s[k] ≠ 125) : Par s i (.error i)
  | badplace (i j : Nat) (h : i < s.size) (h1 : s[i] = 123) (hj : i < j) (hj' : j < s.size) (h2 : s[j] = 125)
      (h3 : ∀ k (hk : k < s.size), i < k → k < j → s[k] ≠ 125) (hp : placeOf (s.extract (i + 1) j).data.toList = none) : Par s i (.error i)
  | closes (i : Nat) (h : i < s.size) (h1 : s[i] = 125) : Par s i (.error i)
  | text (i k : Nat) (r : Except Nat (List Pc)) (h : i < s.size) (hk : i < k) (hk' : k ≤ s.size) (h1 : ∀ m (hm : m < s.size), i ≤ m → m < k → ¬ brace s[m])
      (h2 : ∀ hk : k < s.size, brace s[k]) (hr : Par s k r) : Par s i (pre [⟨1, s.extract i k, 0⟩] r)
theorem Par.det {s : ByteArray} {i : Nat} {r : Except Nat (List Pc)} (h : Par s i r) : ∀ {r'}, Par s i r' → r = r' := by
  have b123 : (123 : UInt8) ≠ 125 := by decide
  induction h with
  | fin i h => intro r' h'; cases h' with | fin => rfl | _ => omega
  | opens i j n r h h1 hj hj' h2 h3 hp hr ih =>
    intro r' h'
    cases h' with
    | fin _ g => omega
    | opens _ j' n' r' g g1 gj gj' g2 g3 gp gr =>
      have e : j = j' := by
        rcases Nat.lt_trichotomy j j' with c | c | c
        · exact absurd h2 (g3 j hj' hj c)
        · exact c
        · exact absurd g2 (h3 j' gj' gj c)
      subst e
      rw [hp] at gp
      cases gp
      rw [ih gr]
    | noclose _ g g1 g3 => exact absurd h2 (g3 j hj' hj)
    | badplace _ j' g g1 gj gj' g2 g3 gp =>
      have e : j = j' := by
        rcases Nat.lt_trichotomy j j' with c | c | c
        · exact absurd h2 (g3 j hj' hj c)
        · exact c
        · exact absurd g2 (h3 j' gj' gj c)
      subst e
      rw [hp] at gp
      cases gp
    | closes _ g g1 => rw [h1] at g1; exact absurd g1 b123
    | text _ k r' g gk gk' g1 g2 gr => exact absurd (Or.inl h1) (g1 i g (Nat.le_refl _) gk)
  | noclose i h h1 h3 =>
    intro r' h'
    cases h' with
    | fin _ g => omega
    | opens _ j' n' r' g g1 gj gj' g2 g3 gp gr => exact absurd g2 (h3 j' gj' gj)
    | noclose _ g g1 g3 => rfl
    | badplace _ j' g g1 gj gj' g2 g3 gp => rfl
    | closes _ g g1 => rfl
    | text _ k r' g gk gk' g1 g2 gr => exact absurd (Or.inl h1) (g1 i g (Nat.le_refl _) gk)
  | badplace i j h h1 hj hj' h2 h3 hp =>
    intro r' h'
    cases h' with
    | fin _ g => omega
    | opens _ j' n' r' g g1 gj gj' g2 g3 gp gr =>
      have e : j = j' := by
        rcases Nat.lt_trichotomy j j' with c | c | c
        · exact absurd h2 (g3 j hj' hj c)
        · exact c
        · exact absurd g2 (h3 j' gj' gj c)
      subst e
      rw [hp] at gp
      cases gp
    | noclose _ g g1 g3 => rfl
    | badplace _ j' g g1 gj gj' g2 g3 gp => rfl
    | closes _ g g1 => rfl
    | text _ k r' g gk gk' g1 g2 gr => exact absurd (Or.inl h1) (g1 i g (Nat.le_refl _) gk)
  | closes i h h1 =>
    intro r' h'
    cases h' with
    | fin _ g => omega
    | opens _ j' n' r' g g1 gj gj' g2 g3 gp gr => rw [h1] at g1; exact absurd g1.symm b123
    | noclose _ g g1 g3 => rfl
    | badplace _ j' g g1 gj gj' g2 g3 gp => rfl
    | closes _ g g1 => rfl
    | text _ k r' g gk gk' g1 g2 gr => exact absurd (Or.inr h1) (g1 i g (Nat.le_refl _) gk)
  | text i k r h hk hk' h1 h2 hr ih =>
    intro r' h'
    cases h' with
    | fin _ g => omega
    | opens _ j' n' r' g g1 gj gj' g2 g3 gp gr => exact absurd (Or.inl g1) (h1 i h (Nat.le_refl _) hk)
    | noclose _ g g1 g3 => exact absurd (Or.inl g1) (h1 i h (Nat.le_refl _) hk)
    | badplace _ j' g g1 gj gj' g2 g3 gp => exact absurd (Or.inl g1) (h1 i h (Nat.le_refl _) hk)
    | closes _ g g1 => exact absurd (Or.inr g1) (h1 i h (Nat.le_refl _) hk)
    | text _ k' r' g gk gk' g1 g2 gr =>
      have e : k = k' := by
        rcases Nat.lt_trichotomy k k' with c | c | c
        · exact absurd (h2 (by omega)) (g1 k (by omega) (by omega) c)
        · exact c
        · exact absurd (g2 (by omega)) (h1 k' (by omega) (by omega) c)
      subst e
      rw [ih gr]
end Ph
namespace Go.Proofs.YtpcgcghhddnifaaGreatDoor
open Go.RowKit
theorem block_of_add (a : Addr) (n : Nat) : (a.add n).block = a.block := by unfold Addr.add; split <;> rfl
theorem add_of_add (a : Addr) (i j : Nat) : (a.add i).add j = a.add (i + j) := by
  unfold Addr.add
  by_cases hi : i = 0 <;> by_cases hj : j = 0 <;> simp [hi, hj, Nat.add_assoc]

def Reads (w : World) (B size : Nat) (A : Option Addr) (n : Nat) (xs : List Value) : Prop :=
  xs.length = n * size ∧ (0 < n → ∃ ad, A = some ad ∧ ad.block < B ∧ ∀ j u, xs[j]? = some u → w.cell? (ad.add j) = some u)

section
variable {w w' : World} {B B' size n : Nat} {A : Option Addr} {xs : List Value}
theorem Reads.none_ : Reads w B size A 0 [] := ⟨by simp, fun h => absurd h (by omega)⟩
theorem Reads.at_ {k : Nat} (h : Reads w B 1 A n xs) (hk : k < n) : ∃ ad u, A = some ad ∧ ad.block < B ∧ xs[k]? = some u ∧ w.cell? (ad.add k) = some u := by
  obtain ⟨ad, e, hb, hc⟩ := h.2 (by omega)
  have hl : k < xs.length := by have := h.1; omega
  exact ⟨ad, xs[k], e, hb, List.getElem?_eq_getElem hl, hc k _ (List.getElem?_eq_getElem hl)⟩
theorem Reads.keep (h : Reads w B size A n xs) (hk : ∀ p : Addr, p.block < B → w'.cell? p = w.cell? p) : Reads w' B size A n xs :=
  ⟨h.1, fun hn => by
    obtain ⟨ad, e, hb, hc⟩ := h.2 hn
    exact ⟨ad, e, hb, fun j u hu => (hk _ (by rw [block_of_add]; exact hb)).trans (hc j u hu)⟩⟩
theorem Reads.more (h : Reads w B size A n xs) (hB : B ≤ B') : Reads w B' size A n xs :=
  ⟨h.1, fun hn => by
    obtain ⟨ad, e, hb, hc⟩ := h.2 hn
    exact ⟨ad, e, by omega, hc⟩⟩
theorem Reads.below (h : Reads w B size A n xs) (hb : Below B w w') : Reads w' B size A n xs := h.keep fun _ hp => hb.cell hp
theorem Reads.drew (h : Reads w B size A n xs) : Reads w.drew B size A n xs := h
theorem Reads.drewN (h : Reads w B size A n xs) (k : Nat) : Reads (w.drewN k) B size A n xs := h
theorem Reads.alloc (h : Reads w B size A n xs) (hB : B ≤ w.heap.size) (o : Obj) : Reads (w.alloc o) B size A n xs := h.keep fun p hp => World.cell?_alloc_lt w o p (by omega)
theorem Reads.setCell (h : Reads w B size A n xs) {p : Addr} (hB : B ≤ p.block) (u : Value) : Reads (w.setCell p u) B size A n xs :=
  h.keep fun q hq => World.cell?_setCell_other w p q u (fun e => by subst e; omega)
theorem Reads.grown (h : Reads w B size A n xs) {row : Option Nat} (hg : w.grownBy w' row) (hB : B ≤ w.heap.size) (hr : ∀ g, row = some g → B ≤ g) : Reads w' B size A n xs :=
  h.keep fun p hp => World.cell?_of_block (hg.block p.block (by omega) (fun e => by have := hr _ e.symm; omega))
theorem Reads.cut (h : Reads w B size A n xs) {k cap : Nat} (hk : k ≤ n) (hc : n ≤ cap) :
    Reads w B size (if cap = k then A else A.map (·.add (k * size))) (n - k) (xs.drop (k * size)) := by
  refine ⟨by rw [List.length_drop, h.1, Nat.sub_mul], fun hn => ?_⟩
  obtain ⟨ad, rfl, hb, hcell⟩ := h.2 (by omega)
  rw [if_neg (by omega)]
  refine ⟨ad.add (k * size), rfl, by rw [block_of_add]; exact hb, fun j u hu => ?_⟩
  rw [add_of_add]
  exact hcell _ u (by rw [← hu, List.getElem?_drop])
theorem Reads.of_own {base : Nat} {e : TypeId} {c : Nat} (h : w.ownsRow base e size (.slice A n c) n xs) : Reads w w.heap.size size A n xs := by
  refine ⟨h.1, fun hn => ?_⟩
  obtain ⟨g, cap, hv, _, hlt⟩ := h.form hn
  have hA : A = some ⟨g, 0, none⟩ := by injection hv
  subst hA
  exact ⟨_, rfl, hlt, h.cells (g := g) rfl⟩
end
def Blk (w : World) (g : Nat) (t : TypeId) (cs : Array Value) : Prop := w.heap[g]? = some (.cells cs t (0, 0))

section
variable {w w' : World} {g : Nat} {t : TypeId} {cs : Array Value}
theorem Blk.lt (h : Blk w g t cs) : g < w.heap.size := by
  rcases Nat.lt_or_ge g w.heap.size with hlt | hge
  · exact hlt
  · unfold Blk at h; rw [Array.getElem?_eq_none hge] at h; cases h
theorem Blk.cell (h : Blk w g t cs) (i : Nat) : w.cell? ⟨g, i, none⟩ = cs[i]? := cell_of_row w g i cs t (0, 0) h
theorem Blk.frozen (h : Blk w g t cs) (i : Nat) : w.frozen? ⟨g, i, none⟩ = false := by
  unfold Blk at h
  simp [World.frozen?, h]
theorem Blk.new (w : World) (t : TypeId) (cs : Array Value) : Blk (w.alloc (.cells cs t)) w.heap.size t cs := heap_alloc_new w _
theorem Blk.drew (h : Blk w g t cs) : Blk w.drew g t cs := h
theorem Blk.drewN (h : Blk w g t cs) (n : Nat) : Blk (w.drewN n) g t cs := h
theorem Blk.alloc (h : Blk w g t cs) (o : Obj) : Blk (w.alloc o) g t cs := (Below.heap_alloc w o g h.lt).trans h
theorem Blk.set_ (h : Blk w g t cs) (i : Nat) (u : Value) : Blk (w.setCell ⟨g, i, none⟩ u) g t (cs.setIfInBounds i u) := by
  unfold Blk at h ⊢
  simp [World.setCell, Array.getElem?_modify, h]
theorem Blk.far (h : Blk w g t cs) {p : Addr} (hp : g ≠ p.block) (u : Value) : Blk (w.setCell p u) g t cs := (Below.heap_setCell w p u g hp).trans h
theorem Blk.below {B : Nat} (h : Blk w g t cs) (hb : Below B w w') (hg : g < B) : Blk w' g t cs := (hb.block g hg).trans h
theorem Blk.grown {row : Option Nat} (h : Blk w g t cs) (hb : w.grownBy w' row) (hg : some g ≠ row) : Blk w' g t cs := (hb.block g h.lt hg).trans h
theorem Blk.ne_ {g' : Nat} {t' : TypeId} {cs' : Array Value} (h : Blk w g t cs) (h' : Blk w g' t' cs') (hne : t ≠ t') : g ≠ g' := by
  rintro rfl
  unfold Blk at h h'
  rw [h] at h'
  injection h' with h'
  injection h' with _ ht
  exact hne ht
theorem own_blk_ne {base : Nat} {e : TypeId} {size n : Nat} {v : Value} {xs : List Value} (h : w.ownsRow base e size v n xs) (hg : Blk w g t cs) (hne : e ≠ t) : v.ownBlock ≠ some g := by
  rcases h.2 with ⟨rfl, _⟩ | ⟨g', cap, cur, rfl, _, hh, _⟩
  · simp [Value.ownBlock]
  · intro he
    have : g' = g := by simpa [Value.ownBlock] using he
    subst this
    exact Blk.ne_ (t := e) hh hg hne rfl
end
section
variable {P : Program} (w : World)

theorem run_append_of_nil (base : Nat) (t ty e : TypeId) (i : TypeInfo) (size : Nat) (ht : P.underlying t = some (.slice e)) (hi : P.info? e = some i)
    (v : Value) (n : Nat) (xs : List Value) (hown : w.ownsRow base e size v n xs) (c : Nat) : (Builtin.append_ #[t, t] ty #[v, .slice none 0 c]).run P w = .ok v w := by
  rcases hown.2 with ⟨rfl, rfl⟩ | ⟨g, cap, cur, rfl, _, _, hnc, _⟩
  · simp [Builtin.append_, run_underlying ht, sizeOf, typeInfo, hi, Builtin.lenOf, Builtin.firstCells]
  · simp [Builtin.append_, run_underlying ht, sizeOf, typeInfo, hi, Builtin.lenOf, Builtin.firstCells, hnc, storeCells]

theorem run_append_any (base : Nat) (t ty e : TypeId) (i : TypeInfo) (z : Value) (size bytes : Nat) (ht : P.underlying t = some (.slice e)) (hi : P.info? e = some i) (hz : i.zero = some z)
    (hsize : i.size = size) (hby : i.bytes = bytes) (hzs : z.cells.size = size) (hsz : 0 < size)
    (v : Value) (n : Nat) (xs : List Value) (hown : w.ownsRow base e size v n xs)
    (B : Nat) (A : Option Addr) (m c : Nat) (news : List Value) (hr : Reads w B size A m news) (h1 : ∀ u ∈ news, u.oneCell' = true)
    (h63 : n + m ≤ maxLen) (hbytes : (n + m) * bytes ≤ 140737488355328) (hbase : base ≤ w.heap.size) :
    ∃ v' w', (Builtin.append_ #[t, t] ty #[v, .slice A m c]).run P w = .ok v' w' ∧ w'.ownsRow base e size v' (n + m) (xs ++ news) ∧ w.grownBy w' v.ownBlock ∧
      (v'.ownBlock = v.ownBlock ∨ v'.ownBlock = some w.heap.size) := by
  rcases A with _ | ad
  · have hm : m = 0 := by
      rcases Nat.eq_zero_or_pos m with h0 | h0
      · exact h0
      · obtain ⟨ad, h, _⟩ := hr.2 h0
        cases h
    subst hm
    have hn : news = [] := List.eq_nil_of_length_eq_zero (by simpa using hr.1)
    subst hn
    exact ⟨v, w, run_append_of_nil w base t ty e i size ht hi v n xs hown c, by simpa using hown, World.grownBy.refl w _, .inl rfl⟩
  · have hcells : ∀ j u, news[j]? = some u → w.cell? (ad.add j) = some u := by
      intro j u hu
      rcases Nat.eq_zero_or_pos m with h0 | h0
      · subst h0
        have hn : news = [] := List.eq_nil_of_length_eq_zero (by simpa using hr.1)
        subst hn
        simp at hu
      · obtain ⟨ad', h, _, hc⟩ := hr.2 h0
        injection h with h
        subst h
        exact hc j u hu
    obtain ⟨v', w', hrun, h2, h3, _, h5⟩ := run_append_own_at (P := P) w base t ty e i z size bytes ht hi hz hsize hby hzs hsz v n xs hown ad m c news hr.1 hcells h1 h63 hbytes hbase
    exact ⟨v', w', hrun, h2, h3, h5⟩

theorem wp_append_any {o : Oper} {a : Act} {K : Act → World → Prop} {Q : Exit → Act → World → Prop} (s x : Operand) (t : TypeId)
    (ho : o.op = .call { callee := .builtin .append, args := #[s, x], argTypes := #[t, t] })
    (base : Nat) (e : TypeId) (i : TypeInfo) (z : Value) (size bytes : Nat) (ht : P.underlying t = some (.slice e)) (hi : P.info? e = some i) (hz : i.zero = some z)
    (hsize : i.size = size) (hby : i.bytes = bytes) (hzs : z.cells.size = size) (hsz : 0 < size)
    (v : Value) (n : Nat) (xs : List Value) (hs : a.eval s = v) (hown : w.ownsRow base e size v n xs)
    (B : Nat) (A : Option Addr) (m c : Nat) (news : List Value) (hx : a.eval x = .slice A m c) (hr : Reads w B size A m news) (h1 : ∀ u ∈ news, u.oneCell' = true)
    (h63 : n + m ≤ maxLen) (hbytes : (n + m) * bytes ≤ 140737488355328) (hbase : base ≤ w.heap.size)
    (h : ∀ v' w', w'.ownsRow base e size v' (n + m) (xs ++ news) → w.grownBy w' v.ownBlock → (v'.ownBlock = v.ownBlock ∨ v'.ownBlock = some w.heap.size) → K (a.put o.dst v') w') : o.wp P a w K Q := by
  obtain ⟨v', w', hrun, h2, h3, h4⟩ := run_append_any (P := P) w base t o.type e i z size bytes ht hi hz hsize hby hzs hsz v n xs hown B A m c news hr h1 h63 hbytes hbase
  unfold Oper.wp execOp
  simp only [ho, resolve, invoke, builtin, Sem.run_bind, Sem.run_pure, Result.andThen_ok, List.map_toArray, List.map_cons, List.map_nil, hs, hx, hrun]
  exact h v' w' h2 h3 h4

theorem wpList_append_any {ops : Array Oper} {rest : List Oper} {o : Oper} {a : Act} {Q : Exit → Act → World → Prop} (hgd : o.guard = none) (s x : Operand) (t : TypeId)
    (ho : o.op = .call { callee := .builtin .append, args := #[s, x], argTypes := #[t, t] })
    (base : Nat) (e : TypeId) (i : TypeInfo) (z : Value) (size bytes : Nat) (ht : P.underlying t = some (.slice e)) (hi : P.info? e = some i) (hz : i.zero = some z)
    (hsize : i.size = size) (hby : i.bytes = bytes) (hzs : z.cells.size = size) (hsz : 0 < size)
    (v : Value) (n : Nat) (xs : List Value) (hs : a.eval s = v) (hown : w.ownsRow base e size v n xs)
    (B : Nat) (A : Option Addr) (m c : Nat) (news : List Value) (hx : a.eval x = .slice A m c) (hr : Reads w B size A m news) (h1 : ∀ u ∈ news, u.oneCell' = true)
    (h63 : n + m ≤ maxLen) (hbytes : (n + m) * bytes ≤ 140737488355328) (hbase : base ≤ w.heap.size)
    (h : ∀ v' w', w'.ownsRow base e size v' (n + m) (xs ++ news) → w.grownBy w' v.ownBlock → (v'.ownBlock = v.ownBlock ∨ v'.ownBlock = some w.heap.size) → wpList P ops Q rest (a.put o.dst v') w') : wpList P ops Q (o :: rest) a w :=
  wpList_plain hgd fun _ hK => wp_append_any w s x t ho base e i z size bytes ht hi hz hsize hby hzs hsz v n xs hs hown B A m c news hx hr h1 h63 hbytes hbase fun v' w' h2 h3 h4 => hK _ _ (h v' w' h2 h3 h4)

theorem step_append_any {ops : Array Oper} {o : Oper} {a : Act} {K : Act → World → Prop} {Q : Exit → Act → World → Prop} {E : Prop} (hgd : o.guard = none) (s x : Operand) (t : TypeId)
    (ho : o.op = .call { callee := .builtin .append, args := #[s, x], argTypes := #[t, t] })
    (base : Nat) (e : TypeId) (i : TypeInfo) (z : Value) (size bytes : Nat) (ht : P.underlying t = some (.slice e)) (hi : P.info? e = some i) (hz : i.zero = some z)
    (hsize : i.size = size) (hby : i.bytes = bytes) (hzs : z.cells.size = size) (hsz : 0 < size)
    (v : Value) (n : Nat) (xs : List Value) (hs : a.eval s = v) (hown : w.ownsRow base e size v n xs)
    (B : Nat) (A : Option Addr) (m c : Nat) (news : List Value) (hx : a.eval x = .slice A m c) (hr : Reads w B size A m news) (h1 : ∀ u ∈ news, u.oneCell' = true)
    (h63 : n + m ≤ maxLen) (hbytes : (n + m) * bytes ≤ 140737488355328) (hbase : base ≤ w.heap.size)
    (h : ∀ v' w', w'.ownsRow base e size v' (n + m) (xs ++ news) → w.grownBy w' v.ownBlock → (v'.ownBlock = v.ownBlock ∨ v'.ownBlock = some w.heap.size) → K (a.put o.dst v') w') :
    if Region.wanted o (yielded ops a.tmps) = true then Oper.wp P o a w K Q else E := by
  have hw : Region.wanted o (yielded ops a.tmps) = true := by simp [Region.wanted, hgd]
  rw [if_pos hw]
  exact wp_append_any w s x t ho base e i z size bytes ht hi hz hsize hby hzs hsz v n xs hs hown B A m c news hx hr h1 h63 hbytes hbase h
end
section
open Go.WideShapes Go.ChangeShapes
section
variable {H : Type} {enc : TypeId × Value → H} {P : Program}
theorem post_of_below {f : Func} {s : ChangeSpec} {apart fresh handsOn again : Bool} {W W' : World} {args : Array Value} {v : Value} {ds gs : List (DataW H)} {before pa pv : List MemPlace}
    (hW : DataW.Whole enc P f.params.toList s.vars apart W args.toList ds gs before)
    (hres : ∀ (b : Nat) (sp : Nat → Bool) (hd : Bool), DataW.TrodAll enc P W' b sp hd f.resultTypes.toList (v.resultList f.resultTypes.size) (s.fn H (ds ++ gs)).results [])
    (hargs : ∀ sp : Nat → Bool, (∀ p ∈ before, sp p.block = true) → DataW.TrodAll enc P W' 0 sp true f.params.toList args.toList (s.fn H (ds ++ gs)).args pa)
    (hvars : ∀ sp : Nat → Bool, (∀ p ∈ before, sp p.block = true) → DataW.TrodVars enc P W' sp s.vars (s.fn H (ds ++ gs)).vars pv)
    (hps : before = pa ++ pv) (hb : Below W.heap.size W W')
    (hok : ∀ (j : Nat) (t : TypeId) (r : Value), f.resultTypes[j]? = some t → (v.resultList f.resultTypes.size)[j]? = some r → Value.okWide P W' .any 0 t r) :
    s.post enc P f apart fresh handsOn again W args v W' := by
  have hlt : ∀ p ∈ before, p.block < W.heap.size := fun p hp => hW.lt p hp
  have hold : ∀ p ∈ before, (fun b => decide (b < W.heap.size)) p.block = true := fun p hp => by simpa using hlt p hp
  refine ⟨ds, gs, before, [], pa, pv, hW, hres _ _ _, hargs _ hold, hvars _ hold, World.keptBut_mono (fun p hp => ⟨hp, ?_⟩) (hb.frame (· ∈ before)), fun _ => ?_⟩
  · rw [hps, List.mem_append] at hp
    exact Or.inr hp
  · obtain ⟨_, _, _, _, _, hz, hn⟩ := hW
    refine ⟨hok, _, _, ([] ++ pa) ++ pv, ⟨[] ++ pa, pv, trodAll_append (hargs _ (fun _ _ => rfl)) (hres _ _ _), hvars _ (fun _ _ => rfl), rfl, ?_, ?_⟩, ?_⟩
    · intro b off hp
      have hin : MemPlace.cell b off ∈ before := by rw [hps]; simpa using hp
      rw [hb.frozen (hlt _ hin)]
      exact hz b off hin
    · intro ha
      have := hn ha
      rw [hps] at this
      simpa using this
    · intro p hp _
      rw [hps]
      simpa using hp
end
end
theorem bcell {W w1 : World} (hb : Below W.heap.size W w1) : (∀ b o, b < W.heap.size → w1.cell? ⟨b, o, none⟩ = W.cell? ⟨b, o, none⟩) ∧ (∀ b o, b < W.heap.size → w1.frozen? ⟨b, o, none⟩ = W.frozen? ⟨b, o, none⟩) :=
  ⟨fun b o h => hb.cell (p := ⟨b, o, none⟩) h, fun b o h => hb.frozen (p := ⟨b, o, none⟩) h⟩
theorem blw_drewN {B : Nat} {a w : World} (h : Below B a w) (k : Nat) : Below B a (w.drewN k) := ⟨h.os, h.tape, h.output, h.size, h.block⟩
theorem blw_drew {B : Nat} {a w : World} (h : Below B a w) : Below B a w.drew := ⟨h.os, h.tape, h.output, h.size, h.block⟩
theorem ret_pair {a b c d : Value} (h : a = c) (h' : b = d) : Ending.returned (.tuple #[a, b]) = .returned (.tuple #[c, d]) := by rw [h, h']
theorem int_eq {k : IntKind} {a b : Int} (h : a = b) : Value.int k a = .int k b := by rw [h]
theorem ret_int {k : IntKind} {a b : Int} (h : a = b) : Ending.returned (.int k a) = .returned (.int k b) := by rw [h]
theorem ret_bool {a b : Bool} (h : a = b) : Ending.returned (.bool a) = .returned (.bool b) := by rw [h]
theorem Blk.at_ {w : World} {g : Nat} {t : TypeId} {cs : Array Value} (h : Blk w g t cs) (i : Nat) {v : Value} (hv : cs[i]? = some v) : w.cell? ⟨g, i, none⟩ = some v := (h.cell i).trans hv
theorem Blk.iterAt {w : World} {g : Nat} {t : TypeId} {cs : Array Value} (h : Blk w g t cs) {k : Nat} {s : ByteArray} {pos : Nat} (hk : w.heap[k]? = some (.stringIter s pos)) (pos' : Nat) : Blk (w.iterAt k s pos') g t cs := by
  unfold Blk at *
  rw [Lib.iterAt_other w k g s pos' (fun e => by rw [e, hk] at h; cases h)]; exact h
end Go.Proofs.YtpcgcghhddnifaaGreatDoor
namespace Go.Proofs.YtpcgcghhddnifaaGreatDoor
open Go.RowKit
open Ph
def spotV : Option Nat → Value
  | some k => .agg #[.int .i64 6, .int .i64 k]
  | none => .agg #[.int .i64 0, .int .i64 0]
theorem bad_of {s : ByteArray} {i : Nat} (h : (Utf8.decode s i).1 = 65533) (w : (Utf8.decode s i).2 = 1) : bad s i = true := by unfold bad; simp [h, w]
theorem bad_not {s : ByteArray} {i : Nat} (h : ¬ ((Utf8.decode s i).1 = 65533 ∧ (Utf8.decode s i).2 = 1)) : bad s i = false := by unfold bad; simp [h]
theorem bne65 (n : Nat) : ((n : Int) == 65533) = decide (n = 65533) := by
  rw [Bool.eq_iff_iff]; simp; omega
theorem next_brk {s : ByteArray} {pos : Nat} {o : Option Nat} (hp : pos < s.size) (h : o = brk s pos) : o = if ((Utf8.decode s pos).1 : Int) == 65533 then brk s pos else brk s (pos + (Utf8.decode s pos).2) := by
  rw [h, bne65]
  by_cases e : (Utf8.decode s pos).1 = 65533
  · simp [e]
  · simp only [e, decide_false, Bool.false_eq_true, if_false]
    exact brk_step s pos hp (bad_not (fun g => e g.1))
set_option maxHeartbeats 1000000 in
theorem utfCheck (s : ByteArray) (hs : s.size ≤ 9223372036854775807) (w : World) :
    Calls Tryz.prog 30 #[.string s] w fun e w' => e = .returned (spotV (brk s 0)) ∧ Below w.heap.size w w' := by
  go_enter Tryz.func30, Tryz.ntmps30
  go_wp2_with fail
  go_loopw [3, 4] (fun u v wr => ∃ (pos last : Nat) (br : Bool), u = .int .i64 last ∧ v = .bool br ∧ wr.heap[w.heap.size + 1]? = some (.stringIter s pos) ∧ Blk wr w.heap.size 72 #[.int .i64 0, .int .i64 0] ∧ Below w.heap.size w wr ∧ pos ≤ s.size ∧ last ≤ pos ∧ brk s 0 = (if br then brk s last else brk s pos) ∧ (br = true → (Utf8.decode s last).1 = 65533 ∧ last + (Utf8.decode s last).2 = pos ∧ last < s.size)) (fun _ _ wr => s.size - wr.iterPos (w.heap.size + 1))
  case atStart =>
    refine ⟨0, 0, false, rfl, rfl, ?_, (Blk.new _ _ _).alloc _, ((Below.refl _ w).alloc (Nat.le_refl _) _).alloc (by simp) _, by omega, by omega, rfl, fun h => by cases h⟩
    have := World.iter_heap (w.alloc (.cells #[.int .i64 0, .int .i64 0] 72)) s 0
    simpa using this
  case round =>
    obtain ⟨pos, last, br, rfl, rfl, hit, hB, hbw, hp1, hp2, hbrk, hbr⟩ := hrel
    have hsz : w.heap.size + 1 < wr.heap.size := (Array.getElem?_eq_some_iff.1 hit).1
    by_cases hp : pos < s.size
    · have hnx : ∀ ty, (Instr.next (.pointer (some ⟨w.heap.size + 1, 0, none⟩)) true ty).run Tryz.prog wr = _ := fun ty => Lib.run_next_any_at wr (w.heap.size + 1) s pos ty hit hp
      have hwd := w1 s pos
      have hwi := wIn s pos hp
      have hd1 := decode_le s pos
      have hit2 := Lib.iterAt_heap wr (w.heap.size + 1) s pos (pos + (Utf8.decode s pos).2) hit
      have hbw2 := Lib.below_iterAt hbw (k := w.heap.size + 1) (by omega) s (pos + (Utf8.decode s pos).2)
      have hB2 := hB.iterAt hit (pos + (Utf8.decode s pos).2)
      have HB := Lib.hid hbrk
      have HR := Lib.hid hbr
      clear hbrk hbr
      cases br
      · have e0 := HB.out
        simp only [Bool.false_eq_true, if_false] at e0
        have E0 := Lib.hid e0
        clear e0
        go_wp2_with fail
        go_roundw
        case rel => exact ⟨pos + (Utf8.decode s pos).2, pos, ((Utf8.decode s pos).1 : Int) == 65533, by trivial, by trivial, hit2, hB2, hbw2, hwi, by omega, next_brk hp E0.out, fun h => ⟨by rw [bne65] at h; simpa using h, rfl, hp⟩⟩
        case measure =>
          simp only [World.iterPos, hit2, hit]
          omega
      · obtain ⟨r1, r2, r3⟩ := HR.out rfl
        have e0 := HB.out
        simp only [if_true] at e0
        by_cases h1 : pos = last + 1
        · have e1 : brk s 0 = some last := by rw [e0]; exact brk_bad s last r3 (bad_of r1 (by omega))
          have E0 := Lib.hid e1
          have h2 : ((pos : Int) - last == 1) = true := beq_iff_eq.2 (by omega)
          clear e0 e1 r1 r2 h1
          have hc0 := hB2.at_ 0 (v := .int .i64 0) rfl
          have hc1 := hB2.at_ 1 (v := .int .i64 0) rfl
          have hf := hB2.frozen
          go_wp2_with fail
          refine bodyPost_ret (v := spotV (some last)) ?_ rfl ⟨by rw [E0.out], ?_⟩
          · simp [spotV, results, Tryz.results30, go_sem, hc0, hc1]
          · exact (hbw2.setCell (by simp) _).setCell (by simp) _
        · have e1 : brk s 0 = brk s pos := by
            rw [e0, ← r2]; exact brk_step s last r3 (bad_not (fun g => h1 (by omega)))
          have E0 := Lib.hid e1
          clear e0 e1 r1 r2
          have h2 : ((pos : Int) - last == 1) = false := beq_eq_false_iff_ne.2 (by omega)
          go_wp2_with fail
          go_roundw
          case rel => exact ⟨pos + (Utf8.decode s pos).2, pos, ((Utf8.decode s pos).1 : Int) == 65533, by trivial, by trivial, hit2, hB2, hbw2, hwi, by omega, next_brk hp E0.out, fun h => ⟨by rw [bne65] at h; simpa using h, rfl, hp⟩⟩
          case measure =>
            simp only [World.iterPos, hit2, hit]
            omega
    · have hnx : ∀ ty, (Instr.next (.pointer (some ⟨w.heap.size + 1, 0, none⟩)) true ty).run Tryz.prog wr = _ := fun ty => Lib.run_next_end_at wr (w.heap.size + 1) s pos ty hit hp
      have hc0 := hB.at_ 0 (v := .int .i64 0) rfl
      have hc1 := hB.at_ 1 (v := .int .i64 0) rfl
      have hf := hB.frozen
      have hend := brk_end s pos hp
      have HB := Lib.hid hbrk
      have HR := Lib.hid hbr
      have HE := Lib.hid hend
      clear hbrk hbr hend
      cases br
      · have E0 := Lib.hid (HB.out.trans (by simp only [Bool.false_eq_true, if_false]; exact HE.out))
        go_wp2_with fail
        refine bodyPost_ret (v := spotV none) ?_ rfl ⟨by rw [E0.out], ?_⟩
        · simp [spotV, results, Tryz.results30, go_sem, hc0, hc1]
        · exact (hbw.setCell (by simp) _).setCell (by simp) _
      · obtain ⟨r1, r2, r3⟩ := HR.out rfl
        have e0 := HB.out
        simp only [if_true] at e0
        by_cases h1 : s.size = last + 1
        · have e1 : brk s 0 = some last := by rw [e0]; exact brk_bad s last r3 (bad_of r1 (by omega))
          have E0 := Lib.hid e1
          have h2 : ((s.size : Int) - last == 1) = true := beq_iff_eq.2 (by omega)
          clear e0 e1 r1 r2 h1
          go_wp2_with fail
          refine bodyPost_ret (v := spotV (some last)) ?_ rfl ⟨by rw [E0.out], ?_⟩
          · simp [spotV, results, Tryz.results30, go_sem, hc0, hc1]
          · exact (hbw.setCell (by simp) _).setCell (by simp) _
        · have e1 : brk s 0 = none := by
            rw [e0, brk_step s last r3 (bad_not (fun g => h1 (by omega))), r2]; exact HE.out
          have E0 := Lib.hid e1
          have h2 : ((s.size : Int) - last == 1) = false := beq_eq_false_iff_ne.2 (by omega)
          clear e0 e1 r1 r2 h1
          go_wp2_with fail
          refine bodyPost_ret (v := spotV none) ?_ rfl ⟨by rw [E0.out], ?_⟩
          · simp [spotV, results, Tryz.results30, go_sem, hc0, hc1]
          · exact (hbw.setCell (by simp) _).setCell (by simp) _
end Go.Proofs.YtpcgcghhddnifaaGreatDoor
namespace Ph
open Go
/-- what Form answers, by the bytes -/
def formN (n b0 b1 b2 b3 : Nat) : Int × Int :=
  if b0 < 128 then (b0, 1)
  else if 194 ≤ b0 ∧ b0 ≤ 223 then (if n < 2 ∨ b1 / 64 ≠ 2 then (-1, 1) else ((b0 % 32 * 64 + b1 % 64 : Nat), 2))
  else if 224 ≤ b0 ∧ b0 ≤ 239 then (if n < 3 ∨ b1 / 64 ≠ 2 ∨ b2 / 64 ≠ 2 ∨ b0 % 16 * 4096 + b1 % 64 * 64 + b2 % 64 < 2048 ∨ (55296 ≤ b0 % 16 * 4096 + b1 % 64 * 64 + b2 % 64 ∧ b0 % 16 * 4096 + b1 % 64 * 64 + b2 % 64 ≤ 57343) then (-1, 1) else ((b0 % 16 * 4096 + b1 % 64 * 64 + b2 % 64 : Nat), 3))
  else if 240 ≤ b0 ∧ b0 ≤ 244 then (if n < 4 ∨ b1 / 64 ≠ 2 ∨ b2 / 64 ≠ 2 ∨ b3 / 64 ≠ 2 ∨ b0 % 8 * 262144 + b1 % 64 * 4096 + b2 % 64 * 64 + b3 % 64 < 65536 ∨ 1114111 < b0 % 8 * 262144 + b1 % 64 * 4096 + b2 % 64 * 64 + b3 % 64 then (-1, 1) else ((b0 % 8 * 262144 + b1 % 64 * 4096 + b2 % 64 * 64 + b3 % 64 : Nat), 4))
  else (-1, 1)
set_option maxRecDepth 100000 in
set_option maxHeartbeats 4000000 in
theorem formN_eq (n b0 b1 b2 b3 : Nat) (h0 : b0 < 256) : formN n b0 b1 b2 b3 = if (Lib.decodeN n b0 b1 b2 b3).1 = 65533 ∧ (Lib.decodeN n b0 b1 b2 b3).2 = 1 then (-1, 1) else (((Lib.decodeN n b0 b1 b2 b3).1 : Int), ((Lib.decodeN n b0 b1 b2 b3).2 : Int)) := by
  unfold formN Lib.decodeN
  by_cases c1 : b0 < 128
  · simp [c1]; omega
  by_cases c2 : 194 ≤ b0 ∧ b0 ≤ 223
  · have e : b0 / 32 = 6 := by omega
    simp only [c1, c2, e, if_true, if_false, true_and, and_self]
    repeat' split
    all_goals first | rfl | (exfalso; omega) | (apply Prod.ext <;> simp only <;> omega)
  by_cases c3 : 224 ≤ b0 ∧ b0 ≤ 239
  · have e : b0 / 16 = 14 := by omega
    have e' : ¬ b0 / 32 = 6 := by omega
    simp only [c1, c2, c3, e, e', if_true, if_false, true_and, false_and, and_self]
    repeat' split
    all_goals first | rfl | (exfalso; omega) | (apply Prod.ext <;> simp only <;> omega)
  by_cases c4 : 240 ≤ b0 ∧ b0 ≤ 244
  · have e : b0 / 8 = 30 := by omega
    have e' : ¬ b0 / 32 = 6 := by omega
    have e'' : ¬ b0 / 16 = 14 := by omega
    simp only [c1, c2, c3, c4, e, e', e'', if_true, if_false, true_and, false_and, and_self]
    repeat' split
    all_goals first | rfl | (exfalso; omega) | (apply Prod.ext <;> simp only <;> omega)
  simp only [c1, c2, c3, c4, if_false]
  repeat' split
  all_goals first | rfl | (exfalso; omega) | (apply Prod.ext <;> simp only <;> omega) | (simp_all; omega)
theorem and192 : ∀ n : Nat, n < 256 → (bits BinOp.and IntKind.u8 (n : Int) 192 != 128) = decide (n / 64 ≠ 2) := by decide +kernel
theorem and63 : ∀ n : Nat, n < 256 → RowKit.wrap32 (bits BinOp.and IntKind.u8 (n : Int) 63) = ((n % 64 : Nat) : Int) := by decide +kernel
theorem or32 (a b : Nat) (ha : a < 33554432) (hb : b < 64) : bits .or .i32 ((a : Int) * 64) (b : Int) = ((a * 64 + b : Nat) : Int) := by
  have e : (a : Int) * 64 = ((a * 64 : Nat) : Int) := by omega
  rw [e]
  have ho : a * 64 ||| b = a * 64 + b := by
    have := Nat.shiftLeft_add_eq_or_of_lt (i := 6) hb a
    rw [Nat.shiftLeft_eq] at this
    exact this.symm
  show IntKind.i32.wrap ((BitVec.ofInt 32 ((a * 64 : Nat) : Int) ||| BitVec.ofInt 32 (b : Int)).toNat : Int) = _
  rw [BitVec.toNat_or, BitVec.ofInt_natCast, BitVec.ofInt_natCast, BitVec.toNat_ofNat, BitVec.toNat_ofNat, Nat.mod_eq_of_lt (by omega), Nat.mod_eq_of_lt (by omega), ho]
  exact IntWalk.i32_in _ (by omega)
end Ph
namespace Go.Proofs.YtpcgcghhddnifaaGreatDoor
open Go.RowKit
open Ph
set_option maxRecDepth 100000 in
set_option maxHeartbeats 1000000 in
theorem form_ascii (s : ByteArray) (i : Nat) (_hs : s.size ≤ 281474976710656) (hi : i < s.size) (h0 : s[i].toNat < 128) (w : World) :
    Calls Tryz.prog 59 #[.string s, .int .i64 i] w fun e w' => e = .returned (.tuple #[.int .i32 (s[i].toNat), .int .i64 1]) ∧ w = w' := by
  go_enter Tryz.func59, Tryz.ntmps59
  go_wp2_with fail
  go_ret2
  exact ⟨rfl, rfl⟩
set_option maxRecDepth 100000 in
set_option maxHeartbeats 1000000 in
theorem form_low (s : ByteArray) (i : Nat) (_hs : s.size ≤ 281474976710656) (hi : i < s.size) (h0 : 128 ≤ s[i].toNat) (h1 : s[i].toNat < 194) (w : World) :
    Calls Tryz.prog 59 #[.string s, .int .i64 i] w fun e w' => e = .returned (.tuple #[.int .i32 (-1), .int .i64 1]) ∧ w = w' := by
  go_enter Tryz.func59, Tryz.ntmps59
  go_wp2_with fail
  go_ret2
  exact ⟨rfl, rfl⟩
set_option maxRecDepth 100000 in
set_option maxHeartbeats 1000000 in
theorem form_high (s : ByteArray) (i : Nat) (_hs : s.size ≤ 281474976710656) (hi : i < s.size) (h0 : 245 ≤ s[i].toNat) (w : World) :
    Calls Tryz.prog 59 #[.string s, .int .i64 i] w fun e w' => e = .returned (.tuple #[.int .i32 (-1), .int .i64 1]) ∧ w = w' := by
  go_enter Tryz.func59, Tryz.ntmps59
  go_wp2_with fail
  go_ret2
  exact ⟨rfl, rfl⟩
set_option maxRecDepth 100000 in
set_option maxHeartbeats 1000000 in
theorem form_s2 (s : ByteArray) (i : Nat) (_hs : s.size ≤ 281474976710656) (hi : i < s.size) (h0 : 194 ≤ s[i].toNat) (h1 : s[i].toNat ≤ 223) (h2 : (s.size : Int) < (i : Int) + 2) (w : World) :
    Calls Tryz.prog 59 #[.string s, .int .i64 i] w fun e w' => e = .returned (.tuple #[.int .i32 (-1), .int .i64 1]) ∧ w = w' := by
  go_enter Tryz.func59, Tryz.ntmps59
  go_wp2_with fail
  all_goals first | (go_ret2; exact ⟨rfl, rfl⟩) | (exfalso; omega)
set_option maxRecDepth 100000 in
set_option maxHeartbeats 1000000 in
theorem form_c21 (s : ByteArray) (i : Nat) (_hs : s.size ≤ 281474976710656) (hi : i + 2 ≤ s.size) (h0 : 194 ≤ s[i].toNat) (h1 : s[i].toNat ≤ 223) (c1 : (bits BinOp.and IntKind.u8 (s[i + 1].toNat : Int) 192 != 128) = true) (w : World) :
    Calls Tryz.prog 59 #[.string s, .int .i64 i] w fun e w' => e = .returned (.tuple #[.int .i32 (-1), .int .i64 1]) ∧ w = w' := by
  go_enter Tryz.func59, Tryz.ntmps59
  go_wp2_with fail
  refine wp_loop_rounds 1 ?_
  rw [rounds_succ]
  go_wp2_with fail
  go_ret2
  exact ⟨rfl, rfl⟩
set_option maxRecDepth 100000 in
set_option maxHeartbeats 1000000 in
theorem form_ok2 (s : ByteArray) (i : Nat) (_hs : s.size ≤ 281474976710656) (hi : i + 2 ≤ s.size) (h0 : 194 ≤ s[i].toNat) (h1 : s[i].toNat ≤ 223) (c1 : (bits BinOp.and IntKind.u8 (s[i + 1].toNat : Int) 192 != 128) = false) (x1 r1 : Int) (e1 : wrap32 (bits BinOp.and IntKind.u8 (s[i + 1].toNat : Int) 63) = x1) (o1 : bits BinOp.or IntKind.i32 ((s[i].toNat : Int) % 32 * 64) x1 = r1) (_p1 : 0 ≤ r1) (_q1 : r1 ≤ 2047) (w : World) :
    Calls Tryz.prog 59 #[.string s, .int .i64 i] w fun e w' => e = .returned (.tuple #[.int .i32 (r1), .int .i64 2]) ∧ w = w' := by
  go_enter Tryz.func59, Tryz.ntmps59
  go_wp2_with fail
  refine wp_loop_rounds 2 ?_
  rw [rounds_succ]
  go_wp2_with fail
  rw [rounds_succ]
  go_wp2_with fail
  go_ret2
  exact ⟨rfl, rfl⟩
set_option maxRecDepth 100000 in
set_option maxHeartbeats 1000000 in
theorem form_s3 (s : ByteArray) (i : Nat) (_hs : s.size ≤ 281474976710656) (hi : i < s.size) (h0 : 224 ≤ s[i].toNat) (h1 : s[i].toNat ≤ 239) (h2 : (s.size : Int) < (i : Int) + 3) (w : World) :
    Calls Tryz.prog 59 #[.string s, .int .i64 i] w fun e w' => e = .returned (.tuple #[.int .i32 (-1), .int .i64 1]) ∧ w = w' := by
  go_enter Tryz.func59, Tryz.ntmps59
  go_wp2_with fail
  all_goals first | (go_ret2; exact ⟨rfl, rfl⟩) | (exfalso; omega)
set_option maxRecDepth 100000 in
set_option maxHeartbeats 1000000 in
theorem form_c31 (s : ByteArray) (i : Nat) (_hs : s.size ≤ 281474976710656) (hi : i + 3 ≤ s.size) (h0 : 224 ≤ s[i].toNat) (h1 : s[i].toNat ≤ 239) (c1 : (bits BinOp.and IntKind.u8 (s[i + 1].toNat : Int) 192 != 128) = true) (w : World) :
    Calls Tryz.prog 59 #[.string s, .int .i64 i] w fun e w' => e = .returned (.tuple #[.int .i32 (-1), .int .i64 1]) ∧ w = w' := by
  go_enter Tryz.func59, Tryz.ntmps59
  go_wp2_with fail
  refine wp_loop_rounds 1 ?_
  rw [rounds_succ]
  go_wp2_with fail
  go_ret2
  exact ⟨rfl, rfl⟩
set_option maxRecDepth 100000 in
set_option maxHeartbeats 1000000 in
theorem form_c32 (s : ByteArray) (i : Nat) (_hs : s.size ≤ 281474976710656) (hi : i + 3 ≤ s.size) (h0 : 224 ≤ s[i].toNat) (h1 : s[i].toNat ≤ 239) (c1 : (bits BinOp.and IntKind.u8 (s[i + 1].toNat : Int) 192 != 128) = false) (c2 : (bits BinOp.and IntKind.u8 (s[i + 2].toNat : Int) 192 != 128) = true) (w : World) :
    Calls Tryz.prog 59 #[.string s, .int .i64 i] w fun e w' => e = .returned (.tuple #[.int .i32 (-1), .int .i64 1]) ∧ w = w' := by
  go_enter Tryz.func59, Tryz.ntmps59
  go_wp2_with fail
  refine wp_loop_rounds 2 ?_
  rw [rounds_succ]
  go_wp2_with fail
  rw [rounds_succ]
  go_wp2_with fail
  go_ret2
  exact ⟨rfl, rfl⟩
set_option maxRecDepth 100000 in
set_option maxHeartbeats 1000000 in
theorem form_lo3 (s : ByteArray) (i : Nat) (_hs : s.size ≤ 281474976710656) (hi : i + 3 ≤ s.size) (h0 : 224 ≤ s[i].toNat) (h1 : s[i].toNat ≤ 239) (c1 : (bits BinOp.and IntKind.u8 (s[i + 1].toNat : Int) 192 != 128) = false) (c2 : (bits BinOp.and IntKind.u8 (s[i + 2].toNat : Int) 192 != 128) = false) (x1 r1 : Int) (e1 : wrap32 (bits BinOp.and IntKind.u8 (s[i + 1].toNat : Int) 63) = x1) (o1 : bits BinOp.or IntKind.i32 ((s[i].toNat : Int) % 16 * 64) x1 = r1) (_p1 : 0 ≤ r1) (_q1 : r1 ≤ 1023) (x2 r2 : Int) (e2 : wrap32 (bits BinOp.and IntKind.u8 (s[i + 2].toNat : Int) 63) = x2) (o2 : bits BinOp.or IntKind.i32 (r1 * 64) x2 = r2) (_p2 : 0 ≤ r2) (_q2 : r2 ≤ 65535) (t1 : r2 < 2048) (w : World) :
    Calls Tryz.prog 59 #[.string s, .int .i64 i] w fun e w' => e = .returned (.tuple #[.int .i32 (-1), .int .i64 1]) ∧ w = w' := by
  go_enter Tryz.func59, Tryz.ntmps59
  go_wp2_with fail
  refine wp_loop_rounds 3 ?_
  rw [rounds_succ]
  go_wp2_with fail
  rw [rounds_succ]
  go_wp2_with fail
  rw [rounds_succ]
  go_wp2_with fail
  go_ret2
  exact ⟨rfl, rfl⟩
set_option maxRecDepth 100000 in
set_option maxHeartbeats 1000000 in
theorem form_su3 (s : ByteArray) (i : Nat) (_hs : s.size ≤ 281474976710656) (hi : i + 3 ≤ s.size) (h0 : 224 ≤ s[i].toNat) (h1 : s[i].toNat ≤ 239) (c1 : (bits BinOp.and IntKind.u8 (s[i + 1].toNat : Int) 192 != 128) = false) (c2 : (bits BinOp.and IntKind.u8 (s[i + 2].toNat : Int) 192 != 128) = false) (x1 r1 : Int) (e1 : wrap32 (bits BinOp.and IntKind.u8 (s[i + 1].toNat : Int) 63) = x1) (o1 : bits BinOp.or IntKind.i32 ((s[i].toNat : Int) % 16 * 64) x1 = r1) (_p1 : 0 ≤ r1) (_q1 : r1 ≤ 1023) (x2 r2 : Int) (e2 : wrap32 (bits BinOp.and IntKind.u8 (s[i + 2].toNat : Int) 63) = x2) (o2 : bits BinOp.or IntKind.i32 (r1 * 64) x2 = r2) (_p2 : 0 ≤ r2) (_q2 : r2 ≤ 65535) (t1 : 55296 ≤ r2) (t2 : r2 ≤ 57343) (w : World) :
    Calls Tryz.prog 59 #[.string s, .int .i64 i] w fun e w' => e = .returned (.tuple #[.int .i32 (-1), .int .i64 1]) ∧ w = w' := by
  go_enter Tryz.func59, Tryz.ntmps59
  go_wp2_with fail
  refine wp_loop_rounds 3 ?_
  rw [rounds_succ]
  go_wp2_with fail
  rw [rounds_succ]
  go_wp2_with fail
  rw [rounds_succ]
  go_wp2_with fail
  go_ret2
  exact ⟨rfl, rfl⟩
set_option maxRecDepth 100000 in
set_option maxHeartbeats 1000000 in
theorem form_ok3 (s : ByteArray) (i : Nat) (_hs : s.size ≤ 281474976710656) (hi : i + 3 ≤ s.size) (h0 : 224 ≤ s[i].toNat) (h1 : s[i].toNat ≤ 239) (c1 : (bits BinOp.and IntKind.u8 (s[i + 1].toNat : Int) 192 != 128) = false) (c2 : (bits BinOp.and IntKind.u8 (s[i + 2].toNat : Int) 192 != 128) = false) (x1 r1 : Int) (e1 : wrap32 (bits BinOp.and IntKind.u8 (s[i + 1].toNat : Int) 63) = x1) (o1 : bits BinOp.or IntKind.i32 ((s[i].toNat : Int) % 16 * 64) x1 = r1) (_p1 : 0 ≤ r1) (_q1 : r1 ≤ 1023) (x2 r2 : Int) (e2 : wrap32 (bits BinOp.and IntKind.u8 (s[i + 2].toNat : Int) 63) = x2) (o2 : bits BinOp.or IntKind.i32 (r1 * 64) x2 = r2) (_p2 : 0 ≤ r2) (_q2 : r2 ≤ 65535) (t1 : 2048 ≤ r2) (t2 : r2 < 55296) (w : World) :
    Calls Tryz.prog 59 #[.string s, .int .i64 i] w fun e w' => e = .returned (.tuple #[.int .i32 (r2), .int .i64 3]) ∧ w = w' := by
  go_enter Tryz.func59, Tryz.ntmps59
  go_wp2_with fail
  refine wp_loop_rounds 3 ?_
  rw [rounds_succ]
  go_wp2_with fail
  rw [rounds_succ]
  go_wp2_with fail
  rw [rounds_succ]
  go_wp2_with fail
  go_ret2
  exact ⟨rfl, rfl⟩
set_option maxRecDepth 100000 in
set_option maxHeartbeats 1000000 in
theorem form_ok3h (s : ByteArray) (i : Nat) (_hs : s.size ≤ 281474976710656) (hi : i + 3 ≤ s.size) (h0 : 224 ≤ s[i].toNat) (h1 : s[i].toNat ≤ 239) (c1 : (bits BinOp.and IntKind.u8 (s[i + 1].toNat : Int) 192 != 128) = false) (c2 : (bits BinOp.and IntKind.u8 (s[i + 2].toNat : Int) 192 != 128) = false) (x1 r1 : Int) (e1 : wrap32 (bits BinOp.and IntKind.u8 (s[i + 1].toNat : Int) 63) = x1) (o1 : bits BinOp.or IntKind.i32 ((s[i].toNat : Int) % 16 * 64) x1 = r1) (_p1 : 0 ≤ r1) (_q1 : r1 ≤ 1023) (x2 r2 : Int) (e2 : wrap32 (bits BinOp.and IntKind.u8 (s[i + 2].toNat : Int) 63) = x2) (o2 : bits BinOp.or IntKind.i32 (r1 * 64) x2 = r2) (_p2 : 0 ≤ r2) (_q2 : r2 ≤ 65535) (t1 : 2048 ≤ r2) (t2 : 57343 < r2) (w : World) :
    Calls Tryz.prog 59 #[.string s, .int .i64 i] w fun e w' => e = .returned (.tuple #[.int .i32 (r2), .int .i64 3]) ∧ w = w' := by
  go_enter Tryz.func59, Tryz.ntmps59
  go_wp2_with fail
  refine wp_loop_rounds 3 ?_
  rw [rounds_succ]
  go_wp2_with fail
  rw [rounds_succ]
  go_wp2_with fail
  rw [rounds_succ]
  go_wp2_with fail
  go_ret2
  exact ⟨rfl, rfl⟩
set_option maxRecDepth 100000 in
set_option maxHeartbeats 1000000 in
theorem form_s4 (s : ByteArray) (i : Nat) (_hs : s.size ≤ 281474976710656) (hi : i < s.size) (h0 : 240 ≤ s[i].toNat) (h1 : s[i].toNat ≤ 244) (h2 : (s.size : Int) < (i : Int) + 4) (w : World) :
    Calls Tryz.prog 59 #[.string s, .int .i64 i] w fun e w' => e = .returned (.tuple #[.int .i32 (-1), .int .i64 1]) ∧ w = w' := by
  go_enter Tryz.func59, Tryz.ntmps59
  go_wp2_with fail
  all_goals first | (go_ret2; exact ⟨rfl, rfl⟩) | (exfalso; omega)
set_option maxRecDepth 100000 in
set_option maxHeartbeats 1000000 in
theorem form_c41 (s : ByteArray) (i : Nat) (_hs : s.size ≤ 281474976710656) (hi : i + 4 ≤ s.size) (h0 : 240 ≤ s[i].toNat) (h1 : s[i].toNat ≤ 244) (c1 : (bits BinOp.and IntKind.u8 (s[i + 1].toNat : Int) 192 != 128) = true) (w : World) :
    Calls Tryz.prog 59 #[.string s, .int .i64 i] w fun e w' => e = .returned (.tuple #[.int .i32 (-1), .int .i64 1]) ∧ w = w' := by
  go_enter Tryz.func59, Tryz.ntmps59
  go_wp2_with fail
  refine wp_loop_rounds 1 ?_
  rw [rounds_succ]
  go_wp2_with fail
  go_ret2
  exact ⟨rfl, rfl⟩
set_option maxRecDepth 100000 in
set_option maxHeartbeats 1000000 in
theorem form_c42 (s : ByteArray) (i : Nat) (_hs : s.size ≤ 281474976710656) (hi : i + 4 ≤ s.size) (h0 : 240 ≤ s[i].toNat) (h1 : s[i].toNat ≤ 244) (c1 : (bits BinOp.and IntKind.u8 (s[i + 1].toNat : Int) 192 != 128) = false) (c2 : (bits BinOp.and IntKind.u8 (s[i + 2].toNat : Int) 192 != 128) = true) (w : World) :
    Calls Tryz.prog 59 #[.string s, .int .i64 i] w fun e w' => e = .returned (.tuple #[.int .i32 (-1), .int .i64 1]) ∧ w = w' := by
  go_enter Tryz.func59, Tryz.ntmps59
  go_wp2_with fail
  refine wp_loop_rounds 2 ?_
  rw [rounds_succ]
  go_wp2_with fail
  rw [rounds_succ]
  go_wp2_with fail
  go_ret2
  exact ⟨rfl, rfl⟩
set_option maxRecDepth 100000 in
set_option maxHeartbeats 1000000 in
theorem form_c43 (s : ByteArray) (i : Nat) (_hs : s.size ≤ 281474976710656) (hi : i + 4 ≤ s.size) (h0 : 240 ≤ s[i].toNat) (h1 : s[i].toNat ≤ 244) (c1 : (bits BinOp.and IntKind.u8 (s[i + 1].toNat : Int) 192 != 128) = false) (c2 : (bits BinOp.and IntKind.u8 (s[i + 2].toNat : Int) 192 != 128) = false) (c3 : (bits BinOp.and IntKind.u8 (s[i + 3].toNat : Int) 192 != 128) = true) (w : World) :
    Calls Tryz.prog 59 #[.string s, .int .i64 i] w fun e w' => e = .returned (.tuple #[.int .i32 (-1), .int .i64 1]) ∧ w = w' := by
  go_enter Tryz.func59, Tryz.ntmps59
  go_wp2_with fail
  refine wp_loop_rounds 3 ?_
  rw [rounds_succ]
  go_wp2_with fail
  rw [rounds_succ]
  go_wp2_with fail
  rw [rounds_succ]
  go_wp2_with fail
  go_ret2
  exact ⟨rfl, rfl⟩
set_option maxRecDepth 100000 in
set_option maxHeartbeats 1000000 in
theorem form_lo4 (s : ByteArray) (i : Nat) (_hs : s.size ≤ 281474976710656) (hi : i + 4 ≤ s.size) (h0 : 240 ≤ s[i].toNat) (h1 : s[i].toNat ≤ 244) (c1 : (bits BinOp.and IntKind.u8 (s[i + 1].toNat : Int) 192 != 128) = false) (c2 : (bits BinOp.and IntKind.u8 (s[i + 2].toNat : Int) 192 != 128) = false) (c3 : (bits BinOp.and IntKind.u8 (s[i + 3].toNat : Int) 192 != 128) = false) (x1 r1 : Int) (e1 : wrap32 (bits BinOp.and IntKind.u8 (s[i + 1].toNat : Int) 63) = x1) (o1 : bits BinOp.or IntKind.i32 ((s[i].toNat : Int) % 8 * 64) x1 = r1) (_p1 : 0 ≤ r1) (_q1 : r1 ≤ 511) (x2 r2 : Int) (e2 : wrap32 (bits BinOp.and IntKind.u8 (s[i + 2].toNat : Int) 63) = x2) (o2 : bits BinOp.or IntKind.i32 (r1 * 64) x2 = r2) (_p2 : 0 ≤ r2) (_q2 : r2 ≤ 32767) (x3 r3 : Int) (e3 : wrap32 (bits BinOp.and IntKind.u8 (s[i + 3].toNat : Int) 63) = x3) (o3 : bits BinOp.or IntKind.i32 (r2 * 64) x3 = r3) (_p3 : 0 ≤ r3) (_q3 : r3 ≤ 2097151) (t1 : r3 < 65536) (w : World) :
    Calls Tryz.prog 59 #[.string s, .int .i64 i] w fun e w' => e = .returned (.tuple #[.int .i32 (-1), .int .i64 1]) ∧ w = w' := by
  go_enter Tryz.func59, Tryz.ntmps59
  go_wp2_with fail
  refine wp_loop_rounds 4 ?_
  rw [rounds_succ]
  go_wp2_with fail
  rw [rounds_succ]
  go_wp2_with fail
  rw [rounds_succ]
  go_wp2_with fail
  rw [rounds_succ]
  go_wp2_with fail
  go_ret2
  exact ⟨rfl, rfl⟩
set_option maxRecDepth 100000 in
set_option maxHeartbeats 1000000 in
theorem form_hi4 (s : ByteArray) (i : Nat) (_hs : s.size ≤ 281474976710656) (hi : i + 4 ≤ s.size) (h0 : 240 ≤ s[i].toNat) (h1 : s[i].toNat ≤ 244) (c1 : (bits BinOp.and IntKind.u8 (s[i + 1].toNat : Int) 192 != 128) = false) (c2 : (bits BinOp.and IntKind.u8 (s[i + 2].toNat : Int) 192 != 128) = false) (c3 : (bits BinOp.and IntKind.u8 (s[i + 3].toNat : Int) 192 != 128) = false) (x1 r1 : Int) (e1 : wrap32 (bits BinOp.and IntKind.u8 (s[i + 1].toNat : Int) 63) = x1) (o1 : bits BinOp.or IntKind.i32 ((s[i].toNat : Int) % 8 * 64) x1 = r1) (_p1 : 0 ≤ r1) (_q1 : r1 ≤ 511) (x2 r2 : Int) (e2 : wrap32 (bits BinOp.and IntKind.u8 (s[i + 2].toNat : Int) 63) = x2) (o2 : bits BinOp.or IntKind.i32 (r1 * 64) x2 = r2) (_p2 : 0 ≤ r2) (_q2 : r2 ≤ 32767) (x3 r3 : Int) (e3 : wrap32 (bits BinOp.and IntKind.u8 (s[i + 3].toNat : Int) 63) = x3) (o3 : bits BinOp.or IntKind.i32 (r2 * 64) x3 = r3) (_p3 : 0 ≤ r3) (_q3 : r3 ≤ 2097151) (t1 : 1114111 < r3) (w : World) :
    Calls Tryz.prog 59 #[.string s, .int .i64 i] w fun e w' => e = .returned (.tuple #[.int .i32 (-1), .int .i64 1]) ∧ w = w' := by
  go_enter Tryz.func59, Tryz.ntmps59
  go_wp2_with fail
  refine wp_loop_rounds 4 ?_
  rw [rounds_succ]
  go_wp2_with fail
  rw [rounds_succ]
  go_wp2_with fail
  rw [rounds_succ]
  go_wp2_with fail
  rw [rounds_succ]
  go_wp2_with fail
  go_ret2
  exact ⟨rfl, rfl⟩
set_option maxRecDepth 100000 in
set_option maxHeartbeats 1000000 in
theorem form_ok4 (s : ByteArray) (i : Nat) (_hs : s.size ≤ 281474976710656) (hi : i + 4 ≤ s.size) (h0 : 240 ≤ s[i].toNat) (h1 : s[i].toNat ≤ 244) (c1 : (bits BinOp.and IntKind.u8 (s[i + 1].toNat : Int) 192 != 128) = false) (c2 : (bits BinOp.and IntKind.u8 (s[i + 2].toNat : Int) 192 != 128) = false) (c3 : (bits BinOp.and IntKind.u8 (s[i + 3].toNat : Int) 192 != 128) = false) (x1 r1 : Int) (e1 : wrap32 (bits BinOp.and IntKind.u8 (s[i + 1].toNat : Int) 63) = x1) (o1 : bits BinOp.or IntKind.i32 ((s[i].toNat : Int) % 8 * 64) x1 = r1) (_p1 : 0 ≤ r1) (_q1 : r1 ≤ 511) (x2 r2 : Int) (e2 : wrap32 (bits BinOp.and IntKind.u8 (s[i + 2].toNat : Int) 63) = x2) (o2 : bits BinOp.or IntKind.i32 (r1 * 64) x2 = r2) (_p2 : 0 ≤ r2) (_q2 : r2 ≤ 32767) (x3 r3 : Int) (e3 : wrap32 (bits BinOp.and IntKind.u8 (s[i + 3].toNat : Int) 63) = x3) (o3 : bits BinOp.or IntKind.i32 (r2 * 64) x3 = r3) (_p3 : 0 ≤ r3) (_q3 : r3 ≤ 2097151) (t1 : 65536 ≤ r3) (t2 : r3 ≤ 1114111) (w : World) :
    Calls Tryz.prog 59 #[.string s, .int .i64 i] w fun e w' => e = .returned (.tuple #[.int .i32 (r3), .int .i64 4]) ∧ w = w' := by
  go_enter Tryz.func59, Tryz.ntmps59
  go_wp2_with fail
  refine wp_loop_rounds 4 ?_
  rw [rounds_succ]
  go_wp2_with fail
  rw [rounds_succ]
  go_wp2_with fail
  rw [rounds_succ]
  go_wp2_with fail
  rw [rounds_succ]
  go_wp2_with fail
  go_ret2
  exact ⟨rfl, rfl⟩
def formV (s : ByteArray) (i : Nat) : Value := if bad s i then .tuple #[.int .i32 (-1), .int .i64 1] else .tuple #[.int .i32 (Utf8.decode s i).1, .int .i64 (Utf8.decode s i).2]
theorem form_val {s : ByteArray} {i : Nat} {a b : Int} (h : formN (s.size - i) (s.get! i).toNat (s.get! (i + 1)).toNat (s.get! (i + 2)).toNat (s.get! (i + 3)).toNat = (a, b)) : Value.tuple #[.int .i32 a, .int .i64 b] = formV s i := by
  rw [formN_eq _ _ _ _ _ (UInt8.toNat_lt _), ← Lib.decode_at] at h
  unfold formV bad
  by_cases e : (Utf8.decode s i).1 = 65533 ∧ (Utf8.decode s i).2 = 1
  · rw [if_pos e] at h
    cases h
    rw [if_pos (by simpa using e)]
  · rw [if_neg e] at h
    cases h
    rw [if_neg (by simpa using e)]
theorem Calls_form {s : ByteArray} {i : Nat} {a b : Int} {w : World} (h : Calls Tryz.prog 59 #[.string s, .int .i64 i] w fun e w' => e = .returned (.tuple #[.int .i32 a, .int .i64 b]) ∧ w = w')
    (e : formN (s.size - i) (s.get! i).toNat (s.get! (i + 1)).toNat (s.get! (i + 2)).toNat (s.get! (i + 3)).toNat = (a, b)) :
    Calls Tryz.prog 59 #[.string s, .int .i64 i] w fun e w' => e = .returned (formV s i) ∧ w = w' :=
  h.mono fun _ _ ⟨h1, h2⟩ => ⟨by rw [h1, form_val e], h2⟩
set_option maxHeartbeats 1000000 in
theorem form_k2 (s : ByteArray) (i : Nat) (hs : s.size ≤ 281474976710656) (hi : i < s.size) (k1 : 194 ≤ s[i].toNat) (k2 : s[i].toNat ≤ 223) (w : World) :
    Calls Tryz.prog 59 #[.string s, .int .i64 i] w fun e w' => e = .returned (formV s i) ∧ w = w' := by
  have g0 := get_eq s i hi
  have l0 := UInt8.toNat_lt (s[i])
  have c1 : ¬ s[i].toNat < 128 := by omega
  by_cases h2 : s.size < i + 2
  · exact Calls_form (form_s2 s i hs hi k1 k2 (by omega) w) (by rw [g0]; simp only [formN, c1, if_false]; rw [if_pos (by omega)]; rw [if_pos (Or.inl (by omega))])
  have g1 := get_eq s (i + 1) (by omega)
  have a1 := and192 _ (UInt8.toNat_lt (s[i + 1]))
  have l1 := UInt8.toNat_lt (s[i + 1])
  by_cases d1 : s[i + 1].toNat / 64 = 2
  case neg => exact Calls_form (form_c21 s i hs (by omega) k1 k2  (by rw [a1]; simpa using d1) w) (by rw [g0, g1]; simp only [formN, c1, if_false]; rw [if_pos (by omega)]; rw [if_pos (by omega)])
  obtain ⟨R1, h1R⟩ : ∃ R : Nat, R = (s[i].toNat % 32) * 64 + s[i + 1].toNat % 64 := ⟨_, rfl⟩
  have o1 := or32 (s[i].toNat % 32) (s[i + 1].toNat % 64) (by omega) (by omega)
  rw [← h1R] at o1
  exact Calls_form (form_ok2 s i hs (by omega) k1 k2 (by rw [a1]; simpa using d1) ((s[i + 1].toNat % 64 : Nat) : Int) (R1 : Int) (and63 _ l1) (by simpa using o1) (by omega) (by omega)  w) (by rw [g0, g1]; simp only [formN, c1, if_false]; rw [if_pos (by omega)]; rw [if_neg (by omega)]; apply Prod.ext <;> simp only <;> omega)
set_option maxHeartbeats 1000000 in
theorem form_k3 (s : ByteArray) (i : Nat) (hs : s.size ≤ 281474976710656) (hi : i < s.size) (k1 : 224 ≤ s[i].toNat) (k2 : s[i].toNat ≤ 239) (w : World) :
    Calls Tryz.prog 59 #[.string s, .int .i64 i] w fun e w' => e = .returned (formV s i) ∧ w = w' := by
  have g0 := get_eq s i hi
  have l0 := UInt8.toNat_lt (s[i])
  have c1 : ¬ s[i].toNat < 128 := by omega
  by_cases h2 : s.size < i + 3
  · exact Calls_form (form_s3 s i hs hi k1 k2 (by omega) w) (by rw [g0]; simp only [formN, c1, if_false]; rw [if_neg (by omega), if_pos (by omega)]; rw [if_pos (Or.inl (by omega))])
  have g1 := get_eq s (i + 1) (by omega)
  have a1 := and192 _ (UInt8.toNat_lt (s[i + 1]))
  have l1 := UInt8.toNat_lt (s[i + 1])
  have g2 := get_eq s (i + 2) (by omega)
  have a2 := and192 _ (UInt8.toNat_lt (s[i + 2]))
  have l2 := UInt8.toNat_lt (s[i + 2])
  by_cases d1 : s[i + 1].toNat / 64 = 2
  case neg => exact Calls_form (form_c31 s i hs (by omega) k1 k2  (by rw [a1]; simpa using d1) w) (by rw [g0, g1, g2]; simp only [formN, c1, if_false]; rw [if_neg (by omega), if_pos (by omega)]; rw [if_pos (by omega)])
  by_cases d2 : s[i + 2].toNat / 64 = 2
  case neg => exact Calls_form (form_c32 s i hs (by omega) k1 k2 (by rw [a1]; simpa using d1) (by rw [a2]; simpa using d2) w) (by rw [g0, g1, g2]; simp only [formN, c1, if_false]; rw [if_neg (by omega), if_pos (by omega)]; rw [if_pos (by omega)])
  obtain ⟨R1, h1R⟩ : ∃ R : Nat, R = (s[i].toNat % 16) * 64 + s[i + 1].toNat % 64 := ⟨_, rfl⟩
  have o1 := or32 (s[i].toNat % 16) (s[i + 1].toNat % 64) (by omega) (by omega)
  rw [← h1R] at o1
  obtain ⟨R2, h2R⟩ : ∃ R : Nat, R = R1 * 64 + s[i + 2].toNat % 64 := ⟨_, rfl⟩
  have o2 := or32 R1 (s[i + 2].toNat % 64) (by omega) (by omega)
  rw [← h2R] at o2
  by_cases t1 : R2 < 2048
  · exact Calls_form (form_lo3 s i hs (by omega) k1 k2 (by rw [a1]; simpa using d1) (by rw [a2]; simpa using d2) ((s[i + 1].toNat % 64 : Nat) : Int) (R1 : Int) (and63 _ l1) (by simpa using o1) (by omega) (by omega) ((s[i + 2].toNat % 64 : Nat) : Int) (R2 : Int) (and63 _ l2) o2 (by omega) (by omega) (by omega) w) (by rw [g0, g1, g2]; simp only [formN, c1, if_false]; rw [if_neg (by omega), if_pos (by omega)]; rw [if_pos (by omega)])
  by_cases t2 : R2 < 55296
  · exact Calls_form (form_ok3 s i hs (by omega) k1 k2 (by rw [a1]; simpa using d1) (by rw [a2]; simpa using d2) ((s[i + 1].toNat % 64 : Nat) : Int) (R1 : Int) (and63 _ l1) (by simpa using o1) (by omega) (by omega) ((s[i + 2].toNat % 64 : Nat) : Int) (R2 : Int) (and63 _ l2) o2 (by omega) (by omega) (by omega) (by omega) w) (by rw [g0, g1, g2]; simp only [formN, c1, if_false]; rw [if_neg (by omega), if_pos (by omega)]; rw [if_neg (by omega)]; apply Prod.ext <;> simp only <;> omega)
  by_cases t3 : R2 ≤ 57343
  · exact Calls_form (form_su3 s i hs (by omega) k1 k2 (by rw [a1]; simpa using d1) (by rw [a2]; simpa using d2) ((s[i + 1].toNat % 64 : Nat) : Int) (R1 : Int) (and63 _ l1) (by simpa using o1) (by omega) (by omega) ((s[i + 2].toNat % 64 : Nat) : Int) (R2 : Int) (and63 _ l2) o2 (by omega) (by omega) (by omega) (by omega) w) (by rw [g0, g1, g2]; simp only [formN, c1, if_false]; rw [if_neg (by omega), if_pos (by omega)]; rw [if_pos (by omega)])
  exact Calls_form (form_ok3h s i hs (by omega) k1 k2 (by rw [a1]; simpa using d1) (by rw [a2]; simpa using d2) ((s[i + 1].toNat % 64 : Nat) : Int) (R1 : Int) (and63 _ l1) (by simpa using o1) (by omega) (by omega) ((s[i + 2].toNat % 64 : Nat) : Int) (R2 : Int) (and63 _ l2) o2 (by omega) (by omega) (by omega) (by omega) w) (by rw [g0, g1, g2]; simp only [formN, c1, if_false]; rw [if_neg (by omega), if_pos (by omega)]; rw [if_neg (by omega)]; apply Prod.ext <;> simp only <;> omega)
set_option maxHeartbeats 1000000 in
theorem form_k4 (s : ByteArray) (i : Nat) (hs : s.size ≤ 281474976710656) (hi : i < s.size) (k1 : 240 ≤ s[i].toNat) (k2 : s[i].toNat ≤ 244) (w : World) :
    Calls Tryz.prog 59 #[.string s, .int .i64 i] w fun e w' => e = .returned (formV s i) ∧ w = w' := by
  have g0 := get_eq s i hi
  have l0 := UInt8.toNat_lt (s[i])
  have c1 : ¬ s[i].toNat < 128 := by omega
  by_cases h2 : s.size < i + 4
  · exact Calls_form (form_s4 s i hs hi k1 k2 (by omega) w) (by rw [g0]; simp only [formN, c1, if_false]; rw [if_neg (by omega), if_neg (by omega), if_pos (by omega)]; rw [if_pos (Or.inl (by omega))])
  have g1 := get_eq s (i + 1) (by omega)
  have a1 := and192 _ (UInt8.toNat_lt (s[i + 1]))
  have l1 := UInt8.toNat_lt (s[i + 1])
  have g2 := get_eq s (i + 2) (by omega)
  have a2 := and192 _ (UInt8.toNat_lt (s[i + 2]))
  have l2 := UInt8.toNat_lt (s[i + 2])
  have g3 := get_eq s (i + 3) (by omega)
  have a3 := and192 _ (UInt8.toNat_lt (s[i + 3]))
  have l3 := UInt8.toNat_lt (s[i + 3])
  by_cases d1 : s[i + 1].toNat / 64 = 2
  case neg => exact Calls_form (form_c41 s i hs (by omega) k1 k2  (by rw [a1]; simpa using d1) w) (by rw [g0, g1, g2, g3]; simp only [formN, c1, if_false]; rw [if_neg (by omega), if_neg (by omega), if_pos (by omega)]; rw [if_pos (by omega)])
  by_cases d2 : s[i + 2].toNat / 64 = 2
  case neg => exact Calls_form (form_c42 s i hs (by omega) k1 k2 (by rw [a1]; simpa using d1) (by rw [a2]; simpa using d2) w) (by rw [g0, g1, g2, g3]; simp only [formN, c1, if_false]; rw [if_neg (by omega), if_neg (by omega), if_pos (by omega)]; rw [if_pos (by omega)])
  by_cases d3 : s[i + 3].toNat / 64 = 2
  case neg => exact Calls_form (form_c43 s i hs (by omega) k1 k2 (by rw [a1]; simpa using d1) (by rw [a2]; simpa using d2) (by rw [a3]; simpa using d3) w) (by rw [g0, g1, g2, g3]; simp only [formN, c1, if_false]; rw [if_neg (by omega), if_neg (by omega), if_pos (by omega)]; rw [if_pos (by omega)])
  obtain ⟨R1, h1R⟩ : ∃ R : Nat, R = (s[i].toNat % 8) * 64 + s[i + 1].toNat % 64 := ⟨_, rfl⟩
  have o1 := or32 (s[i].toNat % 8) (s[i + 1].toNat % 64) (by omega) (by omega)
  rw [← h1R] at o1
  obtain ⟨R2, h2R⟩ : ∃ R : Nat, R = R1 * 64 + s[i + 2].toNat % 64 := ⟨_, rfl⟩
  have o2 := or32 R1 (s[i + 2].toNat % 64) (by omega) (by omega)
  rw [← h2R] at o2
  obtain ⟨R3, h3R⟩ : ∃ R : Nat, R = R2 * 64 + s[i + 3].toNat % 64 := ⟨_, rfl⟩
  have o3 := or32 R2 (s[i + 3].toNat % 64) (by omega) (by omega)
  rw [← h3R] at o3
  by_cases t1 : R3 < 65536
  · exact Calls_form (form_lo4 s i hs (by omega) k1 k2 (by rw [a1]; simpa using d1) (by rw [a2]; simpa using d2) (by rw [a3]; simpa using d3) ((s[i + 1].toNat % 64 : Nat) : Int) (R1 : Int) (and63 _ l1) (by simpa using o1) (by omega) (by omega) ((s[i + 2].toNat % 64 : Nat) : Int) (R2 : Int) (and63 _ l2) o2 (by omega) (by omega) ((s[i + 3].toNat % 64 : Nat) : Int) (R3 : Int) (and63 _ l3) o3 (by omega) (by omega) (by omega) w) (by rw [g0, g1, g2, g3]; simp only [formN, c1, if_false]; rw [if_neg (by omega), if_neg (by omega), if_pos (by omega)]; rw [if_pos (by omega)])
  by_cases t2 : 1114111 < R3
  · exact Calls_form (form_hi4 s i hs (by omega) k1 k2 (by rw [a1]; simpa using d1) (by rw [a2]; simpa using d2) (by rw [a3]; simpa using d3) ((s[i + 1].toNat % 64 : Nat) : Int) (R1 : Int) (and63 _ l1) (by simpa using o1) (by omega) (by omega) ((s[i + 2].toNat % 64 : Nat) : Int) (R2 : Int) (and63 _ l2) o2 (by omega) (by omega) ((s[i + 3].toNat % 64 : Nat) : Int) (R3 : Int) (and63 _ l3) o3 (by omega) (by omega) (by omega) w) (by rw [g0, g1, g2, g3]; simp only [formN, c1, if_false]; rw [if_neg (by omega), if_neg (by omega), if_pos (by omega)]; rw [if_pos (by omega)])
  exact Calls_form (form_ok4 s i hs (by omega) k1 k2 (by rw [a1]; simpa using d1) (by rw [a2]; simpa using d2) (by rw [a3]; simpa using d3) ((s[i + 1].toNat % 64 : Nat) : Int) (R1 : Int) (and63 _ l1) (by simpa using o1) (by omega) (by omega) ((s[i + 2].toNat % 64 : Nat) : Int) (R2 : Int) (and63 _ l2) o2 (by omega) (by omega) ((s[i + 3].toNat % 64 : Nat) : Int) (R3 : Int) (and63 _ l3) o3 (by omega) (by omega) (by omega) (by omega) w) (by rw [g0, g1, g2, g3]; simp only [formN, c1, if_false]; rw [if_neg (by omega), if_neg (by omega), if_pos (by omega)]; rw [if_neg (by omega)]; apply Prod.ext <;> simp only <;> omega)
theorem form_any (s : ByteArray) (i : Nat) (hs : s.size ≤ 281474976710656) (hi : i < s.size) (w : World) :
    Calls Tryz.prog 59 #[.string s, .int .i64 i] w fun e w' => e = .returned (formV s i) ∧ w = w' := by
  have g0 := get_eq s i hi
  have l0 := UInt8.toNat_lt (s[i])
  by_cases c1 : s[i].toNat < 128
  · exact Calls_form (form_ascii s i hs hi c1 w) (by rw [g0]; simp only [formN, c1, if_true])
  by_cases c2 : s[i].toNat < 194
  · exact Calls_form (form_low s i hs hi (by omega) c2 w) (by rw [g0]; simp only [formN, c1, if_false]; rw [if_neg (by omega), if_neg (by omega), if_neg (by omega)])
  by_cases c3 : 245 ≤ s[i].toNat
  · exact Calls_form (form_high s i hs hi c3 w) (by rw [g0]; simp only [formN, c1, if_false]; rw [if_neg (by omega), if_neg (by omega), if_neg (by omega)])
  by_cases k2 : s[i].toNat ≤ 223
  · exact form_k2 s i hs hi (by omega) k2 w
  by_cases k3 : s[i].toNat ≤ 239
  · exact form_k3 s i hs hi (by omega) k3 w
  exact form_k4 s i hs hi (by omega) (by omega) w
def brkI (s : ByteArray) : Int := match brk s 0 with | some k => (k : Int) | none => -1
theorem brkI_some {s : ByteArray} {k : Nat} (h : brk s 0 = some k) : brkI s = k := by unfold brkI; rw [h]
theorem brkI_none {s : ByteArray} (h : brk s 0 = none) : brkI s = -1 := by unfold brkI; rw [h]
theorem broken_any (s : ByteArray) (hs : s.size ≤ 281474976710656) (w : World) :
    Calls Tryz.prog 36 #[.string s] w fun e w' => e = .returned (.int .i64 (brkI s)) ∧ w = w' := by
  go_enter Tryz.func36, Tryz.ntmps36
  go_wp2_with fail
  go_loop [3] (fun u => ∃ pos : Nat, u = .int .i64 pos ∧ pos ≤ s.size ∧ brk s 0 = brk s pos) (fun u => s.size - (intOf u).toNat)
  case atStart => exact ⟨0, rfl, by omega, rfl⟩
  case round =>
    obtain ⟨pos, rfl, hp, hb⟩ := hrel
    have HB := Lib.hid hb
    clear hb
    by_cases h : pos < s.size
    · have w1 := w1 s pos
      have w2 := wIn s pos h
      have HF := form_any s pos hs h w
      unfold formV at HF
      by_cases hb : bad s pos = true
      · rw [if_pos hb] at HF
        have E := Lib.hid (HB.out.trans (brk_bad s pos h hb))
        clear hb
        go_wp2_with (go_at_call 59; refine HF.mono ?_; rintro e w' ⟨rfl, rfl⟩)
        go_ret
        exact ⟨by rw [brkI_some E.out]; rfl, rfl⟩
      · rw [if_neg hb] at HF
        have E := Lib.hid (HB.out.trans (brk_step s pos h (by simpa using hb)))
        clear hb
        go_wp2_with (go_at_call 59; refine HF.mono ?_; rintro e w' ⟨rfl, rfl⟩)
        go_round
        case rel => exact ⟨pos + (Utf8.decode s pos).2, by go_num, w2, E.out⟩
        case measure => simp [intOf]; omega
    · have E := Lib.hid (HB.out.trans (brk_end s pos h))
      go_wp2_with fail
      go_ret
      exact ⟨by rw [brkI_none E.out]; rfl, rfl⟩
theorem right_any (s : ByteArray) (hs : s.size ≤ 281474976710656) (b : Bool) (hb : (brk s 0).isNone = b) (w : World) :
    Calls Tryz.prog 14 #[.string s] w fun e w' => e = .returned (.bool b) ∧ w = w' := by
  have HF := broken_any s hs w
  cases h : brk s 0 with
  | none =>
    rw [brkI_none h] at HF
    rw [h] at hb
    subst hb
    clear h
    go_enter Tryz.func14, Tryz.ntmps14
    go_wp2_with (go_at_call 36; refine HF.mono ?_; rintro e w' ⟨rfl, rfl⟩)
    go_ret
    exact ⟨rfl, rfl⟩
  | some k =>
    rw [brkI_some h] at HF
    rw [h] at hb
    subst hb
    clear h
    go_enter Tryz.func14, Tryz.ntmps14
    go_wp2_with (go_at_call 36; refine HF.mono ?_; rintro e w' ⟨rfl, rfl⟩)
    go_ret
    exact ⟨ret_bool (by simp), rfl⟩
end Go.Proofs.YtpcgcghhddnifaaGreatDoor
namespace Go.Proofs.YtpcgcghhddnifaaGreatDoor
open Go.RowKit
open Ph
/-- the two sentinels hold interface values -/
structure GlobP (w : World) : Prop where
  g1 : ∃ te pe, w.cell? ⟨1, 0, none⟩ = some (.iface te pe)
  g2 : ∃ te pe, w.cell? ⟨2, 0, none⟩ = some (.iface te pe)
theorem GlobP.below {w w1 : World} {B : Nat} (h : GlobP w) (hb : Below B w w1) (h1 : 2 < B) : GlobP w1 := by
  obtain ⟨⟨t1, p1, e1⟩, ⟨t2, p2, e2⟩⟩ := h
  exact ⟨⟨t1, p1, (hb.cell (p := ⟨1, 0, none⟩) (by show 1 < B; omega)).trans e1⟩, ⟨t2, p2, (hb.cell (p := ⟨2, 0, none⟩) h1).trans e2⟩⟩
theorem GlobP.size {w : World} (h : GlobP w) : 2 < w.heap.size := by
  obtain ⟨_, ⟨t2, p2, e2⟩⟩ := h
  exact World.block_lt_of_cell? _ _ e2
theorem dec_digits : ∀ n, n < 16 → Lib.decDigits n = digits n := by
  have h : (List.range 16).all (fun n => Lib.decDigits n == digits n) = true := by decide +kernel
  intro n hn
  have := List.all_eq_true.1 h n (by simpa using hn)
  simpa using this
def atoiIs (l : List UInt8) (n : Nat) : Bool := match Lib.atoiAll l with | .ok v => v == (n : Int) | _ => false
theorem atoi_digits : ∀ n, n < 16 → Lib.atoiAll (digits n) = .ok (n : Int) := by
  have h : (List.range 16).all (fun n => atoiIs (digits n) n) = true := by decide +kernel
  intro n hn
  have := List.all_eq_true.1 h n (by simpa using hn)
  unfold atoiIs at this
  split at this
  · rename_i v e; rw [e]; simp at this; rw [this]
  · cases this
theorem below_bytes (w : World) (e : TypeId) (s : ByteArray) : Below w.heap.size w (Lib.bytesWorld w e s) := by
  unfold Lib.bytesWorld
  exact Go.Lib.below_freeze ((blw_drew (Below.refl _ _)).alloc (Nat.le_refl _) _) (Nat.le_refl _) _
theorem atoi_ok (s : ByteArray) (hs : s.size ≤ 281474976710656) (v : Int) (h : Lib.atoiAll s.data.toList = .ok v) (w : World) :
    Calls Tryz.prog 87 #[.string s] w fun e w' => e = .returned (.tuple #[.int .i64 v, .nilIface]) ∧ Below w.heap.size w w' := by
  refine (Tryz.strconv_Atoi_ok s (by omega) v h w).mono ?_
  rintro e w' ⟨h1, h2⟩
  refine ⟨h1, ?_⟩
  rcases h2 with rfl | ⟨t, rfl⟩
  · exact Below.refl _ _
  · exact below_bytes _ _ _
theorem atoi_no (s : ByteArray) (hs : s.size ≤ 281474976710656) (h : ∀ v, Lib.atoiAll s.data.toList ≠ .ok v) (w : World) (hg : GlobP w) :
    Calls Tryz.prog 87 #[.string s] w fun e w' => ∃ n N, e = .returned (.tuple #[.int .i64 n, .iface 216 (.pointer (some ⟨N, 0, none⟩))]) ∧ Below w.heap.size w w' := by
  obtain ⟨⟨t1, p1, e1⟩, ⟨t2, p2, e2⟩⟩ := hg
  cases e : Lib.atoiAll s.data.toList with
  | ok v => exact absurd e (h v)
  | _ =>
    first
    | exact (Tryz.strconv_Atoi_range s hs e _ w e2 (Or.inr ⟨_, _, rfl⟩)).mono fun _ _ ⟨N, h1, _, _, h2⟩ => ⟨_, N, h1, h2⟩
    | exact (Any.strconv_Atoi_syntax Tryz.laysC172 s hs e _ w e1 (Or.inr ⟨_, _, rfl⟩)).mono fun _ _ ⟨N, h1, _, _, h2⟩ => ⟨_, N, h1, h2⟩
theorem itoa_small (n : Nat) (h : n < 16) (w : World) :
    Calls Tryz.prog 88 #[.int .i64 n] w fun e w' => e = .returned (.string ⟨(digits n).toArray⟩) ∧ w = w' :=
  (Tryz.strconv_Itoa_small n (by omega) w).mono fun _ _ ⟨h1, h2⟩ => ⟨by rw [h1, dec_digits n h], h2.symm⟩
theorem bytes_of {s : ByteArray} {l : List UInt8} (h : s.data.toList = l) : s = ⟨l.toArray⟩ := by
  subst h; simp
theorem place_yes (s : ByteArray) (m : Nat) (h : placeOf s.data.toList = some m) (w : World) :
    Calls Tryz.prog 62 #[.string s] w fun e w' => e = .returned (.tuple #[.int .i64 m, .bool true]) ∧ Below w.heap.size w w' := by
  obtain ⟨h1, h2⟩ := place_some h
  obtain rfl := bytes_of h2
  have ha := atoi_digits m h1
  have hsz : (⟨(digits m).toArray⟩ : ByteArray).size ≤ 281474976710656 := by
    show (digits m).toArray.size ≤ _
    unfold digits; split <;> simp
  have HA := atoi_ok _ hsz m ha
  have HI := itoa_small m h1
  clear h h2 ha
  go_enter Tryz.func62, Tryz.ntmps62
  go_wp2_with fail
  refine (HA _).mono ?_
  rintro e w1 ⟨rfl, hb⟩
  go_wp2_with fail
  refine (HI _).mono ?_
  rintro e w2 ⟨rfl, rfl⟩
  go_wp2_with fail
  go_ret2
  exact ⟨rfl, hb⟩
def PlaceNo (w : World) (e : Ending) (w' : World) : Prop := ∃ n : Int, e = .returned (.tuple #[.int .i64 n, .bool false]) ∧ Below w.heap.size w w'
theorem place_no (s : ByteArray) (hs : s.size ≤ 281474976710656) (h : placeOf s.data.toList = none) (w : World) (hg : GlobP w) :
    Calls Tryz.prog 62 #[.string s] w (PlaceNo w) := by
  by_cases hv : ∃ v, Lib.atoiAll s.data.toList = .ok v
  · obtain ⟨v, hv⟩ := hv
    have HA := atoi_ok s hs v hv
    clear hv
    by_cases v0 : 0 ≤ v
    · by_cases v1 : v < 16
      · obtain ⟨m, rfl⟩ := Int.eq_ofNat_of_zero_le v0
        have hne := place_none h m (by omega)
        have HI := itoa_small m (by omega)
        clear h
        go_enter Tryz.func62, Tryz.ntmps62
        go_wp2_with fail
        refine (HA _).mono ?_
        rintro e w1 ⟨rfl, hb⟩
        go_wp2_with fail
        refine (HI _).mono ?_
        rintro e w2 ⟨rfl, rfl⟩
        go_wp2_with fail
        go_ret2
        have e0 : (digits m == s.toList) = false := beq_eq_false_iff_ne.2 (fun g => hne (by rw [g, ByteArray.toList_eq]))
        exact ⟨m, ret_pair rfl (by rw [← e0]; rfl), hb⟩
      · clear h
        go_enter Tryz.func62, Tryz.ntmps62
        go_wp2_with fail
        refine (HA _).mono ?_
        rintro e w1 ⟨rfl, hb⟩
        go_wp2_with fail
        go_ret2
        exact ⟨v, rfl, hb⟩
    · clear h
      go_enter Tryz.func62, Tryz.ntmps62
      go_wp2_with fail
      refine (HA _).mono ?_
      rintro e w1 ⟨rfl, hb⟩
      go_wp2_with fail
      go_ret2
      exact ⟨v, rfl, hb⟩
  · have HA := fun (w : World) (hg : GlobP w) => atoi_no s hs (fun v e => hv ⟨v, e⟩) w hg
    clear hv h
    go_enter Tryz.func62, Tryz.ntmps62
    go_wp2_with fail
    refine (HA _ hg).mono ?_
    rintro e w1 ⟨n, N, rfl, hb⟩
    go_wp2_with fail
    go_ret2
    exact ⟨n, rfl, hb⟩
def numTo (l : List UInt8) : Nat → Int
  | 0 => -1
  | k + 1 => if digits k = l then (k : Int) else numTo l k
theorem numTo_hit {l : List UInt8} {k : Nat} (h : digits k = l) : (k : Int) = numTo l (k + 1) := by rw [numTo, if_pos h]
theorem numTo_miss {l : List UInt8} {k : Nat} (h : ¬ digits k = l) : numTo l k = numTo l (k + 1) := by rw [numTo, if_neg h]
theorem numTo_none {l : List UInt8} : ∀ k, (∀ j, j < k → digits j ≠ l) → numTo l k = -1 := by
  intro k
  induction k with
  | zero => intro _; rfl
  | succ k ih => intro h; rw [numTo, if_neg (h k (by omega)), ih (fun j hj => h j (by omega))]
theorem numTo_some {l : List UInt8} {m : Nat} (h : digits m = l) : ∀ k, k ≤ 16 → m < k → numTo l k = m := by
  intro k
  induction k with
  | zero => intro _ h; omega
  | succ k ih =>
    intro h1 h2
    rw [numTo]
    by_cases e : digits k = l
    · rw [if_pos e, digits_inj k (by omega) m (by omega) (e.trans h.symm)]
    · rw [if_neg e, ih (by omega) (by rcases Nat.lt_or_ge m k with c | c; exact c; exact absurd (by rw [show k = m by omega]; exact h) e)]
def numI (l : List UInt8) : Int := numTo l 16
theorem numI_some {l : List UInt8} {m : Nat} (h : placeOf l = some m) : numI l = m := by
  obtain ⟨a, b⟩ := place_some h
  exact numTo_some b.symm 16 (by omega) a
theorem numI_none {l : List UInt8} (h : placeOf l = none) : numI l = -1 :=
  numTo_none 16 fun j hj e => place_none h j hj e.symm
set_option maxHeartbeats 4000000 in
theorem number_any (s : ByteArray) (w : World) :
    Calls Tryz.prog 85 #[.string s] w fun e w' => e = .returned (.int .i64 (numI s.data.toList)) ∧ w = w' := by
  go_enter Tryz.func85, Tryz.ntmps85
  go_wp2_with fail
  go_loop [3, 4, 5] (fun n i d => ∃ k : Nat, k ≤ 16 ∧ i = .int .i64 k ∧ n = .int .i64 (numTo s.data.toList k)) (fun _ i _ => 16 - (intOf i).toNat)
  case atStart => exact ⟨0, by omega, rfl, rfl⟩
  case round =>
    obtain ⟨k, hk, rfl, rfl⟩ := hrel
    rcases (by omega : k = 16 ∨ k = 0 ∨ k = 1 ∨ k = 2 ∨ k = 3 ∨ k = 4 ∨ k = 5 ∨ k = 6 ∨ k = 7 ∨ k = 8 ∨ k = 9 ∨ k = 10 ∨ k = 11 ∨ k = 12 ∨ k = 13 ∨ k = 14 ∨ k = 15) with rfl | rfl | rfl | rfl | rfl | rfl | rfl | rfl | rfl | rfl | rfl | rfl | rfl | rfl | rfl | rfl | rfl
    · go_wp2_with fail
      go_ret
      exact ⟨rfl, rfl⟩
    · have q : (Utf8.encode 48).toList = digits 0 := by rw [ByteArray.toList_eq]; decide +kernel
      by_cases hd : digits 0 = s.data.toList
      · have q1 : ((Utf8.encode 48).toList == s.toList) = true := by rw [q, ByteArray.toList_eq s, hd]; exact beq_self_eq_true _
        have HD := Lib.hid hd
        clear q hd
        go_wp2_with fail
        all_goals
          go_round
          case rel => exact ⟨1, by omega, rfl, int_eq (numTo_hit HD.out)⟩
          case measure => simp [intOf]
      · have q1 : ((Utf8.encode 48).toList == s.toList) = false := by rw [q, ByteArray.toList_eq s]; exact beq_eq_false_iff_ne.2 hd
        have HD := Lib.hid hd
        clear q hd
        go_wp2_with fail
        all_goals
          go_round
          case rel => exact ⟨1, by omega, rfl, int_eq (numTo_miss HD.out)⟩
          case measure => simp [intOf]
    · have q : (Utf8.encode 49).toList = digits 1 := by rw [ByteArray.toList_eq]; decide +kernel
      by_cases hd : digits 1 = s.data.toList
      · have q1 : ((Utf8.encode 49).toList == s.toList) = true := by rw [q, ByteArray.toList_eq s, hd]; exact beq_self_eq_true _
        have HD := Lib.hid hd
        clear q hd
        go_wp2_with fail
        all_goals
          go_round
          case rel => exact ⟨2, by omega, rfl, int_eq (numTo_hit HD.out)⟩
          case measure => simp [intOf]
      · have q1 : ((Utf8.encode 49).toList == s.toList) = false := by rw [q, ByteArray.toList_eq s]; exact beq_eq_false_iff_ne.2 hd
        have HD := Lib.hid hd
        clear q hd
        go_wp2_with fail
        all_goals
          go_round
          case rel => exact ⟨2, by omega, rfl, int_eq (numTo_miss HD.out)⟩
          case measure => simp [intOf]
    · have q : (Utf8.encode 50).toList = digits 2 := by rw [ByteArray.toList_eq]; decide +kernel
      by_cases hd : digits 2 = s.data.toList
      · have q1 : ((Utf8.encode 50).toList == s.toList) = true := by rw [q, ByteArray.toList_eq s, hd]; exact beq_self_eq_true _
        have HD := Lib.hid hd
        clear q hd
        go_wp2_with fail
        all_goals
          go_round
          case rel => exact ⟨3, by omega, rfl, int_eq (numTo_hit HD.out)⟩
          case measure => simp [intOf]
      · have q1 : ((Utf8.encode 50).toList == s.toList) = false := by rw [q, ByteArray.toList_eq s]; exact beq_eq_false_iff_ne.2 hd
        have HD := Lib.hid hd
        clear q hd
        go_wp2_with fail
        all_goals
          go_round
          case rel => exact ⟨3, by omega, rfl, int_eq (numTo_miss HD.out)⟩
          case measure => simp [intOf]
    · have q : (Utf8.encode 51).toList = digits 3 := by rw [ByteArray.toList_eq]; decide +kernel
      by_cases hd : digits 3 = s.data.toList
      · have q1 : ((Utf8.encode 51).toList == s.toList) = true := by rw [q, ByteArray.toList_eq s, hd]; exact beq_self_eq_true _
        have HD := Lib.hid hd
        clear q hd
        go_wp2_with fail
        all_goals
          go_round
          case rel => exact ⟨4, by omega, rfl, int_eq (numTo_hit HD.out)⟩
          case measure => simp [intOf]
      · have q1 : ((Utf8.encode 51).toList == s.toList) = false := by rw [q, ByteArray.toList_eq s]; exact beq_eq_false_iff_ne.2 hd
        have HD := Lib.hid hd
        clear q hd
        go_wp2_with fail
        all_goals
          go_round
          case rel => exact ⟨4, by omega, rfl, int_eq (numTo_miss HD.out)⟩
          case measure => simp [intOf]
    · have q : (Utf8.encode 52).toList = digits 4 := by rw [ByteArray.toList_eq]; decide +kernel
      by_cases hd : digits 4 = s.data.toList
      · have q1 : ((Utf8.encode 52).toList == s.toList) = true := by rw [q, ByteArray.toList_eq s, hd]; exact beq_self_eq_true _
        have HD := Lib.hid hd
        clear q hd
        go_wp2_with fail
        all_goals
          go_round
          case rel => exact ⟨5, by omega, rfl, int_eq (numTo_hit HD.out)⟩
          case measure => simp [intOf]
      · have q1 : ((Utf8.encode 52).toList == s.toList) = false := by rw [q, ByteArray.toList_eq s]; exact beq_eq_false_iff_ne.2 hd
        have HD := Lib.hid hd
        clear q hd
        go_wp2_with fail
        all_goals
          go_round
          case rel => exact ⟨5, by omega, rfl, int_eq (numTo_miss HD.out)⟩
          case measure => simp [intOf]
    · have q : (Utf8.encode 53).toList = digits 5 := by rw [ByteArray.toList_eq]; decide +kernel
      by_cases hd : digits 5 = s.data.toList
      · have q1 : ((Utf8.encode 53).toList == s.toList) = true := by rw [q, ByteArray.toList_eq s, hd]; exact beq_self_eq_true _
        have HD := Lib.hid hd
        clear q hd
        go_wp2_with fail
        all_goals
          go_round
          case rel => exact ⟨6, by omega, rfl, int_eq (numTo_hit HD.out)⟩
          case measure => simp [intOf]
      · have q1 : ((Utf8.encode 53).toList == s.toList) = false := by rw [q, ByteArray.toList_eq s]; exact beq_eq_false_iff_ne.2 hd
        have HD := Lib.hid hd
        clear q hd
        go_wp2_with fail
        all_goals
          go_round
          case rel => exact ⟨6, by omega, rfl, int_eq (numTo_miss HD.out)⟩
          case measure => simp [intOf]
    · have q : (Utf8.encode 54).toList = digits 6 := by rw [ByteArray.toList_eq]; decide +kernel
      by_cases hd : digits 6 = s.data.toList
      · have q1 : ((Utf8.encode 54).toList == s.toList) = true := by rw [q, ByteArray.toList_eq s, hd]; exact beq_self_eq_true _
        have HD := Lib.hid hd
        clear q hd
        go_wp2_with fail
        all_goals
          go_round
          case rel => exact ⟨7, by omega, rfl, int_eq (numTo_hit HD.out)⟩
          case measure => simp [intOf]
      · have q1 : ((Utf8.encode 54).toList == s.toList) = false := by rw [q, ByteArray.toList_eq s]; exact beq_eq_false_iff_ne.2 hd
        have HD := Lib.hid hd
        clear q hd
        go_wp2_with fail
        all_goals
          go_round
          case rel => exact ⟨7, by omega, rfl, int_eq (numTo_miss HD.out)⟩
          case measure => simp [intOf]
    · have q : (Utf8.encode 55).toList = digits 7 := by rw [ByteArray.toList_eq]; decide +kernel
      by_cases hd : digits 7 = s.data.toList
      · have q1 : ((Utf8.encode 55).toList == s.toList) = true := by rw [q, ByteArray.toList_eq s, hd]; exact beq_self_eq_true _
        have HD := Lib.hid hd
        clear q hd
        go_wp2_with fail
        all_goals
          go_round
          case rel => exact ⟨8, by omega, rfl, int_eq (numTo_hit HD.out)⟩
          case measure => simp [intOf]
      · have q1 : ((Utf8.encode 55).toList == s.toList) = false := by rw [q, ByteArray.toList_eq s]; exact beq_eq_false_iff_ne.2 hd
        have HD := Lib.hid hd
        clear q hd
        go_wp2_with fail
        all_goals
          go_round
          case rel => exact ⟨8, by omega, rfl, int_eq (numTo_miss HD.out)⟩
          case measure => simp [intOf]
    · have q : (Utf8.encode 56).toList = digits 8 := by rw [ByteArray.toList_eq]; decide +kernel
      by_cases hd : digits 8 = s.data.toList
      · have q1 : ((Utf8.encode 56).toList == s.toList) = true := by rw [q, ByteArray.toList_eq s, hd]; exact beq_self_eq_true _
        have HD := Lib.hid hd
        clear q hd
        go_wp2_with fail
        all_goals
          go_round
          case rel => exact ⟨9, by omega, rfl, int_eq (numTo_hit HD.out)⟩
          case measure => simp [intOf]
      · have q1 : ((Utf8.encode 56).toList == s.toList) = false := by rw [q, ByteArray.toList_eq s]; exact beq_eq_false_iff_ne.2 hd
        have HD := Lib.hid hd
        clear q hd
        go_wp2_with fail
        all_goals
          go_round
          case rel => exact ⟨9, by omega, rfl, int_eq (numTo_miss HD.out)⟩
          case measure => simp [intOf]
    · have q : (Utf8.encode 57).toList = digits 9 := by rw [ByteArray.toList_eq]; decide +kernel
      by_cases hd : digits 9 = s.data.toList
      · have q1 : ((Utf8.encode 57).toList == s.toList) = true := by rw [q, ByteArray.toList_eq s, hd]; exact beq_self_eq_true _
        have HD := Lib.hid hd
        clear q hd
        go_wp2_with fail
        all_goals
          go_round
          case rel => exact ⟨10, by omega, rfl, int_eq (numTo_hit HD.out)⟩
          case measure => simp [intOf]
      · have q1 : ((Utf8.encode 57).toList == s.toList) = false := by rw [q, ByteArray.toList_eq s]; exact beq_eq_false_iff_ne.2 hd
        have HD := Lib.hid hd
        clear q hd
        go_wp2_with fail
        all_goals
          go_round
          case rel => exact ⟨10, by omega, rfl, int_eq (numTo_miss HD.out)⟩
          case measure => simp [intOf]
    · have q : (({ data := #[49] } : ByteArray) ++ Utf8.encode 48).toList = digits 10 := by rw [ByteArray.toList_eq]; decide +kernel
      by_cases hd : digits 10 = s.data.toList
      · have q1 : ((({ data := #[49] } : ByteArray) ++ Utf8.encode 48).toList == s.toList) = true := by rw [q, ByteArray.toList_eq s, hd]; exact beq_self_eq_true _
        have HD := Lib.hid hd
        clear q hd
        go_wp2_with fail
        all_goals
          go_round
          case rel => exact ⟨11, by omega, rfl, int_eq (numTo_hit HD.out)⟩
          case measure => simp [intOf]
      · have q1 : ((({ data := #[49] } : ByteArray) ++ Utf8.encode 48).toList == s.toList) = false := by rw [q, ByteArray.toList_eq s]; exact beq_eq_false_iff_ne.2 hd
        have HD := Lib.hid hd
        clear q hd
        go_wp2_with fail
        all_goals
          go_round
          case rel => exact ⟨11, by omega, rfl, int_eq (numTo_miss HD.out)⟩
          case measure => simp [intOf]
    · have q : (({ data := #[49] } : ByteArray) ++ Utf8.encode 49).toList = digits 11 := by rw [ByteArray.toList_eq]; decide +kernel
      by_cases hd : digits 11 = s.data.toList
      · have q1 : ((({ data := #[49] } : ByteArray) ++ Utf8.encode 49).toList == s.toList) = true := by rw [q, ByteArray.toList_eq s, hd]; exact beq_self_eq_true _
        have HD := Lib.hid hd
        clear q hd
        go_wp2_with fail
        all_goals
          go_round
          case rel => exact ⟨12, by omega, rfl, int_eq (numTo_hit HD.out)⟩
          case measure => simp [intOf]
      · have q1 : ((({ data := #[49] } : ByteArray) ++ Utf8.encode 49).toList == s.toList) = false := by rw [q, ByteArray.toList_eq s]; exact beq_eq_false_iff_ne.2 hd
        have HD := Lib.hid hd
        clear q hd
        go_wp2_with fail
        all_goals
          go_round
          case rel => exact ⟨12, by omega, rfl, int_eq (numTo_miss HD.out)⟩
          case measure => simp [intOf]
    · have q : (({ data := #[49] } : ByteArray) ++ Utf8.encode 50).toList = digits 12 := by rw [ByteArray.toList_eq]; decide +kernel
      by_cases hd : digits 12 = s.data.toList
      · have q1 : ((({ data := #[49] } : ByteArray) ++ Utf8.encode 50).toList == s.toList) = true := by rw [q, ByteArray.toList_eq s, hd]; exact beq_self_eq_true _
        have HD := Lib.hid hd
        clear q hd
        go_wp2_with fail
        all_goals
          go_round
          case rel => exact ⟨13, by omega, rfl, int_eq (numTo_hit HD.out)⟩
          case measure => simp [intOf]
      · have q1 : ((({ data := #[49] } : ByteArray) ++ Utf8.encode 50).toList == s.toList) = false := by rw [q, ByteArray.toList_eq s]; exact beq_eq_false_iff_ne.2 hd
        have HD := Lib.hid hd
        clear q hd
        go_wp2_with fail
        all_goals
          go_round
          case rel => exact ⟨13, by omega, rfl, int_eq (numTo_miss HD.out)⟩
          case measure => simp [intOf]
    · have q : (({ data := #[49] } : ByteArray) ++ Utf8.encode 51).toList = digits 13 := by rw [ByteArray.toList_eq]; decide +kernel
      by_cases hd : digits 13 = s.data.toList
      · have q1 : ((({ data := #[49] } : ByteArray) ++ Utf8.encode 51).toList == s.toList) = true := by rw [q, ByteArray.toList_eq s, hd]; exact beq_self_eq_true _
        have HD := Lib.hid hd
        clear q hd
        go_wp2_with fail
        all_goals
          go_round
          case rel => exact ⟨14, by omega, rfl, int_eq (numTo_hit HD.out)⟩
          case measure => simp [intOf]
      · have q1 : ((({ data := #[49] } : ByteArray) ++ Utf8.encode 51).toList == s.toList) = false := by rw [q, ByteArray.toList_eq s]; exact beq_eq_false_iff_ne.2 hd
        have HD := Lib.hid hd
        clear q hd
        go_wp2_with fail
        all_goals
          go_round
          case rel => exact ⟨14, by omega, rfl, int_eq (numTo_miss HD.out)⟩
          case measure => simp [intOf]
    · have q : (({ data := #[49] } : ByteArray) ++ Utf8.encode 52).toList = digits 14 := by rw [ByteArray.toList_eq]; decide +kernel
      by_cases hd : digits 14 = s.data.toList
      · have q1 : ((({ data := #[49] } : ByteArray) ++ Utf8.encode 52).toList == s.toList) = true := by rw [q, ByteArray.toList_eq s, hd]; exact beq_self_eq_true _
        have HD := Lib.hid hd
        clear q hd
        go_wp2_with fail
        all_goals
          go_round
          case rel => exact ⟨15, by omega, rfl, int_eq (numTo_hit HD.out)⟩
          case measure => simp [intOf]
      · have q1 : ((({ data := #[49] } : ByteArray) ++ Utf8.encode 52).toList == s.toList) = false := by rw [q, ByteArray.toList_eq s]; exact beq_eq_false_iff_ne.2 hd
        have HD := Lib.hid hd
        clear q hd
        go_wp2_with fail
        all_goals
          go_round
          case rel => exact ⟨15, by omega, rfl, int_eq (numTo_miss HD.out)⟩
          case measure => simp [intOf]
    · have q : (({ data := #[49] } : ByteArray) ++ Utf8.encode 53).toList = digits 15 := by rw [ByteArray.toList_eq]; decide +kernel
      by_cases hd : digits 15 = s.data.toList
      · have q1 : ((({ data := #[49] } : ByteArray) ++ Utf8.encode 53).toList == s.toList) = true := by rw [q, ByteArray.toList_eq s, hd]; exact beq_self_eq_true _
        have HD := Lib.hid hd
        clear q hd
        go_wp2_with fail
        all_goals
          go_round
          case rel => exact ⟨16, by omega, rfl, int_eq (numTo_hit HD.out)⟩
          case measure => simp [intOf]
      · have q1 : ((({ data := #[49] } : ByteArray) ++ Utf8.encode 53).toList == s.toList) = false := by rw [q, ByteArray.toList_eq s]; exact beq_eq_false_iff_ne.2 hd
        have HD := Lib.hid hd
        clear q hd
        go_wp2_with fail
        all_goals
          go_round
          case rel => exact ⟨16, by omega, rfl, int_eq (numTo_miss HD.out)⟩
          case measure => simp [intOf]
end Go.Proofs.YtpcgcghhddnifaaGreatDoor
namespace Ph
theorem list_get (s : ByteArray) (k : Nat) (h : k < s.size) : s.data.toList[k]? = some s[k] := by
  rw [List.getElem?_eq_getElem (by simpa using h)]; rfl
theorem idx_none {s : ByteArray} {i : Nat} {c : UInt8} (h : Go.Lib.indexByte (s.extract i s.size).data.toList c = -1) (k : Nat) (hk : k < s.size) (hi : i ≤ k) : s[k] ≠ c := by
  intro e
  have := Go.Lib.indexByte_none h (k - i)
  rw [Go.Lib.extract_to_end, List.getElem?_drop, show i + (k - i) = k by omega, list_get s k hk, e] at this
  exact this rfl
theorem idx_some {s : ByteArray} {i o : Nat} {c : UInt8} (h : Go.Lib.indexByte (s.extract i s.size).data.toList c = o) : ∃ hk : i + o < s.size, s[i + o] = c ∧ ∀ k (hk : k < s.size), i ≤ k → k < i + o → s[k] ≠ c := by
  obtain ⟨h1, h2⟩ := Go.Lib.indexByte_some h
  rw [Go.Lib.extract_to_end, List.getElem?_drop] at h1
  have hl : i + o < s.size := by
    rcases Nat.lt_or_ge (i + o) s.size with g | g
    · exact g
    · rw [List.getElem?_eq_none (by simpa using g)] at h1; cases h1
  rw [list_get s _ hl] at h1
  refine ⟨hl, by simpa using h1, fun k hk hi hko e => ?_⟩
  have := h2 (k - i) (by omega)
  rw [Go.Lib.extract_to_end, List.getElem?_drop, show i + (k - i) = k by omega, list_get s k hk, e] at this
  exact this rfl
end Ph
namespace Go.Proofs.YtpcgcghhddnifaaGreatDoor
open Go.RowKit
open Ph
def pcells (l : List Pc) : List Value := l.flatMap fun p => [.int .i64 p.kind, .string p.text, .int .i64 p.place]
theorem pcells_length (l : List Pc) : (pcells l).length = l.length * 3 := by
  unfold pcells; induction l with
  | nil => rfl
  | cons p l ih => simp only [List.flatMap_cons, List.length_append, ih]; simp; omega
theorem pcells_append (l m : List Pc) : pcells (l ++ m) = pcells l ++ pcells m := by unfold pcells; simp
theorem pcells_one (l : List Pc) : ∀ u ∈ pcells l, u.oneCell' = true := by
  intro u hu; unfold pcells at hu; simp at hu
  obtain ⟨p, _, h⟩ := hu
  rcases h with rfl | rfl | rfl <;> rfl
theorem info31 : (Tryz.prog.info? 100).map (fun i => (i.zero, i.size, i.bytes)) = some (some (.agg #[.int .i64 0, .string ⟨#[]⟩, .int .i64 0]), 3, 32) := by kernel_rfl
def sp (e k : Int) : Value := .agg #[.int .i64 e, .int .i64 k]
/-- what may be wrong with a text -/
def Wrong (s : ByteArray) (e k : Int) : Prop :=
  (4096 < s.size ∧ e = 3 ∧ k = 4096) ∨ (s.size ≤ 4096 ∧ ∃ j : Nat, brk s 0 = some j ∧ e = 6 ∧ k = j) ∨ (s.size ≤ 4096 ∧ brk s 0 = none ∧ ∃ j : Nat, Par s 0 (.error j) ∧ e = 280 ∧ k = j)
def Fine (s : ByteArray) (l : List Pc) : Prop := s.size ≤ 4096 ∧ brk s 0 = none ∧ Par s 0 (.ok l)
def Parsed (s : ByteArray) (w : World) (e : Ending) (w' : World) : Prop :=
  (∃ (l : List Pc) (v : Value), Fine s l ∧ e = .returned (.tuple #[v, sp 0 0]) ∧ w'.ownsRow w.heap.size 100 3 v l.length (pcells l) ∧ Below w.heap.size w w') ∨
  (∃ a b : Int, Wrong s a b ∧ e = .returned (.tuple #[.slice none 0 0, sp a b]) ∧ Below w.heap.size w w')
theorem reads_new3 (w : World) (a b c : Value) (t : TypeId) : Reads (w.alloc (.cells #[a, b, c] t)) (w.heap.size + 1) 3 (some ⟨w.heap.size, 0, none⟩) 1 [a, b, c] := by
  refine ⟨rfl, fun _ => ⟨_, rfl, by simp, ?_⟩⟩
  intro j u hu
  have hc := (Blk.new w t #[a, b, c]).cell j
  have he : (⟨w.heap.size, 0, none⟩ : Addr).add j = ⟨w.heap.size, j, none⟩ := by
    unfold Addr.add; split
    · rename_i h; rw [h]
    · simp
  rw [he, hc]; simpa using hu
theorem grown_set (w : World) (p : Addr) (u : Value) : w.grownBy (w.setCell p u) (some p.block) :=
  ⟨rfl, rfl, rfl, by simp [World.setCell], fun k _ hne => Below.heap_setCell w p u k (fun e => hne (by rw [e]))⟩
theorem grown_below {w w' : World} (h : Below w.heap.size w w') : w.grownBy w' none := ⟨h.os, h.tape, h.output, h.size, fun k hk _ => h.block k hk⟩
section
variable {w w' : World} {base e size n : Nat} {v : Value} {xs : List Value}
theorem own_far (h : w.ownsRow base e size v n xs) {p : Addr} (hp : v.ownBlock ≠ some p.block) (u : Value) : (w.setCell p u).ownsRow base e size v n xs := h.kept (grown_set w p u) (Or.inr hp)
theorem own_below (h : w.ownsRow base e size v n xs) (hb : Below w.heap.size w w') : w'.ownsRow base e size v n xs :=
  h.kept (grown_below hb) (by cases v.ownBlock with | none => exact Or.inl rfl | some k => exact Or.inr (fun e => by cases e))
theorem own_drew (h : w.ownsRow base e size v n xs) : w.drew.ownsRow base e size v n xs := h
theorem own_drewN (h : w.ownsRow base e size v n xs) (k : Nat) : (w.drewN k).ownsRow base e size v n xs := h
theorem own_base {b : Nat} (h : w.ownsRow base e size v n xs) (hb : b ≤ base) : w.ownsRow b e size v n xs := by
  obtain ⟨h1, h2⟩ := h
  refine ⟨h1, ?_⟩
  rcases h2 with h2 | ⟨g, cap, cur, a, b', c⟩
  · exact Or.inl h2
  · exact Or.inr ⟨g, cap, cur, a, by omega, c⟩
end
theorem own_snoc {w : World} {base : Nat} {v : Value} (l : List Pc) (p : Pc) (h : w.ownsRow base 100 3 v (l.length + 1) (pcells l ++ [.int .i64 p.kind, .string p.text, .int .i64 p.place])) : w.ownsRow base 100 3 v (l ++ [p]).length (pcells (l ++ [p])) := by
  rw [pcells_append, List.length_append]
  exact h
theorem wpPiece {ops : Array Oper} {rest : List Oper} {o : Oper} {a : Act} {Q : Exit → Act → World → Prop} (hgd : o.guard = none) (sI xI : Operand)
    (ho : o.op = .call { callee := .builtin .append, args := #[sI, xI], argTypes := #[82, 82] })
    (base : Nat) (w0 : World) (v : Value) (l : List Pc) (p : Pc) (hs : a.eval sI = v) (hown : w0.ownsRow base 100 3 v l.length (pcells l)) (hx : a.eval xI = .slice (some ⟨w0.heap.size, 0, none⟩) 1 1)
    (hl : l.length ≤ 1000000000000) (hb : base ≤ w0.heap.size)
    (h : ∀ v' w', w'.ownsRow base 100 3 v' (l ++ [p]).length (pcells (l ++ [p])) → (w0.alloc (.cells #[.int .i64 p.kind, .string p.text, .int .i64 p.place] 100)).grownBy w' v.ownBlock → wpList Tryz.prog ops Q rest (a.put o.dst v') w') :
    wpList Tryz.prog ops Q (o :: rest) a (w0.alloc (.cells #[.int .i64 p.kind, .string p.text, .int .i64 p.place] 100)) := by
  obtain ⟨i0, hi0, hz0, hz1, hz2⟩ := info_parts info31
  refine wpList_append_any _ hgd sI xI 82 ho base 100 i0 _ 3 32 Tryz.underlying82 hi0 hz0 hz1 hz2 rfl (by omega) v l.length (pcells l) hs (hown.alloc _) (w0.heap.size + 1) _ 1 1 [.int .i64 p.kind, .string p.text, .int .i64 p.place] hx (reads_new3 w0 _ _ _ _) ?_ ?_ ?_ ?_ ?_
  · intro u hu; simp at hu; rcases hu with rfl | rfl | rfl <;> rfl
  · unfold maxLen; omega
  · omega
  · simp only [World.size_alloc]; omega
  · intro v' w' h1 h2 _
    exact h v' w' (own_snoc l p h1) h2
theorem par_text {s : ByteArray} {l : List Pc} {i k : Nat} (h : ∀ r, Par s i r → Par s 0 (pre l r)) (hi : i < s.size) (hk : i < k) (hk' : k ≤ s.size) (g : ∀ m (hm : m < s.size), i ≤ m → m < k → ¬ brace s[m]) (g' : ∀ hk : k < s.size, brace s[k]) :
    ∀ r, Par s k r → Par s 0 (pre (l ++ [⟨1, s.extract i k, 0⟩]) r) := by
  intro r hr
  rw [← pre_pre]
  exact h _ (Par.text i k r hi hk hk' g g' hr)
theorem u8_ne {a b : UInt8} (h : a ≠ b) : a.toNat ≠ b.toNat := fun e => h (UInt8.toNat_inj.1 e)
theorem par_end {s : ByteArray} {l : List Pc} {i : Nat} (h : ∀ r, Par s i r → Par s 0 (pre l r)) (hi : ¬ i < s.size) : Par s 0 (.ok l) := by
  have := h _ (Par.fin i hi)
  simpa [pre] using this
theorem idxB (s : ByteArray) (c : Int) (w : World) : Calls Tryz.prog 84 #[.string s, .int .u8 c] w fun e w' => e = .returned (.int .i64 (Lib.indexByte s.data.toList c.toNat.toUInt8)) ∧ w = w' :=
  (Tryz.strings_IndexByte s c w).mono fun _ _ ⟨h1, h2⟩ => ⟨h1, h2.symm⟩
theorem par_place {s : ByteArray} {l : List Pc} {i o m : Nat} (h : ∀ r, Par s i r → Par s 0 (pre l r)) (hi : i < s.size) (c : s[i] = 123) (ho : 0 < o) (hk : i + o < s.size) (e : s[i + o] = 125) (g : ∀ k (hk : k < s.size), i ≤ k → k < i + o → s[k] ≠ 125)
    (hp : placeOf (s.extract (i + 1) (i + o)).data.toList = some m) : ∀ r, Par s (i + o + 1) r → Par s 0 (pre (l ++ [⟨2, ⟨#[]⟩, m⟩]) r) := by
  intro r hr
  rw [← pre_pre]
  exact h _ (Par.opens i (i + o) m r hi c (by omega) hk e (fun k hk h1 h2 => g k hk (by omega) h2) hp hr)
set_option maxRecDepth 100000 in
set_option maxHeartbeats 4000000 in
theorem refParse (s : ByteArray) (hs : s.size ≤ 281474976710656) (w : World) : Calls Tryz.prog 58 #[.string s] w (Parsed s w) := by
  by_cases h0 : 4096 < s.size
  · have h1 : (4096 : Int) < s.size := by omega
    go_enter Tryz.func58, Tryz.ntmps58
    go_wp2_with fail
    refine bodyPost_ret (v := .tuple #[.slice none 0 0, sp 3 4096]) ?_ rfl (Or.inr ⟨_, _, Or.inl ⟨h0, rfl, rfl⟩, rfl, ?_⟩)
    · simp [sp, results, Tryz.results58, go_sem]
    · exact (Below.refl _ _).alloc (Nat.le_refl _) _
  have h1 : s.size ≤ 4096 := by omega
  have HB := broken_any s hs
  cases hb : brk s 0 with
  | some j =>
    have H := Lib.hid hb
    rw [brkI_some hb] at HB
    clear hb
    go_enter Tryz.func58, Tryz.ntmps58
    go_wp2_with (go_at_call 36; refine (HB _).mono ?_; rintro e w' ⟨rfl, rfl⟩)
    refine bodyPost_ret (v := .tuple #[.slice none 0 0, sp 6 j]) ?_ rfl (Or.inr ⟨_, _, Or.inr (Or.inl ⟨h1, j, H.out, rfl, rfl⟩), rfl, ?_⟩)
    · simp [sp, results, Tryz.results58, go_sem]
    · exact (Below.refl _ _).alloc (Nat.le_refl _) _
  | none =>
    have H := Lib.hid hb
    rw [brkI_none hb] at HB
    clear hb
    obtain ⟨i0, hi0, hz0, hz1, hz2⟩ := info_parts info31
    go_enter Tryz.func58, Tryz.ntmps58
    go_wp2_with (go_at_call 36; refine (HB _).mono ?_; rintro e w' ⟨rfl, rfl⟩)
    go_loopw [5, 6] (fun u v wr => ∃ (i : Nat) (l : List Pc), v = .int .i64 i ∧ wr.ownsRow w.heap.size 100 3 u l.length (pcells l) ∧ Blk wr w.heap.size 72 #[.int .i64 0, .int .i64 0] ∧ Below w.heap.size w wr ∧ i ≤ s.size ∧ l.length ≤ i ∧ (∀ r, Par s i r → Par s 0 (pre l r))) (fun _ v _ => s.size - (intOf v).toNat)
    case atStart =>
      refine ⟨0, [], rfl, ?_, Blk.new _ _ _, (Below.refl _ w).alloc (Nat.le_refl _) _, by omega, by simp, fun r h => by rw [pre_nil]; exact h⟩
      exact ⟨by simp [pcells], Or.inl ⟨rfl, rfl⟩⟩
    case round =>
      obtain ⟨i, l, rfl, hown, hB, hbw, hi, hl, hpar⟩ := hrel
      have HP := Lib.hid hpar
      have hl9 : l.length ≤ 1000000000000 := by omega
      clear hpar
      by_cases hlt : i < s.size
      · by_cases c1 : s[i] = 123
        · have hc0 := hB.at_ 0 (v := .int .i64 0) rfl
          have hc1 := hB.at_ 1 (v := .int .i64 0) rfl
          have hf := hB.frozen
          have t1 : ((s[i].toNat : Int) == 123) = true := by rw [c1]; rfl
          have HI := idxB (s.extract i s.size) 125
          have hge := Lib.indexByte_ge (s.extract i s.size).data.toList 125
          by_cases hx : Lib.indexByte (s.extract i s.size).data.toList 125 = -1
          · rw [show Lib.indexByte (s.extract i s.size).data.toList (125 : Int).toNat.toUInt8 = -1 from hx] at HI
            have E := Lib.hid (HP.out _ (Par.noclose i hlt c1 (fun k hk h2 => idx_none hx k hk (by omega))))
            clear c1 hx hge
            go_wp2_with (go_at_call 84; refine (HI _).mono ?_; rintro e w' ⟨rfl, rfl⟩)
            refine bodyPost_ret (v := .tuple #[.slice none 0 0, sp 280 i]) ?_ rfl (Or.inr ⟨_, _, Or.inr (Or.inr ⟨h1, H.out, i, E.out, rfl, rfl⟩), rfl, ?_⟩)
            · simp [sp, results, Tryz.results58, go_sem, hc0, hc1]
            · exact (hbw.setCell (by simp) _).setCell (by simp) _
          · obtain ⟨o, ho⟩ : ∃ o : Nat, Lib.indexByte (s.extract i s.size).data.toList 125 = o := ⟨_, (Int.toNat_of_nonneg (by omega)).symm⟩
            obtain ⟨hk, e1, e2⟩ := idx_some ho
            have o1 : 0 < o := by
              rcases Nat.eq_zero_or_pos o with g | g
              · subst g; rw [show s[i + 0] = s[i] from rfl, c1] at e1; exact absurd e1 (by decide)
              · exact g
            rw [show Lib.indexByte (s.extract i s.size).data.toList (125 : Int).toNat.toUInt8 = (o : Int) from ho] at HI
            have HN := number_any (s.extract (i + 1) (i + o))
            cases hp : placeOf (s.extract (i + 1) (i + o)).data.toList with
            | none =>
              rw [numI_none hp] at HN
              have E := Lib.hid (HP.out _ (Par.badplace i (i + o) hlt c1 (by omega) hk e1 (fun k hk h2 h3 => e2 k hk (by omega) h3) hp))
              clear c1 hx hge ho e1 e2 hp
              go_wp2_with (first | (go_at_call 84; refine (HI _).mono ?_; rintro e w' ⟨rfl, rfl⟩) | (go_at_call 85; refine (HN _).mono ?_; rintro e w' ⟨rfl, rfl⟩))
              refine bodyPost_ret (v := .tuple #[.slice none 0 0, sp 280 i]) ?_ rfl (Or.inr ⟨_, _, Or.inr (Or.inr ⟨h1, H.out, i, E.out, rfl, rfl⟩), rfl, ?_⟩)
              · simp [sp, results, Tryz.results58, go_sem, hc0, hc1]
              · exact (hbw.setCell (by simp) _).setCell (by simp) _
            | some m =>
              rw [numI_some hp] at HN
              have E := Lib.hid (par_place HP.out hlt c1 o1 hk e1 e2 hp)
              clear c1 hx hge ho e1 e2 hp
              go_wp2_with (first | (go_at_call 84; refine (HI _).mono ?_; rintro e w' ⟨rfl, rfl⟩) | (go_at_call 85; refine (HN _).mono ?_; rintro e w' ⟨rfl, rfl⟩) | (at_builtin; refine wpPiece rfl (.tmp 75) (.tmp 85) rfl w.heap.size wr u5 l ⟨2, ⟨#[]⟩, m⟩ rfl hown rfl hl9 hbw.size ?_; intro v1 w1 hown2 hg1))
              have hB1 := (hB.alloc (.cells #[.int .i64 2, .string ⟨#[]⟩, .int .i64 m] 100)).grown hg1 (fun e => own_blk_ne hown hB (by decide) e.symm)
              have hbw1 := (hbw.alloc hbw.size _).grown hg1 (by simp only [World.size_alloc]; have := hbw.size; omega) (fun k hk => (hown.lt k hk).1)
              clear hg1 hown hB hbw hc0 hc1 hf
              go_wp2_with fail
              go_roundw
              case rel => exact ⟨i + o + 1, l ++ [⟨2, ⟨#[]⟩, m⟩], by go_num, hown2, hB1, hbw1, by omega, by simp; omega, E.out⟩
              case measure => simp [intOf]; omega
        by_cases c2 : s[i] = 125
        · have E := Lib.hid (HP.out _ (Par.closes i hlt c2))
          have hc0 := hB.at_ 0 (v := .int .i64 0) rfl
          have hc1 := hB.at_ 1 (v := .int .i64 0) rfl
          have hf := hB.frozen
          have t1 : ((s[i].toNat : Int) == 123) = false := by rw [c2]; rfl
          have t2 : ((s[i].toNat : Int) == 125) = true := by rw [c2]; rfl
          clear c1 c2
          go_wp2_with fail
          refine bodyPost_ret (v := .tuple #[.slice none 0 0, sp 280 i]) ?_ rfl (Or.inr ⟨_, _, Or.inr (Or.inr ⟨h1, H.out, i, E.out, rfl, rfl⟩), rfl, ?_⟩)
          · simp [sp, results, Tryz.results58, go_sem, hc0, hc1]
          · exact (hbw.setCell (by simp) _).setCell (by simp) _
        · have n1 := u8_ne c1
          have n2 := u8_ne c2
          have t1 : ((s[i].toNat : Int) == 123) = false := beq_eq_false_iff_ne.2 (fun e => n1 (by simpa using (by omega : s[i].toNat = 123)))
          have t2 : ((s[i].toNat : Int) == 125) = false := beq_eq_false_iff_ne.2 (fun e => n2 (by simpa using (by omega : s[i].toNat = 125)))
          have C := Lib.hid (show ¬ brace s[i] from fun e => e.elim c1 c2)
          clear c1 c2 n1 n2
          go_wp2_with fail
          obtain ⟨wo, rfl⟩ : ∃ wo : World, wo = wr := ⟨_, rfl⟩
          go_loop [8] (fun u => ∃ k : Nat, u = .int .i64 k ∧ i ≤ k ∧ k ≤ s.size ∧ (∀ m (hm : m < s.size), i ≤ m → m < k → ¬ brace s[m])) (fun u => s.size - (intOf u).toNat)
          case atStart => exact ⟨i, rfl, by omega, by omega, fun m hm h1 h2 => by omega⟩
          case round =>
            obtain ⟨k, rfl, hk1, hk2, hno⟩ := hrel
            have HK := Lib.hid hno
            clear hno
            by_cases hk : k < s.size
            · by_cases d1 : s[k] = 123
              · have b1 : brace s[k] := Or.inl d1
                have hik : i < k := by
                  rcases Nat.lt_or_ge i k with g | g
                  · exact g
                  · obtain rfl : i = k := by omega
                    exact absurd b1 C.out
                have G := Lib.hid (fun _ : k < s.size => b1)
                have t3 : ((s[k].toNat : Int) != 123) = false := by rw [d1]; rfl
                clear d1 b1
                have E := Lib.hid (par_text HP.out hlt hik hk2 HK.out G.out)
                clear HK
                go_wp2_with (first | (at_builtin; refine wpPiece rfl (.tmp 45) (.tmp 51) rfl w.heap.size wo u5 l ⟨1, s.extract i k, 0⟩ rfl hown rfl hl9 hbw.size ?_; intro v1 w1 hown2 hg1))
                have hB1 := (hB.alloc (.cells #[.int .i64 1, .string (s.extract i k), .int .i64 0] 100)).grown hg1 (fun e => own_blk_ne hown hB (by decide) e.symm)
                have hbw1 := (hbw.alloc hbw.size _).grown hg1 (by simp only [World.size_alloc]; have := hbw.size; omega) (fun k hk => (hown.lt k hk).1)
                clear hg1 hown hB hbw
                go_wp2_with fail
                go_roundw
                case rel => exact ⟨k, l ++ [⟨1, s.extract i k, 0⟩], rfl, hown2, hB1, hbw1, by omega, by simp; omega, E.out⟩
                case measure => simp [intOf]; omega
              by_cases d2 : s[k] = 125
              · have b1 : brace s[k] := Or.inr d2
                have hik : i < k := by
                  rcases Nat.lt_or_ge i k with g | g
                  · exact g
                  · obtain rfl : i = k := by omega
                    exact absurd b1 C.out
                have G := Lib.hid (fun _ : k < s.size => b1)
                have t3 : ((s[k].toNat : Int) != 123) = true := by rw [d2]; rfl
                have t4 : ((s[k].toNat : Int) != 125) = false := by rw [d2]; rfl
                clear d1 d2 b1
                have E := Lib.hid (par_text HP.out hlt hik hk2 HK.out G.out)
                clear HK
                go_wp2_with (first | (at_builtin; refine wpPiece rfl (.tmp 45) (.tmp 51) rfl w.heap.size wo u5 l ⟨1, s.extract i k, 0⟩ rfl hown rfl hl9 hbw.size ?_; intro v1 w1 hown2 hg1))
                have hB1 := (hB.alloc (.cells #[.int .i64 1, .string (s.extract i k), .int .i64 0] 100)).grown hg1 (fun e => own_blk_ne hown hB (by decide) e.symm)
                have hbw1 := (hbw.alloc hbw.size _).grown hg1 (by simp only [World.size_alloc]; have := hbw.size; omega) (fun k hk => (hown.lt k hk).1)
                clear hg1 hown hB hbw
                go_wp2_with fail
                go_roundw
                case rel => exact ⟨k, l ++ [⟨1, s.extract i k, 0⟩], rfl, hown2, hB1, hbw1, by omega, by simp; omega, E.out⟩
                case measure => simp [intOf]; omega
              · have n1 := u8_ne d1
                have n2 := u8_ne d2
                have t3 : ((s[k].toNat : Int) != 123) = true := by simp only [bne_iff_ne]; intro e; exact n1 (by simpa using (by omega : s[k].toNat = 123))
                have t4 : ((s[k].toNat : Int) != 125) = true := by simp only [bne_iff_ne]; intro e; exact n2 (by simpa using (by omega : s[k].toNat = 125))
                have C2 := Lib.hid (show ¬ brace s[k] from fun e => e.elim d1 d2)
                clear d1 d2 n1 n2
                go_wp2_with fail
                go_round
                case rel => exact ⟨k + 1, by go_num, by omega, by omega, fun m hm h1 h2 => by
                  rcases Nat.lt_or_ge m k with g | g
                  · exact HK.out m hm h1 g
                  · obtain rfl : m = k := by omega
                    exact C2.out⟩
                case measure => simp [intOf]; omega
            · have hik : i < k := by omega
              have G := Lib.hid (fun g : k < s.size => (absurd g hk : brace s[k]))
              have E := Lib.hid (par_text HP.out hlt hik hk2 HK.out G.out)
              clear HK
              go_wp2_with (first | (at_builtin; refine wpPiece rfl (.tmp 45) (.tmp 51) rfl w.heap.size wo u5 l ⟨1, s.extract i k, 0⟩ rfl hown rfl hl9 hbw.size ?_; intro v1 w1 hown2 hg1))
              have hB1 := (hB.alloc (.cells #[.int .i64 1, .string (s.extract i k), .int .i64 0] 100)).grown hg1 (fun e => own_blk_ne hown hB (by decide) e.symm)
              have hbw1 := (hbw.alloc hbw.size _).grown hg1 (by simp only [World.size_alloc]; have := hbw.size; omega) (fun k hk => (hown.lt k hk).1)
              clear hg1 hown hB hbw
              go_wp2_with fail
              go_roundw
              case rel => exact ⟨k, l ++ [⟨1, s.extract i k, 0⟩], rfl, hown2, hB1, hbw1, by omega, by simp; omega, E.out⟩
              case measure => simp [intOf]; omega
      · have E := Lib.hid (par_end HP.out hlt)
        have hc0 := hB.at_ 0 (v := .int .i64 0) rfl
        have hc1 := hB.at_ 1 (v := .int .i64 0) rfl
        have hf := hB.frozen
        go_wp2_with fail
        refine bodyPost_ret (v := .tuple #[u5, sp 0 0]) ?_ rfl (Or.inl ⟨l, u5, ⟨h1, H.out, E.out⟩, rfl, ?_, ?_⟩)
        · simp [sp, results, Tryz.results58, go_sem, hc0, hc1]
        · refine own_far (own_far hown ?_ _) ?_ _
          · exact own_blk_ne hown hB (by decide)
          · exact own_blk_ne hown hB (by decide)
        · exact (hbw.setCell (by simp) _).setCell (by simp) _
end Go.Proofs.YtpcgcghhddnifaaGreatDoor
namespace Go.Proofs.YtpcgcghhddnifaaGreatDoor
open Go.RowKit
open Ph
theorem stepPiece {W : World} {ops : Array Oper} {o : Oper} {a : Act} {K : Act → World → Prop} {Q : Exit → Act → World → Prop} {E : Prop} (hgd : o.guard = none) (sI xI : Operand)
    (ho : o.op = .call { callee := .builtin .append, args := #[sI, xI], argTypes := #[82, 82] })
    (base : Nat) (v : Value) (l : List Pc) (p : Pc) (hs : a.eval sI = v) (hown : W.ownsRow base 100 3 v l.length (pcells l)) (g : Nat) (hx : a.eval xI = .slice (some ⟨g, 0, none⟩) 1 1)
    (hr : Blk W g 100 #[.int .i64 p.kind, .string p.text, .int .i64 p.place])
    (hl : l.length ≤ 1000000000000) (hb : base ≤ W.heap.size)
    (h : ∀ gg cap w', w'.ownsRow base 100 3 (.slice (some ⟨gg, 0, none⟩) (l.length + 1) cap) (l ++ [p]).length (pcells (l ++ [p])) → W.grownBy w' v.ownBlock → K (a.put o.dst (.slice (some ⟨gg, 0, none⟩) (l.length + 1) cap)) w') :
    if Region.wanted o (yielded ops a.tmps) = true then Oper.wp Tryz.prog o a W K Q else E := by
  obtain ⟨i0, hi0, hz0, hz1, hz2⟩ := info_parts info31
  refine step_append_any _ hgd sI xI 82 ho base 100 i0 _ 3 32 Tryz.underlying82 hi0 hz0 hz1 hz2 rfl (by omega) v l.length (pcells l) hs hown (g + 1) _ 1 1 [.int .i64 p.kind, .string p.text, .int .i64 p.place] hx ?_ ?_ ?_ ?_ ?_ ?_
  · refine ⟨rfl, fun _ => ⟨_, rfl, by simp, ?_⟩⟩
    intro j u hu
    have hc := hr.cell j
    have he : (⟨g, 0, none⟩ : Addr).add j = ⟨g, j, none⟩ := by
      unfold Addr.add; split
      · rename_i h; rw [h]
      · simp
    rw [he, hc]; simpa using hu
  · intro u hu; simp at hu; rcases hu with rfl | rfl | rfl <;> rfl
  · unfold maxLen; omega
  · omega
  · exact hb
  · intro v' w' h1 h2 _
    obtain ⟨gg, cap, hv, _, _⟩ := h1.form (by omega)
    subst hv
    exact h gg cap w' (own_snoc l p h1) h2
/-- only the block of a row, the block L and what is new have turned -/
structure Turn (w w' : World) (r : Option Nat) (L : Nat) : Prop where
  os : w'.os = w.os
  tape : w'.tape = w.tape
  output : w'.output = w.output
  size : w.heap.size ≤ w'.heap.size
  block : ∀ k, k < w.heap.size → some k ≠ r → k ≠ L → w'.heap[k]? = w.heap[k]?
theorem clo_no (fr tu : Int) (F Lb Sb : Nat) (w : World) (hF : Blk w F 3 #[.int .i64 fr]) (h : tu ≤ fr) :
    Calls Tryz.prog 61 #[.int .i64 tu, .pointer (some ⟨F, 0, none⟩), .pointer (some ⟨Lb, 0, none⟩), .pointer (some ⟨Sb, 0, none⟩)] w fun e w' => e = .returned (.tuple #[]) ∧ w = w' := by
  have hc := hF.at_ 0 (v := .int .i64 fr) rfl
  go_enter Tryz.func61, Tryz.ntmps61
  go_wp2_with fail
  go_end0
  exact ⟨rfl, rfl⟩
def CloPost (s : ByteArray) (fr tu Lb base : Nat) (v : Value) (l : List Pc) (w : World) (e : Ending) (w' : World) : Prop :=
  e = .returned (.tuple #[]) ∧ ∃ v', Blk w' Lb 82 #[v'] ∧ w'.ownsRow base 100 3 v' (l ++ [Pc.mk 1 (s.extract fr tu) 0]).length (pcells (l ++ [Pc.mk 1 (s.extract fr tu) 0])) ∧ Turn w w' v.ownBlock Lb
set_option maxHeartbeats 2000000 in
theorem clo_yes (s : ByteArray) (fr tu : Nat) (F Lb Sb base : Nat) (v : Value) (l : List Pc) (w : World) (hF : Blk w F 3 #[.int .i64 fr]) (hL : Blk w Lb 82 #[v]) (hS : Blk w Sb 9 #[.string s])
    (hown : w.ownsRow base 100 3 v l.length (pcells l)) (hb : base ≤ w.heap.size) (hl : l.length ≤ 1000000000000) (h : fr < tu) (hs : tu ≤ s.size) (_hz : s.size ≤ 281474976710656) :
    Calls Tryz.prog 61 #[.int .i64 tu, .pointer (some ⟨F, 0, none⟩), .pointer (some ⟨Lb, 0, none⟩), .pointer (some ⟨Sb, 0, none⟩)] w (CloPost s fr tu Lb base v l w) := by
  have c1 := hF.at_ 0 (v := .int .i64 fr) rfl
  have c2 := hL.at_ 0 (v := v) rfl
  have c3 := hS.at_ 0 (v := .string s) rfl
  have f2 := hL.frozen
  have hle : fr ≤ tu := by omega
  have e1 := (hF.alloc (.cells #[.int .i64 1, .string (s.extract fr tu), .int .i64 0] 100)).at_ 0 (v := .int .i64 fr) rfl
  have e2 := (hL.alloc (.cells #[.int .i64 1, .string (s.extract fr tu), .int .i64 0] 100)).at_ 0 (v := v) rfl
  have e3 := (hS.alloc (.cells #[.int .i64 1, .string (s.extract fr tu), .int .i64 0] 100)).at_ 0 (v := .string s) rfl
  go_enter Tryz.func61, Tryz.ntmps61
  go_wp2_with fail
  go_region_law ((refine stepPiece rfl (.tmp 8) (.tmp 14) rfl base v l (Pc.mk 1 (s.extract fr tu) 0) rfl (own_drew (hown.alloc _)) w.heap.size rfl (Blk.drew (Blk.new _ _ _)) hl (by simp; omega) ?_; intro gg cap w1 hown2 hg1; have hL1 := ((hL.alloc (.cells #[.int .i64 1, .string (s.extract fr tu), .int .i64 0] 100)).drew).grown hg1 (fun e => own_blk_ne hown hL (by decide) e.symm); have d1 := hL1.at_ 0 (v := v) rfl; have d2 := hL1.frozen))
  all_goals
    have hB2 := hL1.set_ 0 (.slice (some ⟨gg, 0, none⟩) (l.length + 1) cap)
    have ho := own_far hown2 (p := ⟨Lb, 0, none⟩) (own_blk_ne hown2 hL1 (by decide)) (.slice (some ⟨gg, 0, none⟩) (l.length + 1) cap)
    have hT : Turn w (w1.setCell ⟨Lb, 0, none⟩ (.slice (some ⟨gg, 0, none⟩) (l.length + 1) cap)) v.ownBlock Lb :=
      ⟨hg1.os, hg1.tape, hg1.output, by have := hg1.size; simp [World.setCell] at this ⊢; omega, fun k hk h1 h2 => (Below.heap_setCell _ _ _ _ h2).trans ((hg1.block k (by simp; omega) h1).trans (Below.heap_alloc w _ k hk))⟩
    go_end0
    exact ⟨rfl, _, hB2, ho, hT⟩
end Go.Proofs.YtpcgcghhddnifaaGreatDoor
namespace Go.Proofs.YtpcgcghhddnifaaGreatDoor
open Go.RowKit
open Ph
theorem own_iter_ne {w : World} {base e size n : Nat} {v : Value} {xs : List Value} (h : w.ownsRow base e size v n xs) {k : Nat} {s : ByteArray} {pos : Nat} (hk : w.heap[k]? = some (.stringIter s pos)) : some k ≠ v.ownBlock := by
  rcases h.2 with ⟨rfl, _⟩ | ⟨g, cap, cur, rfl, _, hh, _⟩
  · simp [Value.ownBlock]
  · intro he
    have : k = g := by simpa [Value.ownBlock] using he
    subst this
    rw [hk] at hh; cases hh
theorem blk_iter_ne {w : World} {g : Nat} {t : TypeId} {cs : Array Value} (h : Blk w g t cs) {k : Nat} {s : ByteArray} {pos : Nat} (hk : w.heap[k]? = some (.stringIter s pos)) : k ≠ g := by
  rintro rfl
  unfold Blk at h; rw [hk] at h; cases h
theorem Turn.blk {w w' : World} {r : Option Nat} {L g : Nat} {t : TypeId} {cs : Array Value} (hT : Turn w w' r L) (h : Blk w g t cs) (h1 : some g ≠ r) (h2 : g ≠ L) : Blk w' g t cs := (hT.block g h.lt h1 h2).trans h
theorem Turn.below {w w' a : World} {r : Option Nat} {L B : Nat} (hT : Turn w w' r L) (h : Below B a w) (hB : B ≤ w.heap.size) (hr : ∀ k, r = some k → B ≤ k) (hL : B ≤ L) : Below B a w' :=
  h.trans ⟨hT.os, hT.tape, hT.output, hT.size, fun k hk => hT.block k (by omega) (fun e => by have := hr k e.symm; omega) (by omega)⟩
theorem own_iterAt {w : World} {base e size n : Nat} {v : Value} {xs : List Value} (h : w.ownsRow base e size v n xs) {k : Nat} {s : ByteArray} {pos : Nat} (hk : w.heap[k]? = some (.stringIter s pos)) (pos' : Nat) : (w.iterAt k s pos').ownsRow base e size v n xs := by
  obtain ⟨h1, h2⟩ := h
  refine ⟨h1, ?_⟩
  rcases h2 with h2 | ⟨g, cap, cur, a, b, c, d⟩
  · exact Or.inl h2
  · refine Or.inr ⟨g, cap, cur, a, b, ?_, d⟩
    rw [Lib.iterAt_other w k g s pos' (fun e => by rw [e, hk] at c; cases c)]; exact c
/-- where the reading stands -/
def Mode (s : ByteArray) (l : List Pc) (fr pos : Nat) (op : Int) : Prop :=
  (op = -1 ∧ (∀ r, Par s fr r → Par s 0 (pre l r)) ∧ ∀ m (hm : m < s.size), fr ≤ m → m < pos → ¬ brace s[m]) ∨
  (∃ o : Nat, op = o ∧ fr ≤ o ∧ o < pos ∧ (∃ ho : o < s.size, s[o] = 123) ∧ (∀ r, Par s o r → Par s 0 (pre l r)) ∧ ∀ m (hm : m < s.size), o < m → m < pos → s[m] ≠ 125)
theorem wpPieceS {ops : Array Oper} {rest : List Oper} {o : Oper} {a : Act} {Q : Exit → Act → World → Prop} (hgd : o.guard = none) (sI xI : Operand)
    (ho : o.op = .call { callee := .builtin .append, args := #[sI, xI], argTypes := #[82, 82] })
    (base : Nat) (w0 : World) (v : Value) (l : List Pc) (p : Pc) (hs : a.eval sI = v) (hown : w0.ownsRow base 100 3 v l.length (pcells l)) (hx : a.eval xI = .slice (some ⟨w0.heap.size, 0, none⟩) 1 1)
    (hl : l.length ≤ 1000000000000) (hb : base ≤ w0.heap.size)
    (h : ∀ gg cap w', w'.ownsRow base 100 3 (.slice (some ⟨gg, 0, none⟩) (l.length + 1) cap) (l ++ [p]).length (pcells (l ++ [p])) → (w0.alloc (.cells #[.int .i64 p.kind, .string p.text, .int .i64 p.place] 100)).grownBy w' v.ownBlock → wpList Tryz.prog ops Q rest (a.put o.dst (.slice (some ⟨gg, 0, none⟩) (l.length + 1) cap)) w') :
    wpList Tryz.prog ops Q (o :: rest) a (w0.alloc (.cells #[.int .i64 p.kind, .string p.text, .int .i64 p.place] 100)) := by
  refine wpPiece hgd sI xI ho base w0 v l p hs hown hx hl hb ?_
  intro v' w' h1 h2
  obtain ⟨gg, cap, hv, _, _⟩ := h1.form (by simp)
  rw [List.length_append] at hv
  subst hv
  exact h gg cap w' h1 h2
theorem brace_low {c : UInt8} (h : 128 ≤ c.toNat) : ¬ brace c := by
  rintro (rfl | rfl) <;> simp at h
theorem skipA {s : ByteArray} {fr pos : Nat} (hp : pos < s.size) (C : ¬ brace s[pos]) (hno : ∀ m (hm : m < s.size), fr ≤ m → m < pos → ¬ brace s[m]) : ∀ m (hm : m < s.size), fr ≤ m → m < pos + (Utf8.decode s pos).2 → ¬ brace s[m] := by
  intro m hm h1 h2
  rcases Nat.lt_trichotomy m pos with g | g | g
  · exact hno m hm h1 g
  · subst g; exact C
  · exact brace_low (within s pos m hp g h2 hm)
theorem skipB {s : ByteArray} {o pos : Nat} (hp : pos < s.size) (C : s[pos] ≠ 125) (hno : ∀ m (hm : m < s.size), o < m → m < pos → s[m] ≠ 125) : ∀ m (hm : m < s.size), o < m → m < pos + (Utf8.decode s pos).2 → s[m] ≠ 125 := by
  intro m hm h1 h2
  rcases Nat.lt_trichotomy m pos with g | g | g
  · exact hno m hm h1 g
  · subst g; exact C
  · exact fun e => brace_low (within s pos m hp g h2 hm) (Or.inr e)
theorem rune_eq {s : ByteArray} {pos : Nat} (hp : pos < s.size) {c : Nat} (hc : c < 128) {b : UInt8} (hb : b.toNat = c) : (((Utf8.decode s pos).1 : Int) == (c : Int)) = decide (s[pos] = b) := by
  rw [Bool.eq_iff_iff, beq_iff_eq, decide_eq_true_iff]
  rw [show (((Utf8.decode s pos).1 : Int) = (c : Int)) ↔ (Utf8.decode s pos).1 = c by omega, low_iff s pos c hp hc]
  constructor
  · intro e; exact UInt8.toNat_inj.1 (e.trans hb.symm)
  · intro e; rw [e, hb]
theorem rune1 {s : ByteArray} {pos : Nat} (hp : pos < s.size) (h : s[pos].toNat < 128) : (Utf8.decode s pos).2 = 1 := by rw [decode_ascii s pos hp h]
theorem err_close {s : ByteArray} {l : List Pc} {fr pos : Nat} (hfp : fr ≤ pos) (hp : pos < s.size) (c : s[pos] = 125) (HP : ∀ r, Par s fr r → Par s 0 (pre l r)) (hno : ∀ m (hm : m < s.size), fr ≤ m → m < pos → ¬ brace s[m]) : Par s 0 (.error pos) := by
  rcases Nat.lt_or_ge fr pos with g | g
  · exact HP _ (Par.text fr pos _ (by omega) g (by omega) hno (fun _ => Or.inr c) (Par.closes pos hp c))
  · obtain rfl : fr = pos := by omega
    exact HP _ (Par.closes fr hp c)
theorem err_place {s : ByteArray} {l : List Pc} {o pos : Nat} (hop : o < pos) (hp : pos < s.size) (c : s[pos] = 125) (ho : ∃ ho : o < s.size, s[o] = 123) (HP : ∀ r, Par s o r → Par s 0 (pre l r)) (hno : ∀ m (hm : m < s.size), o < m → m < pos → s[m] ≠ 125)
    (hq : placeOf (s.extract (o + 1) pos).data.toList = none) : Par s 0 (.error o) := by
  obtain ⟨ho, c0⟩ := ho
  exact HP _ (Par.badplace o pos ho c0 hop hp c hno hq)
theorem ok_place {s : ByteArray} {l : List Pc} {o pos m : Nat} (hop : o < pos) (hp : pos < s.size) (c : s[pos] = 125) (ho : ∃ ho : o < s.size, s[o] = 123) (HP : ∀ r, Par s o r → Par s 0 (pre l r)) (hno : ∀ m (hm : m < s.size), o < m → m < pos → s[m] ≠ 125)
    (hq : placeOf (s.extract (o + 1) pos).data.toList = some m) : Mode s (l ++ [Pc.mk 2 ⟨#[]⟩ m]) (pos + 1) (pos + 1) (-1) := by
  obtain ⟨ho, c0⟩ := ho
  refine Or.inl ⟨rfl, fun r hr => ?_, fun m hm h1 h2 => by omega⟩
  rw [← pre_pre]
  exact HP _ (Par.opens o pos m r ho c0 hop hp c hno hq hr)
theorem err_open {s : ByteArray} {l : List Pc} {o pos : Nat} (hp : pos = s.size) (ho : ∃ ho : o < s.size, s[o] = 123) (HP : ∀ r, Par s o r → Par s 0 (pre l r)) (hno : ∀ m (hm : m < s.size), o < m → m < pos → s[m] ≠ 125) : Par s 0 (.error o) := by
  obtain ⟨ho, c0⟩ := ho
  exact HP _ (Par.noclose o ho c0 (fun k hk h => hno k hk h (by omega)))
theorem ok_end {s : ByteArray} {l : List Pc} {fr : Nat} (hf : ¬ fr < s.size) (HP : ∀ r, Par s fr r → Par s 0 (pre l r)) : Par s 0 (.ok l) := par_end HP hf
theorem ok_end_text {s : ByteArray} {l : List Pc} {fr pos : Nat} (hf : fr < pos) (hp : pos = s.size) (HP : ∀ r, Par s fr r → Par s 0 (pre l r)) (hno : ∀ m (hm : m < s.size), fr ≤ m → m < pos → ¬ brace s[m]) : Par s 0 (.ok (l ++ [Pc.mk 1 (s.extract fr pos) 0])) :=
  par_end (par_text HP (by omega) hf (by omega) hno (fun h => absurd h (by omega))) (by omega)
set_option maxRecDepth 100000 in
set_option maxHeartbeats 8000000 in
theorem parse_any (s : ByteArray) (hs : s.size ≤ 281474976710656) (w : World) (hg : GlobP w) : Calls Tryz.prog 38 #[.string s] w (Parsed s w) := by
  by_cases h0 : 4096 < s.size
  · have h1 : (4096 : Int) < s.size := by omega
    go_enter Tryz.func38, Tryz.ntmps38
    go_wp2_with fail
    go_step3
    go_wp2_with fail
    try rw [Exit.noGoto_ret]
    refine bodyPost_ret (v := .tuple #[.slice none 0 0, sp 3 4096]) ?_ rfl (Or.inr ⟨_, _, Or.inl ⟨h0, rfl, rfl⟩, rfl, ?_⟩)
    · simp [sp, results, Tryz.results38, go_sem]
    · exact ((Below.refl _ _).alloc (Nat.le_refl _) _).alloc (by simp) _
  have h1 : s.size ≤ 4096 := by omega
  have HU := utfCheck s (by omega)
  cases hb : brk s 0 with
  | some j =>
    have H := Lib.hid hb
    rw [hb] at HU
    unfold spotV at HU
    clear hb
    go_enter Tryz.func38, Tryz.ntmps38
    go_wp2_with fail
    go_step3
    go_wp2_with fail
    refine (HU _).mono ?_
    rintro e w1 ⟨rfl, hb1⟩
    go_wp2_with fail
    have hB3 := (Blk.new (w.alloc (.cells #[.string s] 9)) 72 #[.int .i64 0, .int .i64 0]).below hb1 (by simp)
    simp only [World.size_alloc] at hB3
    have c0 := hB3.at_ 0 (v := .int .i64 0) rfl
    have c1 := hB3.at_ 1 (v := .int .i64 0) rfl
    have f0 := hB3.frozen
    have hlt := hB3.lt
    have hbw : Below w.heap.size w w1 := (((Below.refl _ w).alloc (Nat.le_refl _) _).alloc (by simp) _).trans (hb1.mono (by simp; omega))
    go_region
    all_goals
      go_wp2_with fail
      try rw [Exit.noGoto_ret]
      refine bodyPost_ret (v := .tuple #[.slice none 0 0, sp 6 j]) ?_ rfl (Or.inr ⟨_, _, Or.inr (Or.inl ⟨h1, j, H.out, rfl, rfl⟩), rfl, ?_⟩)
      · simp [sp, results, Tryz.results38, go_sem, c0, c1, hlt]
      · repeat' (first | (with_reducible exact hbw) | (with_reducible refine Below.setCell ?_ ?_ _) | (with_reducible refine Below.alloc ?_ ?_ _) | (with_reducible refine blw_drew ?_) | (with_reducible refine blw_drewN ?_ _) | (simp; done) | (simp; omega))
  | none =>
    have H := Lib.hid hb
    rw [hb] at HU
    unfold spotV at HU
    clear hb
    go_enter Tryz.func38, Tryz.ntmps38
    go_wp2_with fail
    go_step3
    go_wp2_with fail
    refine (HU _).mono ?_
    rintro e w1 ⟨rfl, hb1⟩
    have hB1 := ((Blk.new w 9 #[.string s]).alloc (.cells #[.int .i64 0, .int .i64 0] 72)).below hb1 (by simp; omega)
    have hB3 := (Blk.new (w.alloc (.cells #[.string s] 9)) 72 #[.int .i64 0, .int .i64 0]).below hb1 (by simp)
    simp only [World.size_alloc] at hB3
    have hbw : Below w.heap.size w w1 := (((Below.refl _ w).alloc (Nat.le_refl _) _).alloc (by simp) _).trans (hb1.mono (by simp; omega))
    have hg1 : GlobP w1 := hg.below hbw hg.size
    have hlt := hB3.lt
    have hlt0 := hB1.lt
    have d0 := hB1.at_ 0 (v := .string s) rfl
    have d3 := (((hB1.alloc (.cells #[.int .i64 0, .int .i64 0] 72)).alloc (.cells #[.slice none 0 0] 82)).alloc (.cells #[.int .i64 0] 3)).at_ 0 (v := .string s) rfl
    clear hb1 hg
    go_wp2_with fail
    go_step3
    go_wp2_with fail
    clear d0 d3
    go_loopw [7] (fun u wr => ∃ (pos fr : Nat) (op : Int) (l : List Pc) (v : Value), u = .int .i64 op ∧ wr.heap[w1.heap.size + 1 + 1 + 1]? = some (.stringIter s pos) ∧ Blk wr w.heap.size 9 #[.string s] ∧ Blk wr (w.heap.size + 1) 72 #[.int .i64 0, .int .i64 0] ∧ Blk wr (w1.heap.size + 1) 82 #[v] ∧ Blk wr (w1.heap.size + 1 + 1) 3 #[.int .i64 fr] ∧ wr.ownsRow w1.heap.size 100 3 v l.length (pcells l) ∧ Below w1.heap.size w1 wr ∧ fr ≤ pos ∧ pos ≤ s.size ∧ l.length ≤ pos ∧ Mode s l fr pos op) (fun _ wr => s.size - wr.iterPos (w1.heap.size + 1 + 1 + 1))
    case atStart =>
      refine ⟨0, 0, -1, [], .slice none 0 0, rfl, ?_, ((hB1.alloc _).alloc _).alloc _ |>.alloc _, ((hB3.alloc _).alloc _).alloc _ |>.alloc _, ?_, ?_, ⟨rfl, Or.inl ⟨rfl, rfl⟩⟩, ((((Below.refl _ w1).alloc (Nat.le_refl _) _).alloc (by simp) _).alloc (by simp; omega) _).alloc (by simp; omega) _, by omega, by omega, by simp, Or.inl ⟨rfl, fun r h => by rw [pre_nil]; exact h, fun m hm h1 h2 => by omega⟩⟩
      · have := World.iter_heap (((w1.alloc (.cells #[.int .i64 0, .int .i64 0] 72)).alloc (.cells #[.slice none 0 0] 82)).alloc (.cells #[.int .i64 0] 3)) s 0
        simpa using this
      · have := ((Blk.new (w1.alloc (.cells #[.int .i64 0, .int .i64 0] 72)) 82 #[.slice none 0 0]).alloc (.cells #[.int .i64 0] 3)).alloc (.stringIter s 0)
        simp only [World.size_alloc] at this
        exact this
      · have := (Blk.new ((w1.alloc (.cells #[.int .i64 0, .int .i64 0] 72)).alloc (.cells #[.slice none 0 0] 82)) 3 #[.int .i64 0]).alloc (.stringIter s 0)
        simp only [World.size_alloc] at this
        exact this
    case round =>
      obtain ⟨pos, fr, op, l, v, rfl, hit, b1, b3, bL, bF, hown, hbe, hfp, hp, hl, hm⟩ := hrel
      have hsz : w1.heap.size + 1 + 1 + 1 < wr.heap.size := (Array.getElem?_eq_some_iff.1 hit).1
      have hl9 : l.length ≤ 1000000000000 := by omega
      by_cases hpos : pos < s.size
      · have hnx : ∀ ty, (Instr.next (.pointer (some ⟨w1.heap.size + 1 + 1 + 1, 0, none⟩)) true ty).run Tryz.prog wr = _ := fun ty => Lib.run_next_any_at wr (w1.heap.size + 1 + 1 + 1) s pos ty hit hpos
        have n1 := Ph.w1 s pos
        have n2 := wIn s pos hpos
        have n3 := decode_le s pos
        have r123 := rune_eq hpos (c := 123) (by omega) (b := 123) rfl
        have r125 := rune_eq hpos (c := 125) (by omega) (b := 125) rfl
        have it2 := Lib.iterAt_heap wr (w1.heap.size + 1 + 1 + 1) s pos (pos + (Utf8.decode s pos).2) hit
        have b1i := b1.iterAt hit (pos + (Utf8.decode s pos).2)
        have b3i := b3.iterAt hit (pos + (Utf8.decode s pos).2)
        have bLi := bL.iterAt hit (pos + (Utf8.decode s pos).2)
        have bFi := bF.iterAt hit (pos + (Utf8.decode s pos).2)
        have owi := own_iterAt hown hit (pos + (Utf8.decode s pos).2)
        have bei := Lib.below_iterAt hbe (k := w1.heap.size + 1 + 1 + 1) (by omega) s (pos + (Utf8.decode s pos).2)
        rcases hm with ⟨rfl, HP, hno⟩ | ⟨o, rfl, hfo, hop, hoo, HP, hno⟩
        · by_cases c1 : s[pos] = 123
          · have t1 : (((Utf8.decode s pos).1 : Int) == 123) = true := by rw [show (123 : Int) = ((123 : Nat) : Int) from rfl, r123]; simpa using c1
            have w1e := rune1 hpos (by rw [c1]; decide)
            rcases Nat.lt_or_ge fr pos with g | g
            · have HC := clo_yes s fr pos _ _ _ w1.heap.size v l _ bFi bLi b1i owi bei.size hl9 g (by omega) hs
              have HM := Lib.hid (show Mode s (l ++ [Pc.mk 1 (s.extract fr pos) 0]) fr (pos + (Utf8.decode s pos).2) pos from Or.inr ⟨pos, rfl, hfp, by omega, ⟨hpos, c1⟩, par_text HP (by omega) g (by omega) hno (fun _ => Or.inl c1), fun m hm h1 h2 => by omega⟩)
              clear r123 r125 c1 HP hno w1e
              go_wp2_with fail
              refine HC.mono ?_
              rintro e w2 ⟨rfl, v2, bL2, ow2, hT⟩
              have it3 := (hT.block _ (by rw [Lib.iterAt_size]; exact hsz) (own_iter_ne owi it2) (by omega)).trans it2
              have b12 := hT.blk b1i (own_blk_ne owi b1i (by decide)).symm (by omega)
              have b32 := hT.blk b3i (own_blk_ne owi b3i (by decide)).symm (by omega)
              have bF2 := hT.blk bFi (own_blk_ne owi bFi (by decide)).symm (by omega)
              have be2 := hT.below bei bei.size (fun k hk => (owi.lt k hk).1) (by omega)
              clear hT
              go_wp2_with fail
              go_roundw
              case rel => exact ⟨pos + (Utf8.decode s pos).2, fr, pos, _, v2, rfl, it3, b12, b32, bL2, bF2, ow2, be2, by omega, n2, by simp; omega, HM.out⟩
              case measure =>
                simp only [World.iterPos, it3, hit]
                omega
            · obtain rfl : fr = pos := by omega
              have HC := clo_no (fr : Int) fr _ (w1.heap.size + 1) w.heap.size _ bFi (by omega)
              have HM := Lib.hid (show Mode s l fr (fr + (Utf8.decode s fr).2) fr from Or.inr ⟨fr, rfl, hfp, by omega, ⟨hpos, c1⟩, HP, fun m hm h1 h2 => by omega⟩)
              clear r123 r125 c1 HP hno w1e
              go_wp2_with fail
              refine HC.mono ?_
              rintro e w2 ⟨rfl, rfl⟩
              go_wp2_with fail
              go_roundw
              case rel => exact ⟨fr + (Utf8.decode s fr).2, fr, fr, l, v, rfl, it2, b1i, b3i, bLi, bFi, owi, bei, by omega, n2, by omega, HM.out⟩
              case measure =>
                simp only [World.iterPos, it2, hit]
                omega
          by_cases c2 : s[pos] = 125
          · have t1 : (((Utf8.decode s pos).1 : Int) == 123) = false := by rw [show (123 : Int) = ((123 : Nat) : Int) from rfl, r123]; simpa using c1
            have t2 : (((Utf8.decode s pos).1 : Int) == 125) = true := by rw [show (125 : Int) = ((125 : Nat) : Int) from rfl, r125]; simpa using c2
            have E := Lib.hid (err_close hfp hpos c2 HP hno)
            have d0 := b3i.at_ 0 (v := .int .i64 0) rfl
            have d1 := b3i.at_ 1 (v := .int .i64 0) rfl
            have df := b3i.frozen
            clear r123 r125 c1 c2 HP hno
            go_wp2_with fail
            try rw [Exit.noGoto_ret]
            refine bodyPost_ret (v := .tuple #[.slice none 0 0, sp 280 pos]) ?_ rfl (Or.inr ⟨_, _, Or.inr (Or.inr ⟨h1, H.out, pos, E.out, rfl, rfl⟩), rfl, ?_⟩)
            · simp [sp, results, Tryz.results38, go_sem, d0, d1]
            · exact (((hbw.trans (bei.mono hbw.size))).setCell (by simp) _).setCell (by simp) _
          · have t1 : (((Utf8.decode s pos).1 : Int) == 123) = false := by rw [show (123 : Int) = ((123 : Nat) : Int) from rfl, r123]; simpa using c1
            have t2 : (((Utf8.decode s pos).1 : Int) == 125) = false := by rw [show (125 : Int) = ((125 : Nat) : Int) from rfl, r125]; simpa using c2
            have HM := Lib.hid (show Mode s l fr (pos + (Utf8.decode s pos).2) (-1) from Or.inl ⟨rfl, HP, skipA hpos (fun e => e.elim c1 c2) hno⟩)
            clear r123 r125 c1 c2 HP hno
            go_wp2_with fail
            go_roundw
            case rel => exact ⟨pos + (Utf8.decode s pos).2, fr, -1, l, v, rfl, it2, b1i, b3i, bLi, bFi, owi, bei, by omega, n2, by omega, HM.out⟩
            case measure =>
              simp only [World.iterPos, it2, hit]
              omega
        · by_cases c2 : s[pos] = 125
          · have t2 : (((Utf8.decode s pos).1 : Int) == 125) = true := by rw [show (125 : Int) = ((125 : Nat) : Int) from rfl, r125]; simpa using c2
            have t1 : (((Utf8.decode s pos).1 : Int) == 123) = false := by rw [show (123 : Int) = ((123 : Nat) : Int) from rfl, r123]; simp [c2]
            have w1e := rune1 hpos (by rw [c2]; decide)
            have q1 : o + 1 ≤ pos := by omega
            have q2 : pos ≤ s.size := hp
            have hes : (s.extract (o + 1) pos).size ≤ 281474976710656 := by rw [ByteArray.size_extract]; omega
            cases hq : placeOf (s.extract (o + 1) pos).data.toList with
            | none =>
              have HN := place_no (s.extract (o + 1) pos) hes hq _ (hg1.below bei hg1.size)
              have E := Lib.hid (err_place hop hpos c2 hoo HP hno hq)
              have d0 := b3i.at_ 0 (v := .int .i64 0) rfl
              have d1 := b3i.at_ 1 (v := .int .i64 0) rfl
              have df := b3i.frozen
              have db := b1i.at_ 0 (v := .string s) rfl
              clear r123 r125 c2 HP hno w1e hes hq hoo
              go_wp2_with fail
              refine HN.mono ?_
              rintro e w2 ⟨n, rfl, hb2⟩
              have b32 := b3i.below hb2 b3i.lt
              have d02 := b32.at_ 0 (v := .int .i64 0) rfl
              have d12 := b32.at_ 1 (v := .int .i64 0) rfl
              have df2 := b32.frozen
              have be2 := bei.trans (hb2.mono bei.size)
              go_wp2_with fail
              try rw [Exit.noGoto_ret]
              refine bodyPost_ret (v := .tuple #[.slice none 0 0, sp 280 o]) ?_ rfl (Or.inr ⟨_, _, Or.inr (Or.inr ⟨h1, H.out, o, E.out, rfl, rfl⟩), rfl, ?_⟩)
              · simp [sp, results, Tryz.results38, go_sem, d02, d12]
              · exact (((hbw.trans (be2.mono hbw.size))).setCell (by simp) _).setCell (by simp) _
            | some m =>
              have HN := place_yes (s.extract (o + 1) pos) m hq ((wr.iterAt (w1.heap.size + 1 + 1 + 1) s (pos + (Utf8.decode s pos).2)))
              have HM := Lib.hid (ok_place hop hpos c2 hoo HP hno hq)
              have HW := Lib.hid w1e
              have db := b1i.at_ 0 (v := .string s) rfl
              clear r123 r125 c2 HP hno w1e hes hq hoo
              go_wp2_with fail
              refine HN.mono ?_
              rintro e w2 ⟨rfl, hb2⟩
              have b12 := b1i.below hb2 b1i.lt
              have b32 := b3i.below hb2 b3i.lt
              have bL2 := bLi.below hb2 bLi.lt
              have bF2 := bFi.below hb2 bFi.lt
              have ow2 := own_below owi hb2
              have be2 := bei.trans (hb2.mono bei.size)
              have it4 := (hb2.block _ (by rw [Lib.iterAt_size]; exact hsz)).trans it2
              have dL := bL2.at_ 0 (v := v) rfl
              have dLf := bL2.frozen
              clear hb2
              go_wp2_with (first | (at_builtin; refine wpPieceS rfl (.tmp 59) (.tmp 62) rfl w1.heap.size w2 v l (Pc.mk 2 ⟨#[]⟩ m) rfl ow2 rfl hl9 be2.size ?_; intro gg cap w3 ow3 hg3; have bL3 := (bL2.alloc (.cells #[.int .i64 2, .string ⟨#[]⟩, .int .i64 m] 100)).grown hg3 (own_blk_ne ow2 bL2 (by decide)).symm; have bF3 := (bF2.alloc (.cells #[.int .i64 2, .string ⟨#[]⟩, .int .i64 m] 100)).grown hg3 (own_blk_ne ow2 bF2 (by decide)).symm; have eL := bL3.at_ 0 (v := v) rfl; have eLf := bL3.frozen; have eF := bF3.at_ 0 (v := .int .i64 fr) rfl; have eFf := bF3.frozen))
              have b13 := (b12.alloc (.cells #[.int .i64 2, .string ⟨#[]⟩, .int .i64 m] 100)).grown hg3 (own_blk_ne ow2 b12 (by decide)).symm
              have b33 := (b32.alloc (.cells #[.int .i64 2, .string ⟨#[]⟩, .int .i64 m] 100)).grown hg3 (own_blk_ne ow2 b32 (by decide)).symm
              have it5 := (hg3.block (w1.heap.size + 1 + 1 + 1) (by simp; have := (Array.getElem?_eq_some_iff.1 it4).1; omega) (own_iter_ne ow2 it4)).trans ((Below.heap_alloc w2 _ _ (Array.getElem?_eq_some_iff.1 it4).1).trans it4)
              have be3 := (be2.alloc be2.size (.cells #[.int .i64 2, .string ⟨#[]⟩, .int .i64 m] 100)).grown hg3 (by simp; have := be2.size; omega) (fun k hk => (ow2.lt k hk).1)
              have X1 := (bL3.set_ 0 (.slice (some ⟨gg, 0, none⟩) (l.length + 1) cap)).far (p := ⟨w1.heap.size + 1 + 1, 0, none⟩) (by simp) (.int .i64 (pos + 1))
              have X2 := (bF3.far (p := ⟨w1.heap.size + 1, 0, none⟩) (by simp) (.slice (some ⟨gg, 0, none⟩) (l.length + 1) cap)).set_ 0 (.int .i64 (pos + 1))
              have X3 := (b13.far (p := ⟨w1.heap.size + 1, 0, none⟩) (by show w.heap.size ≠ w1.heap.size + 1; omega) (.slice (some ⟨gg, 0, none⟩) (l.length + 1) cap)).far (p := ⟨w1.heap.size + 1 + 1, 0, none⟩) (by show w.heap.size ≠ w1.heap.size + 1 + 1; omega) (.int .i64 (pos + 1))
              have X4 := (b33.far (p := ⟨w1.heap.size + 1, 0, none⟩) (by show w.heap.size + 1 ≠ w1.heap.size + 1; omega) (.slice (some ⟨gg, 0, none⟩) (l.length + 1) cap)).far (p := ⟨w1.heap.size + 1 + 1, 0, none⟩) (by show w.heap.size + 1 ≠ w1.heap.size + 1 + 1; omega) (.int .i64 (pos + 1))
              have X5 := own_far (own_far ow3 (p := ⟨w1.heap.size + 1, 0, none⟩) (own_blk_ne ow3 bL3 (by decide)) (.slice (some ⟨gg, 0, none⟩) (l.length + 1) cap)) (p := ⟨w1.heap.size + 1 + 1, 0, none⟩) (own_blk_ne ow3 bF3 (by decide)) (.int .i64 (pos + 1))
              have X6 := (Below.heap_setCell (w3.setCell ⟨w1.heap.size + 1, 0, none⟩ (.slice (some ⟨gg, 0, none⟩) (l.length + 1) cap)) ⟨w1.heap.size + 1 + 1, 0, none⟩ (.int .i64 (pos + 1)) (w1.heap.size + 1 + 1 + 1) (by show w1.heap.size + 1 + 1 + 1 ≠ w1.heap.size + 1 + 1; omega)).trans ((Below.heap_setCell w3 ⟨w1.heap.size + 1, 0, none⟩ (.slice (some ⟨gg, 0, none⟩) (l.length + 1) cap) (w1.heap.size + 1 + 1 + 1) (by show w1.heap.size + 1 + 1 + 1 ≠ w1.heap.size + 1; omega)).trans it5)
              have X7 := (be3.setCell (p := ⟨w1.heap.size + 1, 0, none⟩) (by show w1.heap.size ≤ w1.heap.size + 1; omega) (.slice (some ⟨gg, 0, none⟩) (l.length + 1) cap)).setCell (p := ⟨w1.heap.size + 1 + 1, 0, none⟩) (by show w1.heap.size ≤ w1.heap.size + 1 + 1; omega) (.int .i64 (pos + 1))
              have HM3 := Lib.hid (show Mode s (l ++ [Pc.mk 2 ⟨#[]⟩ m]) (pos + 1) (pos + (Utf8.decode s pos).2) (-1) by rw [HW.out]; exact HM.out)
              have cast1 : (pos : Int) + 1 = ((pos + 1 : Nat) : Int) := by omega
              rw [cast1] at X1 X2 X3 X4 X5 X6 X7
              have C1 := Lib.hid cast1
              clear cast1 bL3 bF3 b13 b33 ow3 it5 be3 hg3 eL eLf eF eFf
              go_roundw
              case rel =>
                rw [C1.out]
                exact ⟨pos + (Utf8.decode s pos).2, pos + 1, -1, _, _, rfl, X6, X3, X4, X1, X2, X5, X7, by omega, n2, by simp; omega, HM3.out⟩
              case measure =>
                rw [C1.out]
                simp only [World.iterPos, X6, hit]
                omega
          · have t2 : (((Utf8.decode s pos).1 : Int) == 125) = false := by rw [show (125 : Int) = ((125 : Nat) : Int) from rfl, r125]; simpa using c2
            have HM := Lib.hid (show Mode s l fr (pos + (Utf8.decode s pos).2) o from Or.inr ⟨o, rfl, hfo, by omega, hoo, HP, skipB hpos c2 hno⟩)
            clear r123 r125 c2 HP hno hoo
            go_wp2_with fail
            all_goals
              go_roundw
              case rel => exact ⟨pos + (Utf8.decode s pos).2, fr, o, l, v, rfl, it2, b1i, b3i, bLi, bFi, owi, bei, by omega, n2, by omega, HM.out⟩
              case measure =>
                simp only [World.iterPos, it2, hit]
                omega
      · have hnx : ∀ ty, (Instr.next (.pointer (some ⟨w1.heap.size + 1 + 1 + 1, 0, none⟩)) true ty).run Tryz.prog wr = _ := fun ty => Lib.run_next_end_at wr (w1.heap.size + 1 + 1 + 1) s pos ty hit hpos
        have e1 := b3.at_ 0 (v := .int .i64 0) rfl
        have e2 := b3.at_ 1 (v := .int .i64 0) rfl
        have ef := b3.frozen
        rcases hm with ⟨rfl, HP, hno⟩ | ⟨o, rfl, hfo, hop, hoo, HP, hno⟩
        · have hpe : pos = s.size := by omega
          have f1 := b1.at_ 0 (v := .string s) rfl
          rcases Nat.lt_or_ge fr s.size with g | g
          · have HC := clo_yes s fr s.size _ _ _ w1.heap.size v l _ bF bL b1 hown hbe.size hl9 g (by omega) hs
            have E := Lib.hid (ok_end_text g rfl HP (by rw [hpe] at hno; exact hno))
            clear HP hno hpe
            go_wp2_with fail
            refine HC.mono ?_
            rintro e w2 ⟨rfl, v2, bL2, ow2, hT⟩
            have b32 := hT.blk b3 (own_blk_ne hown b3 (by decide)).symm (by omega)
            have be2 := hT.below hbe hbe.size (fun k hk => (hown.lt k hk).1) (by omega)
            have d0 := b32.at_ 0 (v := .int .i64 0) rfl
            have d1 := b32.at_ 1 (v := .int .i64 0) rfl
            have df := b32.frozen
            have dL := bL2.at_ 0 (v := v2) rfl
            clear hT
            go_wp2_with fail
            try rw [Exit.noGoto_ret]
            refine bodyPost_ret (v := .tuple #[v2, sp 0 0]) ?_ rfl (Or.inl ⟨_, v2, ⟨h1, H.out, E.out⟩, rfl, ?_, ?_⟩)
            · simp [sp, results, Tryz.results38, go_sem, d0, d1]
            · refine own_base (own_far (own_far ow2 ?_ _) ?_ _) hbw.size
              · exact own_blk_ne ow2 b32 (by decide)
              · exact own_blk_ne ow2 b32 (by decide)
            · exact (((hbw.trans (be2.mono hbw.size))).setCell (by simp) _).setCell (by simp) _
          · have HC := clo_no (fr : Int) s.size _ (w1.heap.size + 1) w.heap.size _ bF (by omega)
            have E := Lib.hid (ok_end (by omega) HP)
            have dL := bL.at_ 0 (v := v) rfl
            clear HP hno hpe
            go_wp2_with fail
            refine HC.mono ?_
            rintro e w2 ⟨rfl, rfl⟩
            go_wp2_with fail
            try rw [Exit.noGoto_ret]
            refine bodyPost_ret (v := .tuple #[v, sp 0 0]) ?_ rfl (Or.inl ⟨_, v, ⟨h1, H.out, E.out⟩, rfl, ?_, ?_⟩)
            · simp [sp, results, Tryz.results38, go_sem, e1, e2]
            · refine own_base (own_far (own_far hown ?_ _) ?_ _) hbw.size
              · exact own_blk_ne hown b3 (by decide)
              · exact own_blk_ne hown b3 (by decide)
            · exact (((hbw.trans (hbe.mono hbw.size))).setCell (by simp) _).setCell (by simp) _
        · have E := Lib.hid (err_open (by omega) hoo HP hno)
          clear HP hno hoo
          go_wp2_with fail
          try rw [Exit.noGoto_ret]
          refine bodyPost_ret (v := .tuple #[.slice none 0 0, sp 280 o]) ?_ rfl (Or.inr ⟨_, _, Or.inr (Or.inr ⟨h1, H.out, o, E.out, rfl, rfl⟩), rfl, ?_⟩)
          · simp [sp, results, Tryz.results38, go_sem, e1, e2]
          · exact (((hbw.trans (hbe.mono hbw.size))).setCell (by simp) _).setCell (by simp) _
end Go.Proofs.YtpcgcghhddnifaaGreatDoor
