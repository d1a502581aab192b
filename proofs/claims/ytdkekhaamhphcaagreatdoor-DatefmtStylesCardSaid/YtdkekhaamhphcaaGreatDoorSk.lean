/-
  Skeletons and the one form of fields, in plain Lean. No condition.
-/
import Derived.WalkKit
set_option linter.unusedVariables false
namespace Go.Proofs.YtdkekhaamhphcaaGreatDoor
/-- a field: its letter, how many times it stands, a text -/
structure Fd where
  b : UInt8
  n : Int
  t : ByteArray
def rankN (n : Nat) : Nat :=
  if n = 71 then 1 else if n = 121 then 2 else if n = 77 ∨ n = 76 then 3 else if n = 119 then 4 else if n = 69 ∨ n = 99 then 5 else if n = 100 then 6 else if n = 68 then 7 else if n = 97 ∨ n = 98 then 8
  else if n = 104 ∨ n = 72 ∨ n = 75 ∨ n = 107 then 9 else if n = 109 then 10 else if n = 115 then 11 else if n = 83 then 12 else if n = 90 ∨ n = 120 then 13 else 0
def mostN (r : Nat) : Nat := [0, 5, 9, 5, 2, 6, 2, 3, 5, 2, 2, 2, 9, 5].getD r 0
def plainN (n : Nat) : Nat := if n = 76 then 77 else if n = 99 then 69 else if n = 75 then 104 else if n = 107 then 72 else if n = 120 then 90 else n
def lettersT (r : Nat) : List UInt8 := [[], [71], [121], [77, 76], [119], [69, 99], [100], [68], [97, 98], [104, 72, 75, 107], [109], [115], [83], [90, 120]].getD r []
theorem rank_lt : ∀ n, n < 256 → rankN n ≤ 13 := by decide +kernel
theorem rankN_le (b : UInt8) : rankN b.toNat ≤ 13 := rank_lt _ (UInt8.toNat_lt b)
theorem mostN_le : ∀ r, r ≤ 13 → mostN r ≤ 9 := by decide
theorem rank_asc : ∀ n, n < 256 → rankN n ≠ 0 → 65 ≤ n ∧ n < 123 := by decide +kernel
theorem rank_ascii {b : UInt8} (h : rankN b.toNat ≠ 0) : 65 ≤ b.toNat ∧ b.toNat < 123 := rank_asc _ (UInt8.toNat_lt b) h
theorem rank_letters : ∀ r, r < 14 → ∀ b, b ∈ lettersT r → rankN b.toNat = r := by decide +kernel
theorem letters_ne : ∀ r, r < 14 → 1 ≤ r → lettersT r ≠ [] := by decide
theorem rank_mem : ∀ n, n < 256 → rankN n ≠ 0 → UInt8.ofNat n ∈ lettersT (rankN n) := by decide +kernel
theorem rank_none {b : UInt8} (h : ∀ r, 1 ≤ r → r < 14 → b ∉ lettersT r) : rankN b.toNat = 0 := by
  refine Classical.byContradiction fun hn => ?_
  have h1 := rank_mem b.toNat (UInt8.toNat_lt b) hn
  have h2 := rankN_le b
  rw [UInt8.ofNat_toNat] at h1
  exact h (rankN b.toNat) (by omega) (by omega) h1
theorem plain_asc : ∀ n, n < 256 → 65 ≤ n → n < 123 → 65 ≤ plainN n ∧ plainN n < 123 := by decide +kernel
theorem plain_ascii (n : Nat) (h1 : 65 ≤ n) (h2 : n < 123) : 65 ≤ plainN n ∧ plainN n < 123 := plain_asc n (by omega) h1 h2
theorem plain_letters : ∀ n, n < 256 → rankN n ≠ 0 → rankN n ≠ 8 → rankN n ≠ 9 → (lettersT (rankN n)).headD 0 = UInt8.ofNat (plainN n) := by decide +kernel
/-- how many times the byte at a place stands there -/
def runAt (s : ByteArray) (a : Nat) : Nat := ((s.data.toList.drop a).takeWhile (· == (s.data.toList.drop a).headD 0)).length
theorem tw_len {α : Type} (p : α → Bool) : ∀ (l : List α) (n : Nat), n ≤ l.length → (∀ (j : Nat) (h : j < l.length), j < n → p l[j] = true) → (∀ h : n < l.length, p l[n] = false) → (l.takeWhile p).length = n
  | [], n, h, _, _ => by simp at h; simp [h]
  | a :: l, 0, _, _, h => by
    have := h (by simp)
    simp at this
    simp [List.takeWhile, this]
  | a :: l, n + 1, h, h1, h2 => by
    have ha := h1 0 (by simp) (by omega)
    simp at ha
    simp only [List.takeWhile, ha, List.length_cons]
    rw [tw_len p l n (by simpa using h) (fun j hj hn => by have := h1 (j + 1) (by simp; omega) (by omega); simpa using this) (fun hn => by have := h2 (by simp; omega); simpa using this)]
theorem get_list (s : ByteArray) (i : Nat) (h : i < s.size) (h2 : i < s.data.toList.length) : s.data.toList[i] = s[i] := by
  rw [Array.getElem_toList]
  rfl
theorem size_list (s : ByteArray) : s.data.toList.length = s.size := Array.length_toList
theorem runAt_eq {s : ByteArray} {a n : Nat} (h : a < s.size) (hn : 0 < n) (hle : a + n ≤ s.size) (hall : ∀ (j : Nat) (hj : j < s.size), a ≤ j → j < a + n → s[j] = s[a]) (hend : ∀ hj : a + n < s.size, s[a + n] ≠ s[a]) : runAt s a = n := by
  have hl := size_list s
  have hd : (s.data.toList.drop a).headD 0 = s[a] := by
    rw [List.drop_eq_getElem_cons (by omega)]
    show s.data.toList[a] = _
    exact get_list s a h (by omega)
  unfold runAt
  rw [hd]
  refine tw_len _ _ _ (by simp only [List.length_drop]; omega) (fun j hj hjn => ?_) (fun hj => ?_)
  · simp only [List.length_drop] at hj
    simp only [List.getElem_drop]
    rw [get_list s (a + j) (by omega) (by omega), hall (a + j) (by omega) (by omega) (by omega)]
    simp
  · simp only [List.length_drop] at hj
    simp only [List.getElem_drop]
    rw [get_list s (a + n) (by omega) (by omega)]
    have := hend (by omega)
    simpa using this
theorem tw_le {α : Type} (p : α → Bool) (l : List α) : (l.takeWhile p).length ≤ l.length := (List.takeWhile_prefix p).length_le
theorem runAt_le {s : ByteArray} {a : Nat} (h : a < s.size) : a + runAt s a ≤ s.size := by
  have := tw_le (· == (s.data.toList.drop a).headD 0) (s.data.toList.drop a)
  have hl := size_list s
  simp only [List.length_drop] at this
  unfold runAt
  omega
theorem runAt_pos {s : ByteArray} {a : Nat} (h : a < s.size) : 0 < runAt s a := by
  have hl := size_list s
  unfold runAt
  rw [List.drop_eq_getElem_cons (by omega)]
  simp [List.takeWhile]
/-- is a run of a byte wrong in a skeleton, behind one of a rank? -/
def runBad (b : UInt8) (n last : Nat) : Bool := decide (rankN b.toNat ≤ last) || (decide (rankN b.toNat = 8) || decide (mostN (rankN b.toNat) < n))
/-- a skeleton's fields; or the place of what is wrong -/
def skelF (s : ByteArray) : Nat → Nat → Nat → List Fd → Sum Nat (List Fd)
  | 0, _, _, acc => .inr acc
  | f + 1, a, last, acc =>
    if h : a < s.size then
      if runBad s[a] (runAt s a) last = true then .inl a
      else skelF s f (a + runAt s a) (rankN s[a].toNat) (acc ++ [⟨UInt8.ofNat (plainN s[a].toNat), runAt s a, ⟨#[]⟩⟩])
    else .inr acc
def skelR (s : ByteArray) : Sum Nat (List Fd) := skelF s (s.size + 1) 0 0 []
theorem skel_bad {s : ByteArray} {f a last : Nat} {acc : List Fd} {R : Sum Nat (List Fd)} (hR : skelF s f a last acc = R) (hf : s.size - a < f) (h : a < s.size) (hb : runBad s[a] (runAt s a) last = true) : R = .inl a := by
  cases f with
  | zero => omega
  | succ f => rw [← hR]; unfold skelF; rw [dif_pos h, if_pos hb]
theorem skel_go {s : ByteArray} {f a last : Nat} {acc : List Fd} {R : Sum Nat (List Fd)} (hR : skelF s f a last acc = R) (hf : s.size - a < f) (h : a < s.size) (hb : runBad s[a] (runAt s a) last = false) :
    skelF s (f - 1) (a + runAt s a) (rankN s[a].toNat) (acc ++ [⟨UInt8.ofNat (plainN s[a].toNat), runAt s a, ⟨#[]⟩⟩]) = R ∧ s.size - (a + runAt s a) < f - 1 := by
  have hp := runAt_pos h
  cases f with
  | zero => omega
  | succ f =>
    unfold skelF at hR
    rw [dif_pos h, if_neg (by simp [hb])] at hR
    exact ⟨hR, by simp only [Nat.add_sub_cancel]; omega⟩
theorem skel_end {s : ByteArray} {f a last : Nat} {acc : List Fd} {R : Sum Nat (List Fd)} (hR : skelF s f a last acc = R) (h : ¬ a < s.size) : R = .inr acc := by
  cases f with
  | zero => rw [← hR]; rfl
  | succ f => rw [← hR]; unfold skelF; rw [dif_neg h]
/-- fields of a skeleton -/
def SkOk (l : List Fd) : Prop := ∀ x ∈ l, (65 ≤ x.b.toNat ∧ x.b.toNat < 123) ∧ (1 ≤ x.n ∧ x.n ≤ 9) ∧ x.t = ⟨#[]⟩
theorem SkOk.snoc {l : List Fd} (h : SkOk l) {b : UInt8} {n last : Nat} (hn : 0 < n) (hb : runBad b n last = false) : SkOk (l ++ [⟨UInt8.ofNat (plainN b.toNat), (n : Nat), ⟨#[]⟩⟩]) := by
  intro x hx
  rcases List.mem_append.1 hx with hx | hx
  · exact h x hx
  · rw [List.mem_singleton] at hx
    subst hx
    unfold runBad at hb
    simp only [Bool.or_eq_false_iff, decide_eq_false_iff_not] at hb
    obtain ⟨h1, h2, h3⟩ := hb
    have h4 := rank_ascii (b := b) (by omega)
    have h5 := plain_ascii b.toNat h4.1 h4.2
    have h6 := mostN_le (rankN b.toNat) (rankN_le b)
    refine ⟨?_, ⟨by show 1 ≤ (n : Int); omega, by show (n : Int) ≤ 9; omega⟩, rfl⟩
    show 65 ≤ (UInt8.ofNat (plainN b.toNat)).toNat ∧ _
    rw [show (UInt8.ofNat (plainN b.toNat)).toNat = plainN b.toNat % 256 from UInt8.toNat_ofNat', Nat.mod_eq_of_lt (by omega)]
    exact h5
theorem bad_rank {b : UInt8} {n last : Nat} (hb : runBad b n last = false) : last < rankN b.toNat := by
  unfold runBad at hb
  simp only [Bool.or_eq_false_iff, decide_eq_false_iff_not] at hb
  omega
theorem skel_ok (s : ByteArray) : ∀ (f a last : Nat) (acc l : List Fd), skelF s f a last acc = .inr l → SkOk acc → acc.length ≤ last → last ≤ 13 → SkOk l ∧ l.length ≤ 13
  | 0, a, last, acc, l, h, h1, h2, h3 => by
    unfold skelF at h
    obtain rfl := Sum.inr.inj h
    exact ⟨h1, by omega⟩
  | f + 1, a, last, acc, l, h, h1, h2, h3 => by
    unfold skelF at h
    by_cases ha : a < s.size
    · rw [dif_pos ha] at h
      cases hb : runBad s[a] (runAt s a) last with
      | true => rw [hb, if_pos rfl] at h; simp at h
      | false =>
        rw [hb] at h
        simp only [Bool.false_eq_true, if_false] at h
        have h5 := bad_rank hb
        exact skel_ok s f _ _ _ l h (h1.snoc (runAt_pos ha) hb) (by simp; omega) (rankN_le _)
    · rw [dif_neg ha] at h
      obtain rfl := Sum.inr.inj h
      exact ⟨h1, by omega⟩
theorem skelR_ok {s : ByteArray} {l : List Fd} (h : skelR s = .inr l) : SkOk l ∧ l.length ≤ 13 := skel_ok s _ _ _ _ _ h (fun x hx => by cases hx) (by simp) (by omega)
/-- a letter so many times -/
def repB (b : UInt8) (n : Nat) : ByteArray := ⟨(List.replicate n b).toArray⟩
/-- the one form of a skeleton's fields -/
def formT (l : List Fd) : ByteArray := l.foldl (fun a x => a ++ repB x.b x.n.toNat) ⟨#[]⟩
theorem formT_snoc (l : List Fd) (x : Fd) : formT (l ++ [x]) = formT l ++ repB x.b x.n.toNat := by simp [formT]
theorem formT_take {l : List Fd} {i : Nat} (h : i < l.length) : formT (l.take (i + 1)) = formT (l.take i) ++ repB l[i].b l[i].n.toNat := by
  rw [List.take_succ_eq_append_getElem h, formT_snoc]
theorem repB_size (b : UInt8) (n : Nat) : (repB b n).size = n := by simp [repB, ByteArray.size]
theorem repB_succ (b : UInt8) (n : Nat) (a : ByteArray) : (a ++ repB b n) ++ ⟨#[b]⟩ = a ++ repB b (n + 1) := by
  rw [ByteArray.append_assoc]
  congr 1
  unfold repB
  rw [List.replicate_succ']
  apply ByteArray.ext
  rw [ByteArray.data_append, ← Array.toList_inj]
  simp
theorem repB_zero (b : UInt8) (a : ByteArray) : a ++ repB b 0 = a := by
  apply ByteArray.ext
  simp [repB, ByteArray.data_append]
end Go.Proofs.YtdkekhaamhphcaaGreatDoor
