/-
  Plain: rows of decimal digits, the lowest first or the highest first: sums, halves, what is rounded; the one form of a number. No condition.
  Plain: rows of decimal digits, the lowest first: sums of rows of unlike lengths, which is less, what is rounded, the one form. No condition.
  The reference's Made at any row of digits: the decimal of a row. Conditions: sizes.
-/
import Derived.Lib.ItoaNum
import Derived.Test.YtjmebclcmpfdmaaGreatDoorGa
import Derived.Lib.ItoaMem
import Derived.Lib.ConvBytes
import Derived.Deep.OwnRows
import Derived.Laws.OwnMore
import Derived.Deep.AppendLies
import Derived.Lib.SliceRun
import Derived.OwnWalk
set_option linter.unusedVariables false
set_option linter.unusedSimpArgs false
namespace Go.Fl
open Go
def vL : List Nat → Nat
  | [] => 0
  | d :: l => d + 10 * vL l
def Dig (l : List Nat) : Prop := ∀ d ∈ l, d < 10
theorem dig_nil : Dig [] := fun _ h => by cases h
theorem dig_cons {d : Nat} {l : List Nat} : Dig (d :: l) ↔ d < 10 ∧ Dig l := by simp [Dig]
theorem dig_app {l m : List Nat} : Dig (l ++ m) ↔ Dig l ∧ Dig m := by
  unfold Dig
  constructor
  · intro h
    exact ⟨fun d hd => h d (List.mem_append_left _ hd), fun d hd => h d (List.mem_append_right _ hd)⟩
  · rintro ⟨h1, h2⟩ d hd
    rcases List.mem_append.1 hd with h | h
    · exact h1 d h
    · exact h2 d h
theorem dig_rev {l : List Nat} : Dig l.reverse ↔ Dig l := by simp [Dig]
theorem dig_get {l : List Nat} (h : Dig l) {k : Nat} (hk : k < l.length) : l[k] < 10 := h _ (List.getElem_mem hk)
theorem dig_rep (n : Nat) : Dig (List.replicate n 0) := fun d hd => by rw [List.eq_of_mem_replicate hd]; decide
theorem vL_app (l m : List Nat) : vL (l ++ m) = vL l + 10 ^ l.length * vL m := by
  induction l with
  | nil => simp [vL]
  | cons d l ih =>
    simp only [List.cons_append, vL, ih, List.length_cons, Nat.pow_succ]
    rw [Nat.mul_add, ← Nat.add_assoc, ← Nat.mul_assoc, Nat.mul_comm 10 (10 ^ l.length)]
theorem vL_rep (n : Nat) : vL (List.replicate n 0) = 0 := by
  induction n with
  | zero => rfl
  | succ n ih => simp [List.replicate_succ, vL, ih]
theorem vL_lt {l : List Nat} (h : Dig l) : vL l < 10 ^ l.length := by
  induction l with
  | nil => simp [vL]
  | cons d l ih =>
    obtain ⟨h1, h2⟩ := dig_cons.1 h
    have := ih h2
    simp only [vL, List.length_cons, Nat.pow_succ]
    omega
def chr (d : Nat) : UInt8 := UInt8.ofNat (48 + d)
theorem chr_nat {d : Nat} (h : d < 10) : (chr d).toNat = 48 + d := by
  unfold chr
  rw [UInt8.toNat_ofNat']
  omega
theorem chr_eq {d : Nat} (h : d < 10) : (chr d == 48) = decide (d = 0) := by
  rw [Bool.eq_iff_iff]
  simp only [beq_iff_eq, decide_eq_true_eq]
  rw [← UInt8.toNat_inj, chr_nat h]
  show 48 + d = 48 ↔ d = 0
  omega
/-- the text of a row, the lowest digit first -/
def txt (l : List Nat) : List UInt8 := l.reverse.map chr
theorem txt_len (l : List Nat) : (txt l).length = l.length := by simp [txt]
def strip : List Nat → List Nat
  | [] => []
  | d :: l => if strip l = [] then (if d = 0 then [] else [d]) else d :: strip l
theorem dec_ne (n : Nat) : Lib.decDigits n ≠ [] := by
  unfold Lib.decDigits
  split <;> simp
theorem dec_cons {d v : Nat} (hd : d < 10) (hv : v ≠ 0) : Lib.decDigits (d + 10 * v) = Lib.decDigits v ++ [chr d] := by
  conv => lhs; unfold Lib.decDigits
  rw [dif_neg (by omega), show (d + 10 * v) / 10 = v by omega, show (d + 10 * v) % 10 = d by omega]
  rfl
theorem strip_dec {l : List Nat} (h : Dig l) : txt (strip l) = if vL l = 0 then [] else Lib.decDigits (vL l) := by
  induction l with
  | nil => rfl
  | cons d l ih =>
    obtain ⟨hd, hl⟩ := dig_cons.1 h
    have ih := ih hl
    by_cases e : strip l = []
    · rw [e] at ih
      have hv : vL l = 0 := by
        by_cases hv : vL l = 0
        · exact hv
        · rw [if_neg hv] at ih
          exact absurd ih.symm (dec_ne _)
      simp only [strip, if_pos e, vL, hv, Nat.mul_zero, Nat.add_zero]
      by_cases h0 : d = 0
      · rw [if_pos h0, if_pos h0]; rfl
      · rw [if_neg h0, if_neg h0, Lib.decDigits_one hd]; rfl
    · have hv : vL l ≠ 0 := fun hv => by
        rw [if_pos hv] at ih
        exact e (by simpa [txt] using ih)
      rw [if_neg hv] at ih
      have hne : ¬ vL (d :: l) = 0 := by show ¬ d + 10 * vL l = 0; omega
      rw [if_neg hne, show strip (d :: l) = d :: strip l by simp only [strip, if_neg e], show vL (d :: l) = d + 10 * vL l from rfl, dec_cons hd hv, ← ih]
      simp [txt]
theorem trim_strip {l : List Nat} (h : Dig l) : (txt l).dropWhile (· == 48) = txt (strip l) := by
  induction l with
  | nil => rfl
  | cons d l ih =>
    obtain ⟨hd, hl⟩ := dig_cons.1 h
    have e : txt (d :: l) = txt l ++ [chr d] := by simp [txt]
    rw [e, List.dropWhile_append, ih hl]
    by_cases z : strip l = []
    · have : (txt (strip l)).isEmpty = true := by rw [z]; rfl
      rw [if_pos this]
      simp only [strip, if_pos z, List.dropWhile_cons, List.dropWhile_nil, chr_eq hd]
      by_cases h0 : d = 0
      · rw [if_pos h0, if_pos (by simpa using h0)]; rfl
      · rw [if_neg h0, if_neg (by simpa using h0)]; rfl
    · have : ¬ (txt (strip l)).isEmpty = true := by
        simpa [txt] using z
      rw [if_neg this]
      simp only [strip, if_neg z]
      simp [txt]
/-- what is left of a row's text without the noughts ahead -/
theorem trim_dec {l : List Nat} (h : Dig l) : (txt l).dropWhile (· == 48) = if vL l = 0 then [] else Lib.decDigits (vL l) := by
  rw [trim_strip h, strip_dec h]
/-! ### sums -/
def plusL : List Nat → List Nat → Nat → List Nat
  | a :: l, b :: m, c => (a + b + c) % 10 :: plusL l m ((a + b + c) / 10)
  | _, _, c => [c]
theorem plusL_val : ∀ (l m : List Nat) (c : Nat), l.length = m.length → vL (plusL l m c) = vL l + vL m + c
  | [], [], c, _ => by simp [plusL, vL]
  | a :: l, b :: m, c, h => by
    have := plusL_val l m ((a + b + c) / 10) (by simpa using h)
    simp only [plusL, vL, this]
    omega
  | [], _ :: _, _, h => by simp at h
  | _ :: _, [], _, h => by simp at h
theorem plusL_len : ∀ (l m : List Nat) (c : Nat), l.length = m.length → (plusL l m c).length = l.length + 1
  | [], [], c, _ => rfl
  | a :: l, b :: m, c, h => by
    have := plusL_len l m ((a + b + c) / 10) (by simpa using h)
    simp only [plusL, List.length_cons, this]
  | [], _ :: _, _, h => by simp at h
  | _ :: _, [], _, h => by simp at h
theorem plusL_dig : ∀ (l m : List Nat) (c : Nat), Dig l → Dig m → c ≤ 1 → Dig (plusL l m c)
  | a :: l, b :: m, c, h1, h2, h3 => by
    obtain ⟨ha, hl⟩ := dig_cons.1 h1
    obtain ⟨hb, hm⟩ := dig_cons.1 h2
    exact dig_cons.2 ⟨Nat.mod_lt _ (by decide), plusL_dig l m _ hl hm (by omega)⟩
  | [], [], c, _, _, h => dig_cons.2 ⟨by omega, dig_nil⟩
  | [], _ :: _, c, _, _, h => dig_cons.2 ⟨by omega, dig_nil⟩
  | _ :: _, [], c, _, _, h => dig_cons.2 ⟨by omega, dig_nil⟩
def carry : List Nat → List Nat → Nat → Nat → Nat
  | a :: l, b :: m, c, k + 1 => carry l m ((a + b + c) / 10) k
  | _, _, c, _ => c
theorem carry_zero (l m : List Nat) (c : Nat) : carry l m c 0 = c := by
  cases l <;> cases m <;> rfl
theorem carry_succ : ∀ (l m : List Nat) (c k : Nat) (h : k < l.length) (h' : k < m.length), carry l m c (k + 1) = (l[k] + m[k] + carry l m c k) / 10
  | a :: l, b :: m, c, 0, _, _ => by simp [carry, carry_zero]
  | a :: l, b :: m, c, k + 1, h, h' => by
    have := carry_succ l m ((a + b + c) / 10) k (by simpa using h) (by simpa using h')
    simp only [carry, List.getElem_cons_succ]
    exact this
theorem carry_le : ∀ (l m : List Nat) (c k : Nat), Dig l → Dig m → c ≤ 1 → carry l m c k ≤ 1
  | a :: l, b :: m, c, k + 1, h1, h2, h3 => by
    obtain ⟨ha, hl⟩ := dig_cons.1 h1
    obtain ⟨hb, hm⟩ := dig_cons.1 h2
    exact carry_le l m _ k hl hm (by omega)
  | [], _, c, k, _, _, h => by simp only [carry]; exact h
  | _ :: _, [], c, k, _, _, h => by simp only [carry]; exact h
  | a :: l, b :: m, c, 0, _, _, h => by simp only [carry]; exact h
theorem plusL_get : ∀ (l m : List Nat) (c k : Nat) (h : k < l.length) (h' : k < m.length), (plusL l m c)[k]? = some ((l[k] + m[k] + carry l m c k) % 10)
  | a :: l, b :: m, c, 0, _, _ => by simp [plusL, carry_zero]
  | a :: l, b :: m, c, k + 1, h, h' => by
    have := plusL_get l m ((a + b + c) / 10) k (by simpa using h) (by simpa using h')
    simp only [plusL, List.getElem?_cons_succ, carry, List.getElem_cons_succ]
    exact this
theorem plusL_last : ∀ (l m : List Nat) (c : Nat), l.length = m.length → (plusL l m c)[l.length]? = some (carry l m c l.length)
  | [], [], c, _ => by simp [plusL, carry]
  | a :: l, b :: m, c, h => by
    have := plusL_last l m ((a + b + c) / 10) (by simpa using h)
    simp only [plusL, List.length_cons, List.getElem?_cons_succ, carry]
    exact this
  | [], _ :: _, _, h => by simp at h
  | _ :: _, [], _, h => by simp at h
/-! ### the highest first -/
def vM (a : Nat) : List Nat → Nat
  | [] => a
  | d :: t => vM (10 * a + d) t
theorem vM_app : ∀ (s t : List Nat) (a : Nat), vM a (s ++ t) = vM (vM a s) t
  | [], _, _ => rfl
  | d :: s, t, a => by simp only [List.cons_append, vM]; exact vM_app s t _
theorem vM_rev (l : List Nat) : vM 0 l.reverse = vL l := by
  induction l with
  | nil => rfl
  | cons d l ih => simp only [List.reverse_cons, vM_app, ih, vM, vL]; omega
theorem vM_eq (l : List Nat) : vM 0 l = vL l.reverse := by rw [← vM_rev, List.reverse_reverse]
def halveM (r : Nat) : List Nat → List Nat
  | [] => []
  | d :: t => (10 * r + d) / 2 :: halveM ((10 * r + d) % 2) t
def restM (r : Nat) : List Nat → Nat
  | [] => r
  | d :: t => restM ((10 * r + d) % 2) t
theorem halve_val : ∀ (t : List Nat) (a r : Nat), 2 * vM a (halveM r t) + restM r t = vM (2 * a + r) t
  | [], a, r => rfl
  | d :: t, a, r => by
    have := halve_val t (10 * a + (10 * r + d) / 2) ((10 * r + d) % 2)
    simp only [halveM, vM, restM]
    rw [this]
    congr 1
    omega
theorem halve_len : ∀ (t : List Nat) (r : Nat), (halveM r t).length = t.length
  | [], _ => rfl
  | d :: t, r => by simp only [halveM, List.length_cons, halve_len t]
theorem halve_dig : ∀ (t : List Nat) (r : Nat), Dig t → r ≤ 1 → Dig (halveM r t)
  | [], _, _, _ => dig_nil
  | d :: t, r, h, hr => by
    obtain ⟨hd, ht⟩ := dig_cons.1 h
    exact dig_cons.2 ⟨by omega, halve_dig t _ ht (by omega)⟩
theorem rest_le : ∀ (t : List Nat) (r : Nat), r ≤ 1 → restM r t ≤ 1
  | [], _, h => h
  | d :: t, r, h => rest_le t _ (by omega)
theorem halve_app : ∀ (s t : List Nat) (r : Nat), halveM r (s ++ t) = halveM r s ++ halveM (restM r s) t
  | [], _, _ => rfl
  | d :: s, t, r => by simp only [List.cons_append, halveM, restM, halve_app s t]
theorem rest_app : ∀ (s t : List Nat) (r : Nat), restM r (s ++ t) = restM (restM r s) t
  | [], _, _ => rfl
  | d :: s, t, r => by simp only [List.cons_append, restM, rest_app s t]
/-- half of a row with a nought behind is five times the row -/
theorem halved_val (D : List Nat) : vM 0 (halveM 0 (D ++ [0])) = 5 * vM 0 D := by
  have h1 := halve_val (D ++ [0]) 0 0
  have h2 := rest_le (D ++ [0]) 0 (by decide)
  have h3 : vM (2 * 0 + 0) (D ++ [0]) = 10 * vM 0 D := by rw [vM_app]; rfl
  omega
/-! ### what is less -/
/-- of rows of one length, the highest first: which is less -/
def cmpM : List Nat → List Nat → Int
  | a :: l, b :: m => if a < b then -1 else if b < a then 1 else cmpM l m
  | _, _ => 0
theorem vM_split : ∀ (l : List Nat) (a : Nat), vM a l = a * 10 ^ l.length + vM 0 l
  | [], a => by simp [vM]
  | d :: l, a => by
    simp only [vM]
    rw [vM_split l (10 * a + d), vM_split l (10 * 0 + d)]
    simp only [List.length_cons, Nat.pow_succ]
    generalize 10 ^ l.length = p
    rw [Nat.add_mul, show 10 * 0 + d = d by omega, Nat.mul_assoc, Nat.mul_left_comm, Nat.mul_comm p 10, Nat.add_assoc]
theorem vM_lt {l : List Nat} (h : Dig l) : vM 0 l < 10 ^ l.length := by
  rw [vM_eq]
  have := vL_lt (dig_rev.2 h)
  simpa using this
theorem cmpM_val : ∀ (l m : List Nat), l.length = m.length → Dig l → Dig m → cmpM l m = if vM 0 l < vM 0 m then -1 else if vM 0 m < vM 0 l then 1 else 0
  | [], [], _, _, _ => by simp [cmpM]
  | a :: l, b :: m, h, h1, h2 => by
    obtain ⟨_, hl⟩ := dig_cons.1 h1
    obtain ⟨_, hm⟩ := dig_cons.1 h2
    have hlen : l.length = m.length := by simpa using h
    have ih := cmpM_val l m hlen hl hm
    have e1 := vM_split l a
    have e2 := vM_split m b
    have b1 := vM_lt hl
    have b2 := vM_lt hm
    simp only [cmpM, vM, show 10 * 0 + a = a by omega, show 10 * 0 + b = b by omega]
    rw [e1, e2, ← hlen]
    rw [← hlen] at b2
    generalize 10 ^ l.length = p at *
    rcases Nat.lt_trichotomy a b with h | h | h
    · rw [if_pos h, if_pos]
      have : (a + 1) * p ≤ b * p := Nat.mul_le_mul_right p h
      rw [Nat.add_mul] at this
      omega
    · subst h
      rw [if_neg (Nat.lt_irrefl _), if_neg (Nat.lt_irrefl _), ih]
      simp only [Nat.add_lt_add_iff_left]
    · have h3 : (b + 1) * p ≤ a * p := Nat.mul_le_mul_right p h
      rw [Nat.add_mul] at h3
      rw [if_neg (by omega), if_pos h, if_neg (by omega), if_pos (by omega)]
  | [], _ :: _, h, _, _ => by simp at h
  | _ :: _, [], h, _, _ => by simp at h
/-! ### what is rounded -/
/-- over ten to the power k, the nearer, of two the even one -/
def rnd (v k : Nat) : Nat := if 10 ^ k < 2 * (v % 10 ^ k) ∨ 2 * (v % 10 ^ k) = 10 ^ k ∧ v / 10 ^ k % 2 = 1 then v / 10 ^ k + 1 else v / 10 ^ k
theorem vM_cut (s t : List Nat) (ht : Dig t) : vM 0 (s ++ t) / 10 ^ t.length = vM 0 s ∧ vM 0 (s ++ t) % 10 ^ t.length = vM 0 t := by
  have hp : 0 < 10 ^ t.length := Nat.pow_pos (by decide)
  have := vM_lt ht
  rw [vM_app, vM_split t (vM 0 s)]
  rw [Nat.mul_comm, Nat.mul_add_div hp, Nat.mul_add_mod, Nat.mod_eq_of_lt this, Nat.div_eq_of_lt this]
  exact ⟨rfl, rfl⟩
theorem vM_rep : ∀ (n a : Nat), vM a (List.replicate n 0) = a * 10 ^ n
  | 0, a => by simp [vM]
  | n + 1, a => by
    simp only [List.replicate_succ, vM, Nat.add_zero]
    rw [vM_rep n, Nat.pow_succ, Nat.mul_comm 10 a, Nat.mul_assoc, Nat.mul_comm 10]
theorem half_val (k : Nat) : 2 * vM 0 (5 :: List.replicate k 0) = 10 ^ (k + 1) := by
  simp only [vM, Nat.mul_zero, Nat.zero_add]
  rw [vM_rep, Nat.pow_succ]
  omega
end Go.Fl
namespace Go.Fl
open Go
theorem drop_nil2 {α : Type} (l : List α) {i : Nat} (h : l.length ≤ i) : l.drop i = [] := List.drop_eq_nil_of_le h
def plusR : List Nat → List Nat → Nat → List Nat
  | [], [], c => if c = 0 then [] else [c]
  | a :: l, [], c => (a + 0 + c) % 10 :: plusR l [] ((a + 0 + c) / 10)
  | [], b :: m, c => (0 + b + c) % 10 :: plusR [] m ((0 + b + c) / 10)
  | a :: l, b :: m, c => (a + b + c) % 10 :: plusR l m ((a + b + c) / 10)
theorem plusR_val : ∀ (l m : List Nat) (c : Nat), vL (plusR l m c) = vL l + vL m + c
  | [], [], c => by
    simp only [plusR]
    by_cases h : c = 0
    · rw [if_pos h, h]; rfl
    · rw [if_neg h]; simp [vL]
  | a :: l, [], c => by
    have := plusR_val l [] ((a + 0 + c) / 10)
    simp only [plusR, vL] at this ⊢
    rw [this]
    omega
  | [], b :: m, c => by
    have := plusR_val [] m ((0 + b + c) / 10)
    simp only [plusR, vL] at this ⊢
    rw [this]
    omega
  | a :: l, b :: m, c => by
    have := plusR_val l m ((a + b + c) / 10)
    simp only [plusR, vL, this]
    omega
theorem plusR_dig : ∀ (l m : List Nat) (c : Nat), Dig l → Dig m → c ≤ 1 → Dig (plusR l m c)
  | [], [], c, _, _, h => by
    simp only [plusR]
    by_cases h0 : c = 0
    · rw [if_pos h0]; exact dig_nil
    · rw [if_neg h0]; exact dig_cons.2 ⟨by omega, dig_nil⟩
  | a :: l, [], c, h1, h2, h3 => by
    obtain ⟨ha, hl⟩ := dig_cons.1 h1
    simp only [plusR]
    exact dig_cons.2 ⟨Nat.mod_lt _ (by decide), plusR_dig l [] ((a + 0 + c) / 10) hl h2 (by omega)⟩
  | [], b :: m, c, h1, h2, h3 => by
    obtain ⟨hb, hm⟩ := dig_cons.1 h2
    simp only [plusR]
    exact dig_cons.2 ⟨Nat.mod_lt _ (by decide), plusR_dig [] m ((0 + b + c) / 10) h1 hm (by omega)⟩
  | a :: l, b :: m, c, h1, h2, h3 => by
    obtain ⟨ha, hl⟩ := dig_cons.1 h1
    obtain ⟨hb, hm⟩ := dig_cons.1 h2
    simp only [plusR]
    exact dig_cons.2 ⟨Nat.mod_lt _ (by decide), plusR_dig l m ((a + b + c) / 10) hl hm (by omega)⟩
theorem plusR_len : ∀ (l m : List Nat) (c : Nat), (plusR l m c).length ≤ max l.length m.length + 1
  | [], [], c => by
    simp only [plusR]
    split <;> simp
  | a :: l, [], c => by
    have := plusR_len l [] ((a + 0 + c) / 10)
    simp only [plusR, List.length_cons, List.length_nil] at this ⊢
    omega
  | [], b :: m, c => by
    have := plusR_len [] m ((0 + b + c) / 10)
    simp only [plusR, List.length_cons, List.length_nil] at this ⊢
    omega
  | a :: l, b :: m, c => by
    have := plusR_len l m ((a + b + c) / 10)
    simp only [plusR, List.length_cons] at this ⊢
    omega
def atD (l : List Nat) (i : Nat) : Nat := l.getD i 0
theorem atD_lt {l : List Nat} (h : Dig l) (i : Nat) : atD l i < 10 := by
  unfold atD
  rw [List.getD_eq_getElem?_getD]
  by_cases hi : i < l.length
  · rw [List.getElem?_eq_getElem hi]; exact h _ (List.getElem_mem hi)
  · rw [List.getElem?_eq_none (by omega)]; decide
theorem atD_in {l : List Nat} {i : Nat} (h : i < l.length) : atD l i = l[i] := by
  unfold atD
  rw [List.getD_eq_getElem?_getD, List.getElem?_eq_getElem h]
  rfl
theorem atD_out {l : List Nat} {i : Nat} (h : l.length ≤ i) : atD l i = 0 := by
  unfold atD
  rw [List.getD_eq_getElem?_getD, List.getElem?_eq_none h]
  rfl
theorem drop_at {l : List Nat} {i : Nat} (h : i < l.length) : l.drop i = atD l i :: l.drop (i + 1) := by
  rw [atD_in h]
  exact List.drop_eq_getElem_cons h
theorem plusR_step (l m : List Nat) (c i : Nat) (hc : c ≤ 1) (h : i < l.length ∨ i < m.length ∨ 0 < c) :
    plusR (l.drop i) (m.drop i) c = (atD l i + atD m i + c) % 10 :: plusR (l.drop (i + 1)) (m.drop (i + 1)) ((atD l i + atD m i + c) / 10) := by
  by_cases h1 : i < l.length
  · rw [drop_at h1]
    by_cases h2 : i < m.length
    · rw [drop_at h2]; simp only [plusR]
    · rw [drop_nil2 m (by omega), drop_nil2 m (show m.length ≤ i + 1 by omega), atD_out (l := m) (by omega)]; simp only [plusR]
  · rw [drop_nil2 l (by omega), drop_nil2 l (show l.length ≤ i + 1 by omega), atD_out (l := l) (by omega)]
    by_cases h2 : i < m.length
    · rw [drop_at h2]; simp only [plusR]
    · rw [drop_nil2 m (by omega), drop_nil2 m (show m.length ≤ i + 1 by omega), atD_out (l := m) (by omega)]
      have : c = 1 := by omega
      subst this
      simp [plusR]
theorem plusR_end (l m : List Nat) (i : Nat) (h1 : l.length ≤ i) (h2 : m.length ≤ i) : plusR (l.drop i) (m.drop i) 0 = [] := by
  rw [List.drop_eq_nil_of_le h1, List.drop_eq_nil_of_le h2]; simp [plusR]
theorem vL_take (l : List Nat) (i : Nat) : vL l = vL (l.take i) + 10 ^ i * vL (l.drop i) := by
  by_cases h : i ≤ l.length
  · have := vL_app (l.take i) (l.drop i)
    rw [List.take_append_drop, List.length_take, Nat.min_eq_left h] at this
    exact this
  · rw [List.take_of_length_le (by omega), List.drop_eq_nil_of_le (by omega)]
    simp [vL]
theorem vL_drop (l : List Nat) (i : Nat) : vL (l.drop i) = atD l i + 10 * vL (l.drop (i + 1)) := by
  by_cases h : i < l.length
  · rw [drop_at h]; rfl
  · rw [List.drop_eq_nil_of_le (i := i) (by omega), List.drop_eq_nil_of_le (i := i + 1) (by omega), atD_out (by omega)]; rfl
theorem dig_take {l : List Nat} (h : Dig l) (i : Nat) : Dig (l.take i) := fun d hd => h d (List.mem_of_mem_take hd)
theorem dig_drop {l : List Nat} (h : Dig l) (i : Nat) : Dig (l.drop i) := fun d hd => h d (List.mem_of_mem_drop hd)
theorem vL_take_lt {l : List Nat} (h : Dig l) (i : Nat) : vL (l.take i) < 10 ^ i := by
  have h1 := vL_lt (dig_take h i)
  have h2 : (l.take i).length ≤ i := by rw [List.length_take]; omega
  exact Nat.lt_of_lt_of_le h1 (Nat.pow_le_pow_right (by decide) h2)
/-- where rows differ first, from above, it is told which is less -/
theorem less_at {l m : List Nat} (hl : Dig l) (hm : Dig m) (i : Nat) (he : vL (l.drop (i + 1)) = vL (m.drop (i + 1))) (hd : atD l i ≠ atD m i) : decide (vL l < vL m) = decide (atD l i < atD m i) := by
  have e1 := vL_take l i
  have e2 := vL_take m i
  rw [vL_drop] at e1 e2
  have b1 := vL_take_lt hl i
  have b2 := vL_take_lt hm i
  rw [he] at e1
  generalize vL (m.drop (i + 1)) = v at *
  generalize 10 ^ i = p at *
  rw [decide_eq_decide]
  rcases Nat.lt_or_gt_of_ne hd with h | h
  · have : p * (atD l i + 10 * v + 1) ≤ p * (atD m i + 10 * v) := Nat.mul_le_mul_left p (by omega)
    rw [Nat.mul_add, Nat.mul_one] at this
    constructor <;> intro _ <;> omega
  · have : p * (atD m i + 10 * v + 1) ≤ p * (atD l i + 10 * v) := Nat.mul_le_mul_left p (by omega)
    rw [Nat.mul_add, Nat.mul_one] at this
    constructor <;> intro _ <;> omega
theorem same_at {l m : List Nat} (i : Nat) (he : vL (l.drop (i + 1)) = vL (m.drop (i + 1))) (hd : atD l i = atD m i) : vL (l.drop i) = vL (m.drop i) := by
  rw [vL_drop l, vL_drop m, he, hd]
/-- the one form of a row: nothing ahead, or a digit that is no nought -/
theorem one_dec {l : List Nat} (h : Dig l) (hn : l ≠ []) (hz : l.length = 1 ∨ atD l (l.length - 1) ≠ 0) : txt l = Lib.decDigits (vL l) := by
  induction l with
  | nil => exact absurd rfl hn
  | cons d l ih =>
    obtain ⟨hd, hl⟩ := dig_cons.1 h
    by_cases e : l = []
    · subst e
      simp only [vL, Nat.mul_zero, Nat.add_zero]
      rw [Lib.decDigits_one hd]
      rfl
    · have hlen : l.length ≠ 0 := fun c => e (List.eq_nil_of_length_eq_zero c)
      have hz2 : atD l (l.length - 1) ≠ 0 := by
        rcases hz with h1 | h1
        · simp at h1; exact absurd h1 e
        · have : (d :: l).length - 1 = (l.length - 1) + 1 := by simp only [List.length_cons]; omega
          rw [this] at h1
          exact h1
      have hv : vL l ≠ 0 := by
        have e1 := vL_take l (l.length - 1)
        rw [vL_drop] at e1
        intro c
        rw [c] at e1
        have hp : 0 < 10 ^ (l.length - 1) := Nat.pow_pos (by decide)
        have : 0 < 10 ^ (l.length - 1) * (atD l (l.length - 1) + 10 * vL (l.drop (l.length - 1 + 1))) := Nat.mul_pos hp (by omega)
        omega
      simp only [vL]
      rw [dec_cons hd hv, ← ih hl e (Or.inr hz2)]
      simp [txt]
theorem one_cut {l : List Nat} {n : Nat} (hn : atD l n = 0) : vL (l.take (n + 1)) = vL (l.take n) := by
  have e1 := vL_take (l.take (n + 1)) n
  rw [vL_drop, List.take_take, Nat.min_eq_left (by omega), List.drop_eq_nil_of_le (by rw [List.length_take]; omega)] at e1
  have : atD (l.take (n + 1)) n = 0 := by
    unfold atD at *
    rw [List.getD_eq_getElem?_getD] at *
    rw [List.getElem?_take]
    split
    · exact hn
    · rfl
  rw [this] at e1
  simpa [vL] using e1
/-! ### rounding, the lowest first -/
theorem vL_mod {l : List Nat} (h : Dig l) (i : Nat) : vL l % 10 ^ i = vL (l.take i) ∧ vL l / 10 ^ i = vL (l.drop i) := by
  have hp : 0 < 10 ^ i := Nat.pow_pos (by decide)
  have e := vL_take l i
  have b := vL_take_lt h i
  rw [e, Nat.add_mul_mod_self_left, Nat.mod_eq_of_lt b, Nat.add_mul_div_left _ _ hp, Nat.div_eq_of_lt b, Nat.zero_add]
  exact ⟨rfl, rfl⟩
theorem vL_odd (l : List Nat) : vL l % 2 = atD l 0 % 2 := by
  have := vL_drop l 0
  rw [List.drop_zero] at this
  omega
/-- the lowest digits, noughts where there are none -/
def lowL (l : List Nat) (k : Nat) : List Nat := (List.range k).map (atD l)
theorem lowL_succ (l : List Nat) (k : Nat) : lowL l (k + 1) = lowL l k ++ [atD l k] := by
  unfold lowL
  rw [List.range_succ, List.map_append]
  rfl
theorem lowL_len (l : List Nat) (k : Nat) : (lowL l k).length = k := by simp [lowL]
theorem lowL_dig {l : List Nat} (h : Dig l) (k : Nat) : Dig (lowL l k) := fun d hd => by
  obtain ⟨j, _, rfl⟩ := List.mem_map.1 hd
  exact atD_lt h j
theorem lowL_val (l : List Nat) (k : Nat) : vL (lowL l k) = vL (l.take k) := by
  induction k with
  | zero => rfl
  | succ k ih =>
    rw [lowL_succ, vL_app, ih, lowL_len]
    have e1 := vL_take (l.take (k + 1)) k
    rw [vL_drop, List.take_take, Nat.min_eq_left (by omega), List.drop_eq_nil_of_le (by rw [List.length_take]; omega)] at e1
    have : atD (l.take (k + 1)) k = atD l k := by
      unfold atD
      rw [List.getD_eq_getElem?_getD, List.getD_eq_getElem?_getD, List.getElem?_take, if_pos (by omega)]
    rw [this] at e1
    rw [e1]
    rfl
def halfL (k : Nat) : List Nat := List.replicate k 0 ++ [5]
theorem halfL_val (k : Nat) : 2 * vL (halfL k) = 10 ^ (k + 1) := by
  unfold halfL
  rw [vL_app, vL_rep, List.length_replicate, Nat.pow_succ]
  simp only [vL]
  omega
theorem halfL_dig (k : Nat) : Dig (halfL k) := dig_app.2 ⟨dig_rep k, dig_cons.2 ⟨by decide, dig_nil⟩⟩
/-- what goes up, by rows -/
theorem rnd_rows {l : List Nat} (h : Dig l) (k : Nat) : (decide (vL (halfL k) < vL (lowL l (k + 1))) || (!decide (vL (lowL l (k + 1)) < vL (halfL k)) && decide (atD (l.drop (k + 1)) 0 % 2 = 1))) = true ↔
    (10 ^ (k + 1) < 2 * (vL l % 10 ^ (k + 1)) ∨ 2 * (vL l % 10 ^ (k + 1)) = 10 ^ (k + 1) ∧ vL l / 10 ^ (k + 1) % 2 = 1) := by
  obtain ⟨e1, e2⟩ := vL_mod h (k + 1)
  rw [e1, e2, lowL_val, vL_odd]
  have := halfL_val k
  simp only [Bool.or_eq_true, decide_eq_true_eq, Bool.and_eq_true, Bool.not_eq_true', decide_eq_false_iff_not]
  omega
theorem dec_len {n : Nat} : ∀ k, 0 < k → n < 10 ^ k → (Lib.decDigits n).length ≤ k := by
  intro k
  induction k generalizing n with
  | zero => intro h; omega
  | succ k ih =>
    intro _ h
    unfold Lib.decDigits
    split
    · simp
    · rename_i h10
      have : n / 10 < 10 ^ k := by rw [Nat.pow_succ] at h; omega
      have hk : 0 < k := by
        rcases Nat.eq_zero_or_pos k with c | c
        · subst c; simp at this; omega
        · exact c
      have := ih hk this
      simp only [List.length_append, List.length_cons, List.length_nil]
      omega
end Go.Fl
namespace Go.Proofs.YtjmebclcmpfdmaaGreatDoor
open Go.RowKit Go.Fl Go.Sort
theorem bytes_of {s : ByteArray} {l : List UInt8} (h : s.data.toList = l) : s = ⟨l.toArray⟩ := by
  subst h; simp
/-- the cells of a slice hold the text of a row -/
def RowAt (w : World) (ad : Addr) (l : List UInt8) : Prop := ∀ j (h : j < l.length), w.cell? (ad.add j) = some (.int .u8 (l[j].toNat : Int))
theorem add_block (ad : Addr) (j : Nat) : (ad.add j).block = ad.block := by
  unfold Addr.add
  split <;> rfl
theorem RowAt.below {w w' : World} {B : Nat} {ad : Addr} {l : List UInt8} (h : RowAt w ad l) (hb : Below B w w') (hB : ad.block < B) : RowAt w' ad l := fun j hj =>
  (hb.cell (p := ad.add j) (by rw [add_block]; exact hB)).trans (h j hj)
theorem infoB : (Tryz.prog.info? 5).map (fun i => (i.zero, i.size, i.bytes)) = some (some (.int .u8 0), 1, 1) := by kernel_rfl
def decV (neg : Bool) (v scale : Nat) : Value := .agg #[.bool (neg && decide (v ≠ 0)), .string ⟨(Lib.decDigits v).toArray⟩, .int .i64 (scale : Int)]
def bcells (l : List UInt8) : List Value := l.map fun b => .int .u8 (b.toNat : Int)
theorem bcells_get {l : List UInt8} {j : Nat} (h : j < l.length) : (bcells l)[j]? = some (.int .u8 (l[j].toNat : Int)) := by simp [bcells, h]
theorem RowAt.of_own {w : World} {base n g cap : Nat} {l : List UInt8} (h : w.ownsRow base 5 1 (.slice (some ⟨g, 0, none⟩) n cap) l.length (bcells l)) : RowAt w ⟨g, 0, none⟩ l ∧ (0 < l.length → g < w.heap.size) := by
  rcases h.2 with ⟨e, _⟩ | ⟨g', cap', cur, e, hb, hg, hn, hm, hs, ht⟩
  · cases e
  · injection e with e1 e2 e3
    injection e1 with e1
    injection e1 with e1
    subst e1
    have hlt : g < w.heap.size := by
      rcases Nat.lt_or_ge g w.heap.size with q | q
      · exact q
      · rw [Array.getElem?_eq_none q] at hg; cases hg
    refine ⟨fun j hj => ?_, fun _ => hlt⟩
    rw [Lib.add_plain, Nat.zero_add]
    have h1 : (cur.toList.take (l.length * 1))[j]? = some (.int .u8 (l[j].toNat : Int)) := by rw [ht]; exact bcells_get hj
    rw [List.getElem?_take, if_pos (by omega)] at h1
    unfold World.cell?
    rw [hg]
    simpa using h1
theorem agg_back {W : World} {n : Nat} {v0 v1 v2 : Value} (h0 : W.cell? ⟨n, 0, none⟩ = some v0) (h1 : W.cell? ⟨n, 1, none⟩ = some v1) (h2 : W.cell? ⟨n, 2, none⟩ = some v2) (a b c : Value) :
    (W.setCell ⟨n, 0, none⟩ a).cell? ⟨n, 0, none⟩ = some a ∧ ((W.setCell ⟨n, 0, none⟩ a).setCell ⟨n, 1, none⟩ b).cell? ⟨n, 1, none⟩ = some b ∧ (((W.setCell ⟨n, 0, none⟩ a).setCell ⟨n, 1, none⟩ b).setCell ⟨n, 2, none⟩ c).cell? ⟨n, 2, none⟩ = some c := by
  have o1 : (W.setCell ⟨n, 0, none⟩ a).cell? ⟨n, 1, none⟩ = some v1 := by rw [World.cell?_setCell_other _ _ _ _ (fun e => by cases e)]; exact h1
  have o2 : (W.setCell ⟨n, 0, none⟩ a).cell? ⟨n, 2, none⟩ = some v2 := by rw [World.cell?_setCell_other _ _ _ _ (fun e => by cases e)]; exact h2
  have o3 : ((W.setCell ⟨n, 0, none⟩ a).setCell ⟨n, 1, none⟩ b).cell? ⟨n, 2, none⟩ = some v2 := by rw [World.cell?_setCell_other _ _ _ _ (fun e => by cases e)]; exact o2
  exact ⟨World.cell?_setCell_same _ _ _ h0, World.cell?_setCell_same _ _ _ o1, World.cell?_setCell_same _ _ _ o3⟩
theorem keepC {w W : World} (h : Below (w.heap.size + 1) (w.alloc (.cells #[.bool false, .string ⟨#[]⟩, .int .i64 0] 24)) W) : W.cell? ⟨w.heap.size, 0, none⟩ = some (.bool false) ∧ W.cell? ⟨w.heap.size, 1, none⟩ = some (.string ⟨#[]⟩) ∧ W.cell? ⟨w.heap.size, 2, none⟩ = some (.int .i64 0) ∧ W.frozen? ⟨w.heap.size, 0, none⟩ = false ∧ W.frozen? ⟨w.heap.size, 1, none⟩ = false ∧ W.frozen? ⟨w.heap.size, 2, none⟩ = false := by
  have e : W.heap[w.heap.size]? = some (.cells #[.bool false, .string ⟨#[]⟩, .int .i64 0] 24) := (h.block _ (Nat.lt_succ_self _)).trans (heap_alloc_new w _)
  refine ⟨?_, ?_, ?_, ?_, ?_, ?_⟩ <;> simp [World.cell?, World.frozen?, e]
def ncells (l : List Nat) : List Value := l.map fun n : Nat => Value.int .i64 (n : Int)
theorem ncells_len (l : List Nat) : (ncells l).length = l.length := by simp [ncells]
theorem ncells_get {l : List Nat} {j : Nat} (h : j < l.length) : (ncells l)[j]? = some (.int .i64 (l[j] : Int)) := by simp [ncells, h]
/-- a slice of ints that reads as a row, below B -/
def RowI (w : World) (B : Nat) (v : Value) (l : List Nat) : Prop :=
  ∃ A c, v = .slice A l.length c ∧ (0 < l.length → ∃ ad : Addr, A = some ad ∧ ad.block < B ∧ ∀ j (h : j < l.length), w.cell? (ad.add j) = some (.int .i64 (l[j] : Int)))
theorem RowI.below {w w' : World} {B : Nat} {v : Value} {l : List Nat} (h : RowI w B v l) (hb : Below B w w') : RowI w' B v l := by
  obtain ⟨A, c, rfl, hr⟩ := h
  refine ⟨A, c, rfl, fun hn => ?_⟩
  obtain ⟨ad, e, hlt, hc⟩ := hr hn
  exact ⟨ad, e, hlt, fun j hj => (hb.cell (p := ad.add j) (by rw [add_block]; exact hlt)).trans (hc j hj)⟩
theorem RowI.more {w : World} {B B' : Nat} {v : Value} {l : List Nat} (h : RowI w B v l) (hB : B ≤ B') : RowI w B' v l := by
  obtain ⟨A, c, rfl, hr⟩ := h
  refine ⟨A, c, rfl, fun hn => ?_⟩
  obtain ⟨ad, e, hlt, hc⟩ := hr hn
  exact ⟨ad, e, by omega, hc⟩
theorem RowI.nil (w : World) (B : Nat) : RowI w B (.slice none 0 0) [] := ⟨none, 0, rfl, fun h => by simp at h⟩
theorem RowI.of_own {w : World} {base : Nat} {v : Value} {l : List Nat} (h : w.ownsRow base 3 1 v l.length (ncells l)) : RowI w w.heap.size v l := by
  rcases h.2 with ⟨rfl, h0⟩ | ⟨g, cap, cur, rfl, hb, hg, hn, hm, hs, ht⟩
  · exact ⟨none, 0, by rw [h0], fun hn => by omega⟩
  · refine ⟨_, cap, rfl, fun hpos => ⟨_, rfl, ?_, fun j hj => ?_⟩⟩
    · rcases Nat.lt_or_ge g w.heap.size with q | q
      · exact q
      · rw [Array.getElem?_eq_none q] at hg; cases hg
    · rw [Lib.add_plain, Nat.zero_add]
      have h1 : (cur.toList.take (l.length * 1))[j]? = some (.int .i64 (l[j] : Int)) := by rw [ht]; exact ncells_get hj
      rw [List.getElem?_take, if_pos (by omega)] at h1
      unfold World.cell?
      rw [hg]
      simpa using h1
theorem infoI : (Tryz.prog.info? 3).map (fun i => (i.zero, i.size, i.bytes)) = some (some (.int .i64 0), 1, 8) := by kernel_rfl
theorem wpNat {ops : Array Oper} {rest : List Oper} {o : Oper} {a : Act} {Q : Exit → Act → World → Prop} (hgd : o.guard = none) (sI xI : Operand)
    (ho : o.op = .call { callee := .builtin .append, args := #[sI, xI], argTypes := #[94, 94] })
    (base : Nat) (w0 : World) (v : Value) (l : List Nat) (n : Int) (d : Nat) (hd : n = (d : Int)) (hs : a.eval sI = v) (hown : w0.ownsRow base 3 1 v l.length (ncells l)) (hx : a.eval xI = .slice (some ⟨w0.heap.size, 0, none⟩) 1 1)
    (hl : l.length ≤ 1000000000000) (hb : base ≤ w0.heap.size)
    (h : ∀ v' w', w'.ownsRow base 3 1 v' (l ++ [d]).length (ncells (l ++ [d])) → (w0.alloc (.cells #[.int .i64 n] 3)).grownBy w' v.ownBlock → wpList Tryz.prog ops Q rest (a.put o.dst v') w') :
    wpList Tryz.prog ops Q (o :: rest) a (w0.alloc (.cells #[.int .i64 n] 3)) := by
  obtain ⟨i0, hi0, hz0, hz1, hz2⟩ := info_parts infoI
  subst hd
  refine wpList_append_own _ hgd sI xI 94 ho base 3 i0 _ 1 8 Tryz.underlying94 hi0 hz0 hz1 hz2 rfl (by omega) v l.length (ncells l) hs (hown.alloc _) ⟨w0.heap.size, 0, none⟩ 1 1 [.int .i64 (d : Int)] hx rfl ?_ ?_ ?_ ?_ ?_ ?_
  · intro j u hj
    rw [Lib.add_plain, Nat.zero_add]
    cases j with
    | zero =>
      simp only [List.getElem?_cons_zero, Option.some.injEq] at hj
      subst hj
      simp
    | succ j => simp at hj
  · intro u hu; simp at hu; subst hu; rfl
  · unfold maxLen; omega
  · omega
  · simp only [World.size_alloc]; omega
  · intro v' w' h1 h2 _
    refine h v' w' ?_ h2
    have e : ncells (l ++ [d]) = ncells l ++ [.int .i64 (d : Int)] := by simp [ncells]
    rw [e, List.length_append]
    exact h1
theorem made_one (x : Value) (n : Nat) : madeCells #[x] n = Array.replicate n x := by
  apply Array.ext
  · simp [madeCells]
  · intro i h1 h2
    simp [madeCells, Nat.mod_one]
theorem make_bytes2 (n : Nat) (hn : n ≤ 100000) (W : World) : (Instr.makeSlice 108 (.int .i64 (n : Int)) (.int .i64 (n : Int))).run Tryz.prog W = .ok (.slice (some ⟨W.heap.size, 0, none⟩) n n) (W.alloc (.cells (madeCells #[.int .u8 0] n) 5)) := by
  obtain ⟨i, hi, hz, hs, hb⟩ := info_parts infoB
  have h := run_make (P := Tryz.prog) (w := W) 108 5 i (.int .u8 0) Tryz.underlying108 hi hz .i64 .i64 (n : Int) (n : Int) (by omega) (by omega) (by rw [hb]; omega) (by omega)
  rw [hs, Nat.mul_one, show ((n : Int)).toNat = n by omega] at h
  exact h
theorem dec_zero {v : Nat} (h : (⟨(Lib.decDigits v).toArray⟩ : ByteArray) = ⟨#[48]⟩) : v = 0 := by
  have h2 : Lib.decDigits v = [48] := by
    have := congrArg (fun b : ByteArray => b.data.toList) h
    simpa using this
  have hz : Lib.decDigits v = [48] ↔ v = 0 := by
    constructor
    · intro q
      rcases Nat.lt_or_ge v 10 with c | c
      · rw [Lib.decDigits_one c] at q
        have q2 : UInt8.ofNat (48 + v) = 48 := by simpa using q
        have q3 := congrArg UInt8.toNat q2
        rw [UInt8.toNat_ofNat'] at q3
        have : (48 : UInt8).toNat = 48 := rfl
        omega
      · have e : v = v % 10 + 10 * (v / 10) := by omega
        rw [e, dec_cons (by omega) (by omega)] at q
        have q2 := congrArg List.length q
        rw [List.length_append] at q2
        have q3 := dec_ne (v / 10)
        have q4 : (Lib.decDigits (v / 10)).length ≠ 0 := fun c => q3 (List.eq_nil_of_length_eq_zero c)
        have q5 : [chr (v % 10)].length = 1 := rfl
        have q6 : ([48] : List UInt8).length = 1 := rfl
        omega
    · rintro rfl
      exact Lib.decDigits_one (by decide)
  exact hz.1 h2
set_option maxRecDepth 100000 in
set_option maxHeartbeats 1000000 in
theorem Made_pos (neg : Bool) (v : Value) (l : List Nat) (B : Nat) (hl : Dig l) (h0 : 0 < l.length) (hll : l.length ≤ 50000) (hv : vL l < 10 ^ 400) (sc : Nat) (hsc : sc ≤ 400) (w : World) (hB : B ≤ w.heap.size) (hr : RowI w B v l) :
    Calls Tryz.prog 45 #[.bool neg, v, .int .i64 (sc : Int)] w fun e w' => e = .returned (.tuple #[decV neg (vL l) sc, .int .i64 0]) ∧ Below w.heap.size w w' := by
  obtain ⟨A, c1, rfl, hrow⟩ := hr
  obtain ⟨ad, rfl, had, hcell⟩ := hrow h0
  obtain ⟨n0, hn0⟩ : ∃ n, l.length = n := ⟨_, rfl⟩
  rw [hn0] at hll h0 ⊢
  have HN := Lib.hid hn0
  have HB := Lib.hid hB
  have HV := Lib.hid hv
  have B0 := (Below.refl w.heap.size w).alloc (Nat.le_refl _) (.cells #[.bool false, .string ⟨#[]⟩, .int .i64 0] 24)
  clear hrow hn0 hB hv
  go_enter Tryz.func45, Tryz.ntmps45
  go_wp2_with fail
  go_loopw [8] (fun u wr => ∃ n : Nat, u = .int .i64 (n : Int) ∧ 1 ≤ n ∧ n ≤ n0 ∧ vL (l.take n) = vL l ∧ wr = w.alloc (.cells #[.bool false, .string ⟨#[]⟩, .int .i64 0] 24)) (fun u _ => (intOf u).toNat)
  case atStart => exact ⟨n0, rfl, h0, Nat.le_refl _, by rw [List.take_of_length_le (by rw [HN.out]; exact Nat.le_refl _)], rfl⟩
  case round =>
    obtain ⟨n, rfl, h1, hnn, hval, hwr⟩ := hrel
    have hb : Below w.heap.size w wr := by rw [hwr]; exact B0
    have hc := fun (j : Nat) (h : j < l.length) => (hb.cell (p := ad.add j) (by rw [add_block]; have := HB.out; omega)).trans (hcell j h)
    have HW := Lib.hid hwr
    clear hwr
    have key : (1 < n ∧ atD l (n - 1) = 0) ∨ (1 < n ∧ atD l (n - 1) ≠ 0) ∨ n = 1 := by omega
    rcases key with ⟨h2, h3⟩ | ⟨h2, h3⟩ | h2
    · have hjl : n - 1 < l.length := by rw [HN.out]; omega
      have c1' := hc (n - 1) hjl
      rw [← atD_in hjl, h3] at c1'
      have hcut := one_cut (l := l) (n := n - 1) h3
      rw [show n - 1 + 1 = n by omega] at hcut
      obtain ⟨m, hm⟩ : ∃ m, m = n - 1 := ⟨_, rfl⟩
      rw [← hm] at c1' hcut
      have q1 : (1 : Int) < (n : Int) := by omega
      have q2 : IntKind.i64.wrap ((n : Int) - 1) = (m : Int) := by rw [IntWalk.i64_in _ (by omega)]; omega
      have q3 : (n : Int) - 1 = (m : Int) := by omega
      have q4 : (0 : Int) ≤ (m : Int) := by omega
      have q5 : (m : Int) < (n0 : Int) := by omega
      have HC := Lib.hid hcut
      have HVL := Lib.hid hval
      clear hm hcut hval h3 hc hcell
      go_wp2_with fail
      go_roundw
      case rel => exact ⟨m, rfl, by omega, by omega, by rw [← HC.out]; exact HVL.out, HW.out⟩
      case measure => simp [intOf]; omega
    · have hjl : n - 1 < l.length := by rw [HN.out]; omega
      have c1' := hc (n - 1) hjl
      rw [← atD_in hjl] at c1'
      obtain ⟨m, hm⟩ : ∃ m, m = n - 1 := ⟨_, rfl⟩
      rw [← hm] at c1'
      obtain ⟨d, hd⟩ : ∃ d, d = atD l (n - 1) := ⟨_, rfl⟩
      rw [← hd] at h3
      rw [hm, ← hd] at c1'
      rw [← hm] at c1'
      have q1 : (1 : Int) < (n : Int) := by omega
      have q2 : IntKind.i64.wrap ((n : Int) - 1) = (m : Int) := by rw [IntWalk.i64_in _ (by omega)]; omega
      have q3 : (n : Int) - 1 = (m : Int) := by omega
      have q4 : (0 : Int) ≤ (m : Int) := by omega
      have q5 : (m : Int) < (n0 : Int) := by omega
      have q6 : ((d : Int) == 0) = false := by rw [beq_eq_false_iff_ne]; omega
      have hTl : (l.take n).length = n := by rw [List.length_take]; have := HN.out; omega
      have hTd : Dig (l.take n) := dig_take hl n
      have htop : (l.take n).length = 1 ∨ atD (l.take n) ((l.take n).length - 1) ≠ 0 := by
        rw [hTl]
        right
        have e : atD (l.take n) (n - 1) = atD l (n - 1) := by
          unfold atD
          rw [List.getD_eq_getElem?_getD, List.getD_eq_getElem?_getD, List.getElem?_take, if_pos (by omega)]
        rw [e, ← hd]
        exact h3
      have hTx := one_dec hTd (fun q => by rw [q] at hTl; simp at hTl; omega) htop
      rw [hval] at hTx
      have hn4 : n ≤ 400 := by
        have := dec_len 400 (by decide) HV.out
        rw [← hTx, txt_len, hTl] at this
        exact this
      obtain ⟨wo, hwo⟩ : ∃ x, x = wr := ⟨wr, rfl⟩
      subst hwo
      have HMK := make_bytes2 n (by omega)
      have hTg : ∀ (i : Nat) (h : i < n), (l.take n)[i]'(by rw [hTl]; exact h) = l[i]'(by have := HN.out; omega) := fun i h => by simp
      obtain ⟨T, hT⟩ : ∃ T, T = l.take n := ⟨_, rfl⟩
      have hTc : ∀ (i : Nat) (h : i < n), ∃ (d : Nat) (hq : i < T.length), T[i] = d ∧ d < 10 ∧ wo.cell? (ad.add i) = some (.int .i64 (d : Int)) := fun i h => by
        subst hT
        exact ⟨l[i]'(by have := HN.out; omega), by rw [hTl]; exact h, hTg i h, dig_get hl _, hc i _⟩
      rw [← hT] at hTl hTd hTx
      have HTX := Lib.hid hTx
      have HTL := Lib.hid hTl
      have hadz : ad.block < wo.heap.size := by have := HB.out; have := hb.size; omega
      have p1 : ((n : Int) == 0) = false := by rw [beq_eq_false_iff_ne]; omega
      have p2 : ¬ (400 : Int) < (n : Int) := by omega
      have p3 : ¬ (400 : Int) < (sc : Int) := by omega
      obtain ⟨z, hz, hzc⟩ : ∃ z : Int, z = (n : Int) ∧ (n : Int) = z := ⟨_, rfl, rfl⟩
      clear hd hm
      clear hTx hTl hTg hT htop hval hz hzc
      clear hc
      go_wp2_with fail
      clear q1 q2 q3 q4 q5 q6 c1'
      go_loopw [10] (fun u wq => ∃ i : Nat, u = .int .i64 (i : Int) ∧ i ≤ n ∧ wo.heap.size < wq.heap.size ∧ (∀ p (hp : p < n), (∃ y, wq.cell? ⟨wo.heap.size, p, none⟩ = some y) ∧ wq.frozen? ⟨wo.heap.size, p, none⟩ = false ∧ (n ≤ p + i → ∃ hq : n - 1 - p < T.length, wq.cell? ⟨wo.heap.size, p, none⟩ = some (.int .u8 ((48 + T[n - 1 - p] : Nat) : Int)))) ∧ Below wo.heap.size wo wq) (fun u _ => n - (intOf u).toNat)
      case atStart =>
        refine ⟨0, rfl, by omega, by simp, fun p hp => ⟨⟨.int .u8 0, ?_⟩, ?_, fun h => absurd h (by omega)⟩, (Below.refl _ _).alloc (Nat.le_refl _) _⟩
        · have e := heap_alloc_new wo (.cells (madeCells #[.int .u8 0] n) 5)
          unfold World.cell?
          rw [e]
          simp [made_one, hp]
        · have e := heap_alloc_new wo (.cells (madeCells #[.int .u8 0] n) 5)
          unfold World.frozen?
          rw [e]
          simp
      case round =>
        obtain ⟨i, rfl, hi, hgz, hfill, hbq⟩ := hrel
        by_cases hin : i < n
        · obtain ⟨d9, hqd, hd9, hd10, hcd⟩ := hTc i hin
          have hcr := (hbq.cell (p := ad.add i) (by rw [add_block]; exact hadz)).trans hcd
          obtain ⟨k, hk⟩ : ∃ k, k = n - 1 - i := ⟨_, rfl⟩
          obtain ⟨⟨y, hy⟩, hfz, _⟩ := hfill k (by omega)
          have u1 : (i : Int) < (n : Int) := by omega
          have u2 : (0 : Int) ≤ (i : Int) := by omega
          have u3 : (i : Int) < (n0 : Int) := by omega
          have u4 : (n : Int) - 1 - (i : Int) = (k : Int) := by omega
          have u5' : (0 : Int) ≤ (k : Int) := by omega
          have u6 : (k : Int) < (n : Int) := by omega
          have HK := Lib.hid hk
          have HD9 := Lib.hid hd9
          have HF := Lib.hid hfill
          clear hk hd9 hcd hfill
          go_wp2_with fail
          go_roundw
          case rel =>
            refine ⟨i + 1, by go_num, by omega, by simpa using hgz, fun p hp => ?_, hbq.setCell (Nat.le_refl _) _⟩
            by_cases hpk : p = k
            · subst hpk
              refine ⟨⟨_, World.cell?_setCell_same _ _ _ hy⟩, (World.frozen?_setCell _ _ _ _).trans hfz, fun _ => ?_⟩
              have e : n - 1 - p = i := by have := HK.out; omega
              refine ⟨by rw [e]; exact hqd, ?_⟩
              rw [World.cell?_setCell_same _ _ _ hy]
              have e2 : T[n - 1 - p]'(by rw [e]; exact hqd) = d9 := by
                rw [← HD9.out]
                congr 1
              rw [e2]
              simp
            · obtain ⟨⟨y2, hy2⟩, hf2, hc2⟩ := HF.out p hp
              have hne : (⟨wo.heap.size, k, none⟩ : Addr) ≠ ⟨wo.heap.size, p, none⟩ := fun q => by injection q with _ q _; omega
              refine ⟨⟨y2, (World.cell?_setCell_other _ _ _ _ hne).trans hy2⟩, (World.frozen?_setCell _ _ _ _).trans hf2, fun h => ?_⟩
              obtain ⟨hq, h3⟩ := hc2 (by have := HK.out; omega)
              exact ⟨hq, (World.cell?_setCell_other _ _ _ _ hne).trans h3⟩
          case measure => simp [intOf]; omega
        · obtain rfl : n = i := by omega
          have hrow : RowAt wr ⟨wo.heap.size, 0, none⟩ (txt T) := fun j hj => by
            rw [txt_len, HTL.out] at hj
            obtain ⟨_, _, h3⟩ := hfill j hj
            obtain ⟨hq, h4⟩ := h3 (by omega)
            rw [Lib.add_plain, Nat.zero_add, h4]
            have e : (txt T)[j]'(by rw [txt_len, HTL.out]; exact hj) = chr (T[n - 1 - j]) := by
              unfold txt
              rw [List.getElem_map, List.getElem_reverse]
              congr 2
              rw [HTL.out]
            rw [e, chr_nat (dig_get hTd _)]
          have hcv := run_convert_bytes_back (P := Tryz.prog) wr 108 9 5 ⟨wo.heap.size, 0, none⟩ n (txt T) Tryz.underlying108 Tryz.underlying5 Tryz.underlying9 hrow
          rw [txt_len, HTL.out, HTX.out] at hcv
          have hB := hb.trans (hbq.mono hb.size)
          have u1 : ¬ (n : Int) < (n : Int) := by omega
          have hbw : Below (w.heap.size + 1) (w.alloc (.cells #[.bool false, .string ⟨#[]⟩, .int .i64 0] 24)) wr := by
            have e := hbq
            rw [HW.out] at e
            rw [World.size_alloc] at e
            exact e
          have hwz := hbw.size
          rw [World.size_alloc] at hwz
          by_cases hV0 : vL l = 0
          · have hd : decV neg (vL l) sc = .agg #[.bool false, .string ⟨#[48]⟩, .int .i64 (sc : Int)] := by
              rw [hV0]
              unfold decV
              rw [Lib.decDigits_one (by decide)]
              simp
            have hd2 : (⟨(Lib.decDigits (vL l)).toArray⟩ : ByteArray) = ⟨#[48]⟩ := by
              rw [hV0, Lib.decDigits_one (by decide)]
              rfl
            have HD := Lib.hid hd
            rw [hd2] at hcv
            obtain ⟨f0, f1, f2, z0, z1, z2⟩ := keepC (hbw.alloc hwz (.cells #[.bool false, .string ⟨#[48]⟩, .int .i64 (sc : Int)] 24))
            have hBz := hB.alloc hB.size (.cells #[.bool false, .string ⟨#[48]⟩, .int .i64 (sc : Int)] 24)
            clear hrow hfill hTc hgz hd hd2 hV0
            go_wp2_with fail
            refine bodyPost_ret (v := .tuple #[.agg #[.bool false, .string ⟨#[48]⟩, .int .i64 (sc : Int)], .int .i64 0]) ?_ rfl ⟨by rw [HD.out], ?_⟩
            · obtain ⟨e0, e1, e2⟩ := agg_back f0 f1 f2 (.bool false) (.string ⟨#[48]⟩) (.int .i64 (sc : Int))
              simp [results, Tryz.results45, go_sem, e0, e1, e2]
            · exact ((hBz.setCell (by simp) _).setCell (by simp) _).setCell (by simp) _
          · obtain ⟨s1, hs1⟩ : ∃ s : ByteArray, s = ⟨(Lib.decDigits (vL l)).toArray⟩ := ⟨_, rfl⟩
            have hd : decV neg (vL l) sc = .agg #[.bool neg, .string s1, .int .i64 (sc : Int)] := by
              unfold decV
              rw [decide_eq_true hV0, Bool.and_true, ← hs1]
            have hne : (s1.toList == [48]) = false := by
              rw [beq_eq_false_iff_ne]
              intro q
              rw [Go.Lib.toList_data] at q
              exact hV0 (dec_zero (by rw [← hs1]; exact bytes_of q))
            have HD := Lib.hid hd
            rw [← hs1] at hcv
            obtain ⟨f0, f1, f2, z0, z1, z2⟩ := keepC (hbw.alloc hwz (.cells #[.bool neg, .string s1, .int .i64 (sc : Int)] 24))
            have hBz := hB.alloc hB.size (.cells #[.bool neg, .string s1, .int .i64 (sc : Int)] 24)
            clear hrow hfill hTc hgz hd hV0 hs1
            go_wp2_with fail
            refine bodyPost_ret (v := .tuple #[.agg #[.bool neg, .string s1, .int .i64 (sc : Int)], .int .i64 0]) ?_ rfl ⟨by rw [HD.out], ?_⟩
            · obtain ⟨e0, e1, e2⟩ := agg_back f0 f1 f2 (.bool neg) (.string s1) (.int .i64 (sc : Int))
              simp [results, Tryz.results45, go_sem, e0, e1, e2]
            · exact ((hBz.setCell (by simp) _).setCell (by simp) _).setCell (by simp) _
    · have q1 : ¬ (1 : Int) < (n : Int) := by omega
      have H2 := Lib.hid h2
      clear h2
      have hTl : (l.take n).length = n := by rw [List.length_take]; have := HN.out; omega
      have hTd : Dig (l.take n) := dig_take hl n
      have htop : (l.take n).length = 1 ∨ atD (l.take n) ((l.take n).length - 1) ≠ 0 := by
        rw [hTl]
        exact .inl H2.out
      have hTx := one_dec hTd (fun q => by rw [q] at hTl; simp at hTl; omega) htop
      rw [hval] at hTx
      have hn4 : n ≤ 400 := by
        have := dec_len 400 (by decide) HV.out
        rw [← hTx, txt_len, hTl] at this
        exact this
      obtain ⟨wo, hwo⟩ : ∃ x, x = wr := ⟨wr, rfl⟩
      subst hwo
      have HMK := make_bytes2 n (by omega)
      have hTg : ∀ (i : Nat) (h : i < n), (l.take n)[i]'(by rw [hTl]; exact h) = l[i]'(by have := HN.out; omega) := fun i h => by simp
      obtain ⟨T, hT⟩ : ∃ T, T = l.take n := ⟨_, rfl⟩
      have hTc : ∀ (i : Nat) (h : i < n), ∃ (d : Nat) (hq : i < T.length), T[i] = d ∧ d < 10 ∧ wo.cell? (ad.add i) = some (.int .i64 (d : Int)) := fun i h => by
        subst hT
        exact ⟨l[i]'(by have := HN.out; omega), by rw [hTl]; exact h, hTg i h, dig_get hl _, hc i _⟩
      rw [← hT] at hTl hTd hTx
      have HTX := Lib.hid hTx
      have HTL := Lib.hid hTl
      have hadz : ad.block < wo.heap.size := by have := HB.out; have := hb.size; omega
      have p1 : ((n : Int) == 0) = false := by rw [beq_eq_false_iff_ne]; omega
      have p2 : ¬ (400 : Int) < (n : Int) := by omega
      have p3 : ¬ (400 : Int) < (sc : Int) := by omega
      obtain ⟨z, hz, hzc⟩ : ∃ z : Int, z = (n : Int) ∧ (n : Int) = z := ⟨_, rfl, rfl⟩
      clear hTx hTl hTg hT htop hval hz hzc
      clear hc
      go_wp2_with fail
      clear q1
      go_loopw [10] (fun u wq => ∃ i : Nat, u = .int .i64 (i : Int) ∧ i ≤ n ∧ wo.heap.size < wq.heap.size ∧ (∀ p (hp : p < n), (∃ y, wq.cell? ⟨wo.heap.size, p, none⟩ = some y) ∧ wq.frozen? ⟨wo.heap.size, p, none⟩ = false ∧ (n ≤ p + i → ∃ hq : n - 1 - p < T.length, wq.cell? ⟨wo.heap.size, p, none⟩ = some (.int .u8 ((48 + T[n - 1 - p] : Nat) : Int)))) ∧ Below wo.heap.size wo wq) (fun u _ => n - (intOf u).toNat)
      case atStart =>
        refine ⟨0, rfl, by omega, by simp, fun p hp => ⟨⟨.int .u8 0, ?_⟩, ?_, fun h => absurd h (by omega)⟩, (Below.refl _ _).alloc (Nat.le_refl _) _⟩
        · have e := heap_alloc_new wo (.cells (madeCells #[.int .u8 0] n) 5)
          unfold World.cell?
          rw [e]
          simp [made_one, hp]
        · have e := heap_alloc_new wo (.cells (madeCells #[.int .u8 0] n) 5)
          unfold World.frozen?
          rw [e]
          simp
      case round =>
        obtain ⟨i, rfl, hi, hgz, hfill, hbq⟩ := hrel
        by_cases hin : i < n
        · obtain ⟨d9, hqd, hd9, hd10, hcd⟩ := hTc i hin
          have hcr := (hbq.cell (p := ad.add i) (by rw [add_block]; exact hadz)).trans hcd
          obtain ⟨k, hk⟩ : ∃ k, k = n - 1 - i := ⟨_, rfl⟩
          obtain ⟨⟨y, hy⟩, hfz, _⟩ := hfill k (by omega)
          have u1 : (i : Int) < (n : Int) := by omega
          have u2 : (0 : Int) ≤ (i : Int) := by omega
          have u3 : (i : Int) < (n0 : Int) := by omega
          have u4 : (n : Int) - 1 - (i : Int) = (k : Int) := by omega
          have u5' : (0 : Int) ≤ (k : Int) := by omega
          have u6 : (k : Int) < (n : Int) := by omega
          have HK := Lib.hid hk
          have HD9 := Lib.hid hd9
          have HF := Lib.hid hfill
          clear hk hd9 hcd hfill
          go_wp2_with fail
          go_roundw
          case rel =>
            refine ⟨i + 1, by go_num, by omega, by simpa using hgz, fun p hp => ?_, hbq.setCell (Nat.le_refl _) _⟩
            by_cases hpk : p = k
            · subst hpk
              refine ⟨⟨_, World.cell?_setCell_same _ _ _ hy⟩, (World.frozen?_setCell _ _ _ _).trans hfz, fun _ => ?_⟩
              have e : n - 1 - p = i := by have := HK.out; omega
              refine ⟨by rw [e]; exact hqd, ?_⟩
              rw [World.cell?_setCell_same _ _ _ hy]
              have e2 : T[n - 1 - p]'(by rw [e]; exact hqd) = d9 := by
                rw [← HD9.out]
                congr 1
              rw [e2]
              simp
            · obtain ⟨⟨y2, hy2⟩, hf2, hc2⟩ := HF.out p hp
              have hne : (⟨wo.heap.size, k, none⟩ : Addr) ≠ ⟨wo.heap.size, p, none⟩ := fun q => by injection q with _ q _; omega
              refine ⟨⟨y2, (World.cell?_setCell_other _ _ _ _ hne).trans hy2⟩, (World.frozen?_setCell _ _ _ _).trans hf2, fun h => ?_⟩
              obtain ⟨hq, h3⟩ := hc2 (by have := HK.out; omega)
              exact ⟨hq, (World.cell?_setCell_other _ _ _ _ hne).trans h3⟩
          case measure => simp [intOf]; omega
        · obtain rfl : n = i := by omega
          have hrow : RowAt wr ⟨wo.heap.size, 0, none⟩ (txt T) := fun j hj => by
            rw [txt_len, HTL.out] at hj
            obtain ⟨_, _, h3⟩ := hfill j hj
            obtain ⟨hq, h4⟩ := h3 (by omega)
            rw [Lib.add_plain, Nat.zero_add, h4]
            have e : (txt T)[j]'(by rw [txt_len, HTL.out]; exact hj) = chr (T[n - 1 - j]) := by
              unfold txt
              rw [List.getElem_map, List.getElem_reverse]
              congr 2
              rw [HTL.out]
            rw [e, chr_nat (dig_get hTd _)]
          have hcv := run_convert_bytes_back (P := Tryz.prog) wr 108 9 5 ⟨wo.heap.size, 0, none⟩ n (txt T) Tryz.underlying108 Tryz.underlying5 Tryz.underlying9 hrow
          rw [txt_len, HTL.out, HTX.out] at hcv
          have hB := hb.trans (hbq.mono hb.size)
          have u1 : ¬ (n : Int) < (n : Int) := by omega
          have hbw : Below (w.heap.size + 1) (w.alloc (.cells #[.bool false, .string ⟨#[]⟩, .int .i64 0] 24)) wr := by
            have e := hbq
            rw [HW.out] at e
            rw [World.size_alloc] at e
            exact e
          have hwz := hbw.size
          rw [World.size_alloc] at hwz
          by_cases hV0 : vL l = 0
          · have hd : decV neg (vL l) sc = .agg #[.bool false, .string ⟨#[48]⟩, .int .i64 (sc : Int)] := by
              rw [hV0]
              unfold decV
              rw [Lib.decDigits_one (by decide)]
              simp
            have hd2 : (⟨(Lib.decDigits (vL l)).toArray⟩ : ByteArray) = ⟨#[48]⟩ := by
              rw [hV0, Lib.decDigits_one (by decide)]
              rfl
            have HD := Lib.hid hd
            rw [hd2] at hcv
            obtain ⟨f0, f1, f2, z0, z1, z2⟩ := keepC (hbw.alloc hwz (.cells #[.bool false, .string ⟨#[48]⟩, .int .i64 (sc : Int)] 24))
            have hBz := hB.alloc hB.size (.cells #[.bool false, .string ⟨#[48]⟩, .int .i64 (sc : Int)] 24)
            clear hrow hfill hTc hgz hd hd2 hV0
            go_wp2_with fail
            refine bodyPost_ret (v := .tuple #[.agg #[.bool false, .string ⟨#[48]⟩, .int .i64 (sc : Int)], .int .i64 0]) ?_ rfl ⟨by rw [HD.out], ?_⟩
            · obtain ⟨e0, e1, e2⟩ := agg_back f0 f1 f2 (.bool false) (.string ⟨#[48]⟩) (.int .i64 (sc : Int))
              simp [results, Tryz.results45, go_sem, e0, e1, e2]
            · exact ((hBz.setCell (by simp) _).setCell (by simp) _).setCell (by simp) _
          · obtain ⟨s1, hs1⟩ : ∃ s : ByteArray, s = ⟨(Lib.decDigits (vL l)).toArray⟩ := ⟨_, rfl⟩
            have hd : decV neg (vL l) sc = .agg #[.bool neg, .string s1, .int .i64 (sc : Int)] := by
              unfold decV
              rw [decide_eq_true hV0, Bool.and_true, ← hs1]
            have hne : (s1.toList == [48]) = false := by
              rw [beq_eq_false_iff_ne]
              intro q
              rw [Go.Lib.toList_data] at q
              exact hV0 (dec_zero (by rw [← hs1]; exact bytes_of q))
            have HD := Lib.hid hd
            rw [← hs1] at hcv
            obtain ⟨f0, f1, f2, z0, z1, z2⟩ := keepC (hbw.alloc hwz (.cells #[.bool neg, .string s1, .int .i64 (sc : Int)] 24))
            have hBz := hB.alloc hB.size (.cells #[.bool neg, .string s1, .int .i64 (sc : Int)] 24)
            clear hrow hfill hTc hgz hd hV0 hs1
            go_wp2_with fail
            refine bodyPost_ret (v := .tuple #[.agg #[.bool neg, .string s1, .int .i64 (sc : Int)], .int .i64 0]) ?_ rfl ⟨by rw [HD.out], ?_⟩
            · obtain ⟨e0, e1, e2⟩ := agg_back f0 f1 f2 (.bool neg) (.string s1) (.int .i64 (sc : Int))
              simp [results, Tryz.results45, go_sem, e0, e1, e2]
            · exact ((hBz.setCell (by simp) _).setCell (by simp) _).setCell (by simp) _
theorem zero_row (k : Nat) : vL [0] < 10 ^ k := Nat.pow_pos (by decide)
set_option maxRecDepth 100000 in
set_option maxHeartbeats 1000000 in
theorem Made_nil (neg : Bool) (A : Option Addr) (c : Nat) (sc : Nat) (hsc : sc ≤ 400) (w : World) :
    Calls Tryz.prog 45 #[.bool neg, .slice A 0 c, .int .i64 (sc : Int)] w fun e w' => e = .returned (.tuple #[decV neg 0 sc, .int .i64 0]) ∧ Below w.heap.size w w' := by
  have hd : decV neg 0 sc = .agg #[.bool false, .string ⟨#[48]⟩, .int .i64 (sc : Int)] := by
    unfold decV
    rw [Lib.decDigits_one (by decide)]
    simp
  have B0 := (Below.refl w.heap.size w).alloc (Nat.le_refl _) (.cells #[.bool false, .string ⟨#[]⟩, .int .i64 0] 24)
  have one1 : RowI ((w.alloc (.cells #[.bool false, .string ⟨#[]⟩, .int .i64 0] 24)).alloc (.cells #[.int .i64 0] 3)) ((w.alloc (.cells #[.bool false, .string ⟨#[]⟩, .int .i64 0] 24)).heap.size + 1) (.slice (some ⟨(w.alloc (.cells #[.bool false, .string ⟨#[]⟩, .int .i64 0] 24)).heap.size, 0, none⟩) 1 1) [0] :=
    ⟨some ⟨(w.alloc (.cells #[.bool false, .string ⟨#[]⟩, .int .i64 0] 24)).heap.size, 0, none⟩, 1, rfl, fun _ => ⟨_, rfl, Nat.lt_succ_self _, fun j hj => by
      obtain rfl : j = 0 := by simpa using hj
      rw [Lib.add_plain]
      simp⟩⟩
  have HP := Made_pos neg (.slice (some ⟨(w.alloc (.cells #[.bool false, .string ⟨#[]⟩, .int .i64 0] 24)).heap.size, 0, none⟩) 1 1) [0] ((w.alloc (.cells #[.bool false, .string ⟨#[]⟩, .int .i64 0] 24)).heap.size + 1) (dig_cons.2 ⟨by decide, dig_nil⟩) (by decide) (by decide) (zero_row 400) sc hsc ((w.alloc (.cells #[.bool false, .string ⟨#[]⟩, .int .i64 0] 24)).alloc (.cells #[.int .i64 0] 3)) (by simp) one1
  rw [show vL [0] = 0 from rfl, hd] at HP
  have hB1 := B0.alloc B0.size (.cells #[.int .i64 0] 3)
  have hb1 : Below (w.heap.size + 1) (w.alloc (.cells #[.bool false, .string ⟨#[]⟩, .int .i64 0] 24)) ((w.alloc (.cells #[.bool false, .string ⟨#[]⟩, .int .i64 0] 24)).alloc (.cells #[.int .i64 0] 3)) := (Below.refl _ _).alloc (by simp) _
  have HD := Lib.hid hd
  have HPP := Lib.hid HP
  clear hd one1 HP
  go_enter Tryz.func45, Tryz.ntmps45
  go_wp2_with fail
  refine wp_loop_rounds 1 ?_
  rw [rounds_succ]
  go_wp2_with fail
  have HP := HPP.out
  rw [World.size_alloc] at HP
  refine HP.mono ?_
  rintro e w5 ⟨rfl, hb5⟩
  have hB5 := hB1.trans (hb5.mono hB1.size)
  have hb6 : Below (w.heap.size + 1) (w.alloc (.cells #[.bool false, .string ⟨#[]⟩, .int .i64 0] 24)) w5 := hb1.trans (hb5.mono (by simp))
  obtain ⟨f0, f1, f2, z0, z1, z2⟩ := keepC hb6
  clear HP HPP hb5 hB1 hb1 hb6
  go_wp2_with fail
  refine bodyPost_ret (v := .tuple #[.agg #[.bool false, .string ⟨#[48]⟩, .int .i64 (sc : Int)], .int .i64 0]) ?_ rfl ⟨by rw [HD.out], ?_⟩
  · obtain ⟨e0, e1, e2⟩ := agg_back f0 f1 f2 (.bool false) (.string ⟨#[48]⟩) (.int .i64 (sc : Int))
    simp [results, Tryz.results45, go_sem, e0, e1, e2]
  · exact ((hB5.setCell (by simp) _).setCell (by simp) _).setCell (by simp) _
theorem Made_any (neg : Bool) (v : Value) (l : List Nat) (B : Nat) (hl : Dig l) (hll : l.length ≤ 50000) (hv : vL l < 10 ^ 400) (sc : Nat) (hsc : sc ≤ 400) (w : World) (hB : B ≤ w.heap.size) (hr : RowI w B v l) :
    Calls Tryz.prog 45 #[.bool neg, v, .int .i64 (sc : Int)] w fun e w' => e = .returned (.tuple #[decV neg (vL l) sc, .int .i64 0]) ∧ Below w.heap.size w w' := by
  cases l with
  | nil =>
    obtain ⟨A, c, rfl, _⟩ := hr
    exact Made_nil neg A c sc hsc w
  | cons d t => exact Made_pos neg v (d :: t) B hl (by simp) hll hv sc hsc w hB hr
end Go.Proofs.YtjmebclcmpfdmaaGreatDoor
