/-
  Plain: right UTF-8 from one place of a text to another, cut and put together. No condition.
-/
import Derived.Test.YtbgcngkofbelmaaDoorUa
namespace Ph
open Go
/-- right runes all the way from one place to another -/
inductive Good (s : ByteArray) : Nat → Nat → Prop
  | here (i : Nat) : Good s i i
  | step (i k : Nat) (h : i < s.size) (hb : bad s i = false) (hr : Good s (i + (Utf8.decode s i).2) k) : Good s i k
theorem Good.le {s : ByteArray} {i k : Nat} (h : Good s i k) : i ≤ k := by
  induction h with
  | here i => exact Nat.le_refl _
  | step i k h hb hr ih => omega
theorem Good.trans {s : ByteArray} {i j k : Nat} (h : Good s i j) (h' : Good s j k) : Good s i k := by
  induction h with
  | here i => exact h'
  | step i j h hb hr ih => exact .step i k h hb (ih h')
theorem Good.brk {s : ByteArray} {i k : Nat} (h : Good s i k) : Ph.brk s i = Ph.brk s k := by
  induction h with
  | here i => rfl
  | step i k h hb hr ih => rw [brk_step s i h hb, ih]
theorem Good.none {s : ByteArray} {i : Nat} (h : Good s i s.size) : Ph.brk s i = .none := by
  rw [h.brk]; exact brk_end s _ (Nat.lt_irrefl _)
theorem good_of_brk {s : ByteArray} : ∀ n i, s.size - i ≤ n → i ≤ s.size → Ph.brk s i = .none → Good s i s.size := by
  intro n
  induction n with
  | zero =>
    intro i hn hi _
    obtain rfl : i = s.size := by omega
    exact .here _
  | succ n ih =>
    intro i hn hi h
    by_cases hlt : i < s.size
    · cases hb : bad s i with
      | true => rw [brk_bad s i hlt hb] at h; cases h
      | false =>
        rw [brk_step s i hlt hb] at h
        have := w1 s i
        exact .step i _ hlt hb (ih _ (by omega) (wIn s i hlt) h)
    · obtain rfl : i = s.size := by omega
      exact .here _
/-- an ASCII byte stands at a form's beginning -/
theorem Good.cut {s : ByteArray} {i k : Nat} (h : Good s i k) : ∀ m, i ≤ m → m ≤ k → k ≤ s.size → (∀ hm : m < s.size, s[m].toNat < 128) → Good s i m ∧ Good s m k := by
  induction h with
  | here i =>
    intro m h1 h2 _ _
    obtain rfl : i = m := by omega
    exact ⟨.here _, .here _⟩
  | step i k h hb hr ih =>
    intro m h1 h2 hk hm
    rcases Nat.eq_or_lt_of_le h1 with e | e
    · subst e
      exact ⟨.here _, .step _ _ h hb hr⟩
    · have hw : i + (Utf8.decode s i).2 ≤ m := by
        rcases Nat.lt_or_ge m (i + (Utf8.decode s i).2) with g | g
        · have hms : m < s.size := Nat.lt_of_lt_of_le g (wIn s i h)
          have := within s i m h e g hms
          have := hm hms
          omega
        · exact g
      obtain ⟨a, b⟩ := ih m hw h2 hk hm
      exact ⟨.step _ _ h hb a, b⟩
theorem decodeN_move (n m b0 b1 b2 b3 c1 c2 c3 : Nat) (hm : (Lib.decodeN n b0 b1 b2 b3).2 ≤ m) (hb : ¬ ((Lib.decodeN n b0 b1 b2 b3).1 = 65533 ∧ (Lib.decodeN n b0 b1 b2 b3).2 = 1))
    (e1 : 1 < (Lib.decodeN n b0 b1 b2 b3).2 → c1 = b1) (e2 : 2 < (Lib.decodeN n b0 b1 b2 b3).2 → c2 = b2) (e3 : 3 < (Lib.decodeN n b0 b1 b2 b3).2 → c3 = b3) :
    Lib.decodeN m b0 c1 c2 c3 = Lib.decodeN n b0 b1 b2 b3 := by
  generalize hq : Lib.decodeN n b0 b1 b2 b3 = q at *
  obtain ⟨r, w⟩ := q
  simp only at hm hb e1 e2 e3
  unfold Lib.decodeN at hq
  repeat' split at hq
  all_goals
    injection hq with hr hw
    subst hr hw
    first
      | (exfalso; exact hb ⟨rfl, rfl⟩)
      | skip
  · rename_i h0
    unfold Lib.decodeN
    rw [if_pos h0]
  · obtain rfl := e1 (by omega)
    unfold Lib.decodeN
    repeat' split
    all_goals first | (exfalso; omega) | (apply Prod.ext <;> simp only <;> omega)
  · obtain rfl := e1 (by omega)
    obtain rfl := e2 (by omega)
    unfold Lib.decodeN
    repeat' split
    all_goals first | (exfalso; omega) | (apply Prod.ext <;> simp only <;> omega)
  · obtain rfl := e1 (by omega)
    obtain rfl := e2 (by omega)
    obtain rfl := e3 (by omega)
    unfold Lib.decodeN
    repeat' split
    all_goals first | (exfalso; omega) | (apply Prod.ext <;> simp only <;> omega)
theorem decode_move {s t : ByteArray} {i j : Nat} (hb : bad s i = false) (hj : j + (Utf8.decode s i).2 ≤ t.size) (e : ∀ d, d < (Utf8.decode s i).2 → t.get! (j + d) = s.get! (i + d)) : Utf8.decode t j = Utf8.decode s i := by
  have w := w1 s i
  have hb' : ¬ ((Utf8.decode s i).1 = 65533 ∧ (Utf8.decode s i).2 = 1) := by
    unfold bad at hb
    exact of_decide_eq_false hb
  have e0 := e 0 (by omega)
  rw [Nat.add_zero, Nat.add_zero] at e0
  rw [Lib.decode_at s i] at hj hb' e ⊢
  rw [Lib.decode_at t j, e0]
  exact decodeN_move _ _ _ _ _ _ _ _ _ (by omega) hb' (fun h => by rw [e 1 h]) (fun h => by rw [e 2 h]) (fun h => by rw [e 3 h])
theorem Good.move {s : ByteArray} {i k : Nat} (h : Good s i k) : ∀ (t : ByteArray) (a b len : Nat), a + len ≤ s.size → b + len ≤ t.size → (∀ d, d < len → t.get! (b + d) = s.get! (a + d)) → a ≤ i → k ≤ a + len → Good t (b + (i - a)) (b + (k - a)) := by
  induction h with
  | here i => intros; exact .here _
  | step i k h hb hr ih =>
    intro t a b len ha hb2 e hi hk
    have w := w1 s i
    have hl := hr.le
    have hd : Utf8.decode t (b + (i - a)) = Utf8.decode s i := decode_move hb (by omega) fun d hd => by
      have := e (i - a + d) (by omega)
      rw [show b + (i - a + d) = b + (i - a) + d by omega, show a + (i - a + d) = i + d by omega] at this
      exact this
    refine .step _ _ (by omega) ?_ ?_
    · unfold bad at hb ⊢
      rw [hd]; exact hb
    · rw [hd, show b + (i - a) + (Utf8.decode s i).2 = b + (i + (Utf8.decode s i).2 - a) by omega]
      exact ih t a b len ha hb2 e (by omega) hk
theorem Good.extract {s : ByteArray} {i k : Nat} (h : Good s i k) (hk : k ≤ s.size) : Good (s.extract i k) 0 (s.extract i k).size := by
  have hl := h.le
  have hz : (s.extract i k).size = k - i := by rw [ByteArray.size_extract]; omega
  have := h.move (s.extract i k) i 0 (k - i) (by omega) (by omega) (fun d hd => by
    rw [get_eq _ _ (by omega), get_eq _ _ (by omega), ByteArray.getElem_extract]
    simp) (Nat.le_refl _) (by omega)
  rw [hz]
  simpa using this
theorem Good.append {a b : ByteArray} (ha : Good a 0 a.size) (hb : Good b 0 b.size) : Good (a ++ b) 0 (a ++ b).size := by
  have hz : (a ++ b).size = a.size + b.size := ByteArray.size_append
  have h1 := ha.move (a ++ b) 0 0 a.size (by omega) (by omega) (fun d hd => by
    rw [get_eq _ _ (by omega), get_eq _ _ (by omega), ByteArray.getElem_append_left (by omega)]) (Nat.le_refl _) (by omega)
  have h2 := hb.move (a ++ b) 0 a.size b.size (by omega) (by omega) (fun d hd => by
    rw [get_eq _ _ (by omega), get_eq _ _ (by omega), ByteArray.getElem_append_right (by omega)]
    congr 1; omega) (Nat.le_refl _) (by omega)
  rw [hz]
  simp only [Nat.sub_zero, Nat.zero_add, Nat.add_zero] at h1 h2
  exact h1.trans h2
theorem good_ascii {s : ByteArray} (h : ∀ i (hi : i < s.size), s[i].toNat < 128) : ∀ n i, s.size - i = n → i ≤ s.size → Good s i s.size := by
  intro n
  induction n with
  | zero =>
    intro i hn hi
    obtain rfl : i = s.size := by omega
    exact .here _
  | succ n ih =>
    intro i hn hi
    have hlt : i < s.size := by omega
    have hd : Utf8.decode s i = ((s[i]).toNat, 1) := by
      have a := low_iff s i s[i].toNat hlt (h i hlt)
      have b : ¬ 1 < (Utf8.decode s i).2 := fun g => by have := first s i hlt g; have := h i hlt; omega
      have c := w1 s i
      exact Prod.ext (a.2 rfl) (by show (Utf8.decode s i).2 = 1; omega)
    refine .step i _ hlt ?_ ?_
    · unfold bad
      rw [hd]
      have := h i hlt
      refine decide_eq_false fun g => ?_
      have := g.1
      simp only at this
      omega
    · rw [hd]
      exact ih _ (by simp only; omega) (by simp only; omega)
end Ph
