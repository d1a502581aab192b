/-
  Plain: how long a phrase becomes, and which place is its greatest. No condition.
-/
import Derived.Test.YtbgcngkofbelmaaDoorUh
namespace Go.Proofs.YtbgcngkofbelmaaDoor
open Ph
/-- the sixteen places as they are written -/
def all16 : List ByteArray := (List.range 16).map fun (n : Nat) => tellP (n : Int)
theorem all16_lit : all16 = [⟨#[123, 48, 125]⟩, ⟨#[123, 49, 125]⟩, ⟨#[123, 50, 125]⟩, ⟨#[123, 51, 125]⟩, ⟨#[123, 52, 125]⟩, ⟨#[123, 53, 125]⟩, ⟨#[123, 54, 125]⟩, ⟨#[123, 55, 125]⟩, ⟨#[123, 56, 125]⟩, ⟨#[123, 57, 125]⟩, ⟨#[123, 49, 48, 125]⟩, ⟨#[123, 49, 49, 125]⟩, ⟨#[123, 49, 50, 125]⟩, ⟨#[123, 49, 51, 125]⟩, ⟨#[123, 49, 52, 125]⟩, ⟨#[123, 49, 53, 125]⟩] := by rfl
theorem all16_at {n : Int} (h0 : 0 ≤ n) (h : n < 16) : argOf all16 n = tellP n := by
  obtain ⟨m, rfl⟩ := Int.eq_ofNat_of_zero_le h0
  have hm : m < 16 := by omega
  unfold argOf all16
  show ((List.range 16).map fun (n : Nat) => tellP (n : Int)).getD m _ = _
  simp [hm]
theorem txt_congr {f g : Int → ByteArray} {p : Pc} (h : p.kind = 2 → f p.place = g p.place) : txt f p = txt g p := by
  unfold txt
  by_cases k : p.kind = 2
  · rw [if_pos k, if_pos k, h k]
  · rw [if_neg k, if_neg k]
theorem sum_congr {f g : Int → ByteArray} : ∀ {l : List Pc}, (∀ p ∈ l, p.kind = 2 → f p.place = g p.place) → sumT f l = sumT g l ∧ catT f l = catT g l
  | [], _ => ⟨rfl, rfl⟩
  | p :: l, h => by
    obtain ⟨a, b⟩ := sum_congr (l := l) fun q hq => h q (List.mem_cons_of_mem _ hq)
    have e := txt_congr (h p (List.mem_cons_self ..))
    exact ⟨by rw [sumT, sumT, a, e], by rw [catT, catT, b, e]⟩
theorem no_big {l : List Pc} {m : Nat} (h : ∀ p ∈ l, p.kind = 2 → p.place < m) : l.any (big m) = false := by
  rw [List.any_eq_false]
  intro p hp hb
  unfold big at hb
  simp only [Bool.and_eq_true, decide_eq_true_eq] at hb
  have := h p hp hb.1
  omega
theorem Fine.place {s : ByteArray} {l : List Pc} (h : Fine s l) {p : Pc} (hp : p ∈ l) (k : p.kind = 2) : 0 ≤ p.place ∧ p.place < 16 := bad_none_place h.ok hp k
theorem Fine.all16 {s : ByteArray} {l : List Pc} (h : Fine s l) : layR all16 l = .tuple #[.string s, .int .i64 0] := by
  have e := sum_congr (f := argOf YtbgcngkofbelmaaDoor.all16) (g := tellP) (l := l) fun p hp k => all16_at (h.place hp k).1 (h.place hp k).2
  have hz : sumT (argOf YtbgcngkofbelmaaDoor.all16) l ≤ 262144 := by
    rw [e.1, ← catT_size, h.cat]; have := h.1; omega
  have hp := putAll_nil (argOf YtbgcngkofbelmaaDoor.all16) 262144 l
  rw [if_pos hz, e.2, h.cat] at hp
  have hb : l.any (big YtbgcngkofbelmaaDoor.all16.length) = false := no_big fun p hp k => by rw [all16_lit]; exact (h.place hp k).2
  unfold layR layP
  rw [h.ok]
  simp only [hb, hp]
/-- the greatest place so far -/
def mostP : List Pc → Int → Int
  | [], m => m
  | p :: l, m => mostP l (if p.kind = 2 then max m p.place else m)
/-- the size so far, as it is reckoned -/
def sizeP (n : Nat) (xs : List ByteArray) (p : Pc) : Nat := p.text.size + (if p.kind = 2 ∧ p.place < n then (argOf xs p.place).size else 0)
def sizeS (xs : List ByteArray) : List Pc → Nat
  | [] => 0
  | p :: l => sizeP xs.length xs p + sizeS xs l
theorem mostP_ge : ∀ (l : List Pc) (m : Int), m ≤ mostP l m
  | [], _ => Int.le_refl _
  | p :: l, m => by
    rw [mostP]
    by_cases k : p.kind = 2
    · have := mostP_ge l (max m p.place)
      rw [if_pos k]; omega
    · rw [if_neg k]; exact mostP_ge l m
theorem mostP_place : ∀ {l : List Pc} {m : Int} {p : Pc}, p ∈ l → p.kind = 2 → p.place ≤ mostP l m
  | q :: l, m, p, hp, k => by
    rw [mostP]
    rcases List.mem_cons.1 hp with rfl | hp
    · have := mostP_ge l (if p.kind = 2 then max m p.place else m)
      rw [if_pos k] at this ⊢
      omega
    · exact mostP_place hp k
theorem mostP_or : ∀ (l : List Pc) (m : Int), mostP l m = m ∨ ∃ p ∈ l, p.kind = 2 ∧ p.place = mostP l m
  | [], _ => Or.inl rfl
  | p :: l, m => by
    rw [mostP]
    rcases mostP_or l (if p.kind = 2 then max m p.place else m) with h | ⟨q, hq, k, e⟩
    · by_cases k : p.kind = 2
      · rw [if_pos k] at h ⊢
        rcases Int.le_total p.place m with g | g
        · left; rw [h]; omega
        · right; exact ⟨p, List.mem_cons_self .., k, by rw [h]; omega⟩
      · rw [if_neg k] at h ⊢
        exact Or.inl h
    · exact Or.inr ⟨q, List.mem_cons_of_mem _ hq, k, e⟩
theorem most_big {s : ByteArray} {l : List Pc} (_h : Fine s l) (n : Nat) : l.any (big n) = decide ((n : Int) ≤ mostP l (-1)) := by
  rw [Bool.eq_iff_iff, decide_eq_true_eq, List.any_eq_true]
  constructor
  · rintro ⟨p, hp, hb⟩
    unfold big at hb
    simp only [Bool.and_eq_true, decide_eq_true_eq] at hb
    have := mostP_place (m := -1) hp hb.1
    omega
  · intro hn
    rcases mostP_or l (-1) with e | ⟨p, hp, k, e⟩
    · omega
    · exact ⟨p, hp, by unfold big; simp only [Bool.and_eq_true, decide_eq_true_eq]; exact ⟨k, by omega⟩⟩
theorem size_sum {xs : List ByteArray} : ∀ {l : List Pc}, (∀ p ∈ l, p.kind = 2 → p.text = ⟨#[]⟩ ∧ p.place < xs.length) → sizeS xs l = sumT (argOf xs) l
  | [], _ => rfl
  | p :: l, h => by
    rw [sizeS, sumT, size_sum fun q hq => h q (List.mem_cons_of_mem _ hq)]
    congr 1
    unfold sizeP txt
    by_cases k : p.kind = 2
    · obtain ⟨a, b⟩ := h p (List.mem_cons_self ..) k
      rw [if_pos ⟨k, b⟩, if_pos k, a]
      exact Nat.zero_add _
    · rw [if_neg k, if_neg fun g => k g.1]; rfl
theorem Fine.empties {s : ByteArray} {l : List Pc} (h : Fine s l) {p : Pc} (hp : p ∈ l) (k : p.kind = 2) : p.text = ⟨#[]⟩ := by
  rcases par_pieces h.2.2 l rfl p hp with ⟨k1, _⟩ | ⟨_, e, _⟩
  · omega
  · exact e
/-- what comes of it -/
theorem Fine.lays {s : ByteArray} {l : List Pc} (h : Fine s l) (xs : List ByteArray) : layP xs l = (if (xs.length : Int) ≤ mostP l (-1) then (⟨#[]⟩, 2) else if sizeS xs l ≤ 262144 then (catT (argOf xs) l, 0) else (⟨#[]⟩, 3)) := by
  unfold layP
  rw [h.ok]
  simp only [most_big h]
  by_cases c : (xs.length : Int) ≤ mostP l (-1)
  · simp only [decide_eq_true c, if_pos c]
  · have hz : sizeS xs l = sumT (argOf xs) l := size_sum fun p hp k => ⟨h.empties hp k, by have := mostP_place (m := -1) hp k; omega⟩
    simp only [decide_eq_false c, if_neg c, putAll_nil, hz]
    by_cases g : sumT (argOf xs) l ≤ 262144
    · simp only [if_pos g]
    · simp only [if_neg g]
theorem Fine.catSize {s : ByteArray} {l : List Pc} (h : Fine s l) (xs : List ByteArray) (c : ¬ (xs.length : Int) ≤ mostP l (-1)) : (catT (argOf xs) l).size = sizeS xs l := by
  rw [catT_size]
  exact (size_sum fun p hp k => ⟨h.empties hp k, by have := mostP_place (m := -1) hp k; omega⟩).symm
theorem Fine.plain {s : ByteArray} {l : List Pc} (h : Fine s l) (xs : List ByteArray) (c : mostP l (-1) < 0) : catT (argOf xs) l = s := by
  rw [(sum_congr (f := argOf xs) (g := tellP) (l := l) fun p hp k => by
    have := mostP_place (m := -1) hp k
    have := (h.place hp k).1
    omega).2, h.cat]
theorem mostP_take {l : List Pc} {i : Nat} (h : i < l.length) (m : Int) : mostP (l.take (i + 1)) m = if l[i].kind = 2 then max (mostP (l.take i) m) l[i].place else mostP (l.take i) m := by
  induction l generalizing i m with
  | nil => simp at h
  | cons p l ih =>
    cases i with
    | zero => simp [mostP]
    | succ i =>
      simp only [List.take_succ_cons, mostP, List.getElem_cons_succ]
      exact ih (by simpa using h) _
theorem sizeS_take {xs : List ByteArray} {l : List Pc} {i : Nat} (h : i < l.length) : sizeS xs (l.take (i + 1)) = sizeS xs (l.take i) + sizeP xs.length xs l[i] := by
  induction l generalizing i with
  | nil => simp at h
  | cons p l ih =>
    cases i with
    | zero => simp [sizeS]
    | succ i =>
      simp only [List.take_succ_cons, sizeS, List.getElem_cons_succ]
      rw [ih (by simpa using h)]; omega
theorem sizeS_le {xs : List ByteArray} {R : Nat} : ∀ {l : List Pc}, (∀ p ∈ l, p.text.size ≤ R) → (∀ x ∈ xs, x.size ≤ R) → sizeS xs l ≤ l.length * (R + R)
  | [], _, _ => Nat.zero_le _
  | p :: l, h, hx => by
    rw [sizeS, List.length_cons, Nat.add_mul]
    have a := sizeS_le (l := l) (fun q hq => h q (List.mem_cons_of_mem _ hq)) hx
    have b := h p (List.mem_cons_self ..)
    have c : sizeP xs.length xs p ≤ R + R := by
      unfold sizeP
      split
      · have : (argOf xs p.place).size ≤ R := by
          unfold argOf
          rcases Nat.lt_or_ge p.place.toNat xs.length with g | g
          · rw [show xs.getD p.place.toNat ⟨#[]⟩ = xs[p.place.toNat] by simp [g]]
            exact hx _ (List.getElem_mem g)
          · rw [show xs.getD p.place.toNat ⟨#[]⟩ = ⟨#[]⟩ by simp [g]]
            exact Nat.zero_le _
        omega
      · omega
    omega
end Go.Proofs.YtbgcngkofbelmaaDoor
