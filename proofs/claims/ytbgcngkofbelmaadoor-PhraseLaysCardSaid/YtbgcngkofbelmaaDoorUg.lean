/-
  Plain: what a phrase's pieces make together, and what that falls into. No condition.
-/
import Derived.Test.YtbgcngkofbelmaaDoorUf
import Derived.Test.YtbgcngkofbelmaaDoorXd
import Derived.Test.YtbgcngkofbelmaaDoorV
namespace Go.Proofs.YtbgcngkofbelmaaDoor
open Ph
/-- a place as it is written -/
def tellP (n : Int) : ByteArray := ⟨(123 :: (digits n.toNat ++ [125])).toArray⟩
def catT (tell : Int → ByteArray) : List Pc → ByteArray
  | [] => ByteArray.empty
  | p :: l => txt tell p ++ catT tell l
def sumT (tell : Int → ByteArray) : List Pc → Nat
  | [] => 0
  | p :: l => (txt tell p).size + sumT tell l
theorem catT_size (tell : Int → ByteArray) : ∀ l, (catT tell l).size = sumT tell l
  | [] => rfl
  | p :: l => by rw [catT, sumT, ByteArray.size_append, catT_size tell l]
theorem putAll_eq (tell : Int → ByteArray) (most : Nat) : ∀ (l : List Pc) (acc : ByteArray), acc.size ≤ most → putAll tell most acc l = if acc.size + sumT tell l ≤ most then some (acc ++ catT tell l) else none
  | [], acc, h => by rw [putAll, sumT, catT, if_pos (by omega), ByteArray.append_empty]
  | p :: l, acc, h => by
    rw [putAll, sumT, catT]
    by_cases g : acc.size + (txt tell p).size ≤ most
    · rw [if_pos g, putAll_eq tell most l _ (by rw [ByteArray.size_append]; exact g), ByteArray.size_append, ByteArray.append_assoc, Nat.add_assoc]
    · rw [if_neg g, if_neg (by omega)]
theorem putAll_nil (tell : Int → ByteArray) (most : Nat) (l : List Pc) : putAll tell most ⟨#[]⟩ l = if sumT tell l ≤ most then some (catT tell l) else none := by
  have h := putAll_eq tell most l ⟨#[]⟩ (Nat.zero_le _)
  have e : (⟨#[]⟩ : ByteArray) ++ catT tell l = catT tell l := ByteArray.empty_append
  rw [e] at h
  rw [h]
  have z : (⟨#[]⟩ : ByteArray).size = 0 := rfl
  rw [z, Nat.zero_add]
/-- what is parsed is written as it was -/
theorem par_cat {s : ByteArray} {i : Nat} {r : Except Nat (List Pc)} (h : Par s i r) : ∀ l, r = .ok l → i ≤ s.size → catT tellP l = s.extract i s.size := by
  induction h with
  | fin i h =>
    rintro l ⟨⟩ hi
    obtain rfl : i = s.size := by omega
    rw [ByteArray.extract_same]; rfl
  | opens i j n r h h1 hj hj' h2 h3 hp hr ih =>
    intro l e hi
    cases r with
    | error k => cases e
    | ok m =>
      simp only [pre, Except.ok.injEq] at e
      subst e
      rw [List.singleton_append, catT, ih m rfl (by omega)]
      obtain ⟨n1, n2⟩ := place_some hp
      have e1 : txt tellP ⟨2, ⟨#[]⟩, n⟩ = s.extract i (j + 1) := by
        unfold txt
        rw [if_pos rfl]
        have hm : s.extract i (j + 1) = s.extract i (i + 1) ++ (s.extract (i + 1) j ++ s.extract j (j + 1)) := by
          rw [← ByteArray.extract_eq_extract_append_extract j (by omega) (by omega), ← ByteArray.extract_eq_extract_append_extract (i + 1) (by omega) (by omega)]
        rw [hm]
        apply ByteArray.ext
        apply Array.ext'
        rw [ByteArray.toList_data_append, ByteArray.toList_data_append, n2, ByteArray.extract_add_one (by omega), ByteArray.extract_add_one (by omega), h1, h2]
        simp [tellP]
      rw [e1, ← ByteArray.extract_eq_extract_append_extract (j + 1) (by omega) (by omega)]
  | noclose i h h1 h3 => rintro l ⟨⟩
  | badplace i j h h1 hj hj' h2 h3 hp => rintro l ⟨⟩
  | closes i h h1 => rintro l ⟨⟩
  | text i k r h hk hk' h1 h2 hr ih =>
    intro l e hi
    cases r with
    | error k => cases e
    | ok m =>
      simp only [pre, Except.ok.injEq] at e
      subst e
      rw [List.singleton_append, catT, ih m rfl hk']
      have e1 : txt tellP ⟨1, s.extract i k, 0⟩ = s.extract i k := by unfold txt; rw [if_neg (show ¬ ((1 : Int) = 2) by decide)]
      rw [e1, ← ByteArray.extract_eq_extract_append_extract k (by omega) (by omega)]
theorem Fine.cat {s : ByteArray} {l : List Pc} (h : Fine s l) : catT tellP l = s := by
  rw [par_cat h.2.2 l rfl (Nat.zero_le _), ByteArray.extract_zero_size]
/-! ### the pieces may stand so -/
def Chain : Pc → List Pc → Prop
  | _, [] => True
  | a, p :: l => mayB p a = true ∧ Chain p l
theorem chain_iff : ∀ (l : List Pc) (a : Pc), Chain a l ↔ ∀ i, i < l.length → mayB (l.getD i pz) ((a :: l).getD i pz) = true
  | [], a => by simp [Chain]
  | p :: l, a => by
    rw [Chain, chain_iff l p]
    constructor
    · rintro ⟨h1, h2⟩ i hi
      cases i with
      | zero => exact h1
      | succ i => exact h2 i (by simpa using hi)
    · intro h
      exact ⟨h 0 (by simp), fun i hi => h (i + 1) (by simpa using hi)⟩
theorem firstBad_all {l : List Pc} : ∀ n i, (∀ j, i ≤ j → j < i + n → okAt l j = true) → firstBad l i n = none
  | 0, _, _ => rfl
  | n + 1, i, h => by
    rw [firstBad, if_pos (h i (by omega) (by omega))]
    exact firstBad_all n (i + 1) fun j h1 h2 => h j (by omega) (by omega)
theorem bad_none_iff (l : List Pc) : badAt l = none ↔ Chain pz l := by
  rw [chain_iff]
  constructor
  · intro h i hi
    exact firstBad_none _ _ h i (Nat.zero_le _) (by omega)
  · intro h
    exact firstBad_all _ _ fun j _ hj => h j (by omega)
theorem good_after {s : ByteArray} {j k : Nat} (h : Ph.Good s j k) (hj : j < s.size) (hjk : j < k) (ha : s[j].toNat < 128) : Ph.Good s (j + 1) k := by
  cases h with
  | here => omega
  | step _ _ h hb hr =>
    have w := Ph.w1 s j
    have g : ¬ 1 < (Go.Utf8.decode s j).2 := fun g => by have := Ph.first s j hj g; omega
    rw [show (Go.Utf8.decode s j).2 = 1 by omega] at hr
    exact hr
theorem extract_no_brace {s : ByteArray} {i k : Nat} (hk : k ≤ s.size) (h : ∀ m (hm : m < s.size), i ≤ m → m < k → ¬ brace s[m]) : anyBrace (s.extract i k) = false := anyBrace_no fun m hm => by
  rw [ByteArray.getElem_extract]
  have hz : (s.extract i k).size = k - i := by rw [ByteArray.size_extract]; omega
  exact h _ _ (by omega) (by omega)
theorem isEmpty_eq (t : ByteArray) : t.toList.isEmpty = decide (t.size = 0) := by
  rw [Go.Lib.toList_data, Go.Lib.size_eq]
  cases t.data.toList <;> simp
theorem par_chain {s : ByteArray} {i : Nat} {r : Except Nat (List Pc)} (h : Par s i r) : ∀ l a, r = .ok l → Ph.Good s i s.size → (a.kind = 1 → ∀ hi : i < s.size, brace s[i]) → Chain a l := by
  induction h with
  | fin i h => rintro l a ⟨⟩ _ _; trivial
  | opens i j n r h h1 hj hj' h2 h3 hp hr ih =>
    intro l a e hg ha
    cases r with
    | error k => cases e
    | ok m =>
      simp only [pre, Except.ok.injEq] at e
      subst e
      have hn := (place_some hp).1
      refine ⟨?_, ?_⟩
      · unfold mayB
        rw [if_neg (show ¬ ((2 : Int) = 1) by decide), if_pos rfl]
        simp only [Bool.and_eq_true, decide_eq_true_eq]
        omega
      · have c := (hg.cut j (by omega) (by omega) (Nat.le_refl _) (fun _ => by rw [h2]; decide)).2
        exact ih m _ rfl (good_after c hj' hj' (by rw [h2]; decide)) (fun h => absurd h (show ¬ ((2 : Int) = 1) by decide))
  | noclose i h h1 h3 => rintro l a ⟨⟩
  | badplace i j h h1 hj hj' h2 h3 hp => rintro l a ⟨⟩
  | closes i h h1 => rintro l a ⟨⟩
  | text i k r h hk hk' h1 h2 hr ih =>
    intro l a e hg ha
    cases r with
    | error q => cases e
    | ok m =>
      simp only [pre, Except.ok.injEq] at e
      subst e
      have hb : ∀ hm : k < s.size, s[k].toNat < 128 := fun hm => by
        rcases h2 hm with e | e <;> rw [e] <;> decide
      obtain ⟨g1, g2⟩ := hg.cut k (by omega) hk' (Nat.le_refl _) hb
      refine ⟨?_, ih m _ rfl g2 (fun _ => h2)⟩
      unfold mayB
      rw [if_pos rfl]
      have a1 : a.kind ≠ 1 := fun h9 => h1 i h (Nat.le_refl _) hk (ha h9 h)
      have a2 : (s.extract i k).toList.isEmpty = false := by
        rw [isEmpty_eq, ByteArray.size_extract]; simp; omega
      have a3 : Ph.brk (s.extract i k) 0 = none := (g1.extract hk').none
      have a4 := extract_no_brace hk' h1
      simp only [a2, a3, a4, decide_eq_true a1]
      rfl
theorem Fine.good {s : ByteArray} {l : List Pc} (h : Fine s l) : Ph.Good s 0 s.size := good_of_brk _ 0 (Nat.le_refl _) (Nat.zero_le _) h.2.1
theorem Fine.ok {s : ByteArray} {l : List Pc} (h : Fine s l) : badAt l = none := (bad_none_iff l).2 (par_chain h.2.2 l pz rfl h.good (fun h => absurd h (show ¬ ((0 : Int) = 1) by decide)))
end Go.Proofs.YtbgcngkofbelmaaDoor
