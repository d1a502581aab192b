/-
  Plain: what pieces that may stand are written as is read as the same pieces. No condition.
-/
import Derived.Test.YtbgcngkofbelmaaDoorUg
namespace Go.Proofs.YtbgcngkofbelmaaDoor
open Ph
def norm (p : Pc) : Pc := if p.kind = 1 then ⟨1, p.text, 0⟩ else ⟨2, ⟨#[]⟩, p.place⟩
theorem mayB_kinds {p a : Pc} (h : mayB p a = true) : (p.kind = 1 ∧ a.kind ≠ 1 ∧ p.text.size ≠ 0 ∧ Ph.brk p.text 0 = none ∧ anyBrace p.text = false) ∨ (p.kind = 2 ∧ 0 ≤ p.place ∧ p.place < 16) := by
  unfold mayB at h
  by_cases k1 : p.kind = 1
  · rw [if_pos k1] at h
    simp only [Bool.and_eq_true, decide_eq_true_eq, Bool.not_eq_true', isEmpty_eq, decide_eq_false_iff_not, Option.isNone_iff_eq_none] at h
    exact Or.inl ⟨k1, h.1, h.2.1, h.2.2.1, h.2.2.2⟩
  · rw [if_neg k1] at h
    by_cases k2 : p.kind = 2
    · rw [if_pos k2] at h
      simp only [Bool.and_eq_true, decide_eq_true_eq] at h
      exact Or.inr ⟨k2, h.1, h.2⟩
    · rw [if_neg k2] at h
      cases h
theorem at_mid {pre t C : ByteArray} {d : Nat} (h : d < t.size) : (pre ++ (t ++ C))[pre.size + d]'(by rw [ByteArray.size_append, ByteArray.size_append]; omega) = t[d] := by
  rw [ByteArray.getElem_append_right (by omega), ByteArray.getElem_append_left (by omega)]
  congr 1; omega
theorem no_brace_get {t : ByteArray} (h : anyBrace t = false) {d : Nat} (hd : d < t.size) : ¬ brace t[d] := fun hb => by
  rw [anyBrace_yes hd hb] at h; cases h
theorem digits_facts : ∀ n, n < 16 → (∀ b ∈ digits n, b ≠ 125 ∧ b.toNat < 128) := by decide +kernel
theorem tellP_size (n : Int) : (tellP n).size = (digits n.toNat).length + 2 := by
  show (123 :: (digits n.toNat ++ [125])).toArray.size = _
  simp
theorem tellP_at (n : Int) (d : Nat) (h : d < (tellP n).size) : (tellP n)[d] = (123 :: (digits n.toNat ++ [125]))[d]'(by rw [tellP_size] at h; simp; omega) := by
  rfl
theorem tellP_zero (n : Int) (h : 0 < (tellP n).size) : (tellP n)[0] = 123 := by rw [tellP_at]; rfl
theorem tellP_ascii {n : Int} (h0 : 0 ≤ n) (h : n < 16) (d : Nat) (hd : d < (tellP n).size) : ((tellP n)[d]).toNat < 128 := by
  rw [tellP_at]
  have hm := List.getElem_mem (l := 123 :: (digits n.toNat ++ [125])) (n := d) (by rw [tellP_size] at hd; simp; omega)
  rcases List.mem_cons.1 hm with e | hm
  · rw [e]; decide
  · rcases List.mem_append.1 hm with hm | hm
    · exact (digits_facts n.toNat (by omega) _ hm).2
    · rw [List.mem_singleton.1 hm]; decide
theorem tellP_mid {n : Int} (h0 : 0 ≤ n) (h : n < 16) (d : Nat) (hd : d < (tellP n).size) (h1 : 0 < d) (h2 : d < (digits n.toNat).length + 1) : (tellP n)[d] ≠ 125 := by
  rw [tellP_at]
  obtain ⟨e, rfl⟩ : ∃ e, d = e + 1 := ⟨d - 1, by omega⟩
  rw [List.getElem_cons_succ, List.getElem_append_left (by omega)]
  exact (digits_facts n.toNat (by omega) _ (List.getElem_mem (by omega))).1
theorem tellP_last (n : Int) (h : (digits n.toNat).length + 1 < (tellP n).size) : (tellP n)[(digits n.toNat).length + 1] = 125 := by
  rw [tellP_at, List.getElem_cons_succ, List.getElem_append_right (by omega)]
  simp
theorem tellP_inner (n : Int) : ((tellP n).extract 1 ((digits n.toNat).length + 1)).data.toList = digits n.toNat := by
  rw [ByteArray.data_extract, Array.toList_extract]
  show (123 :: (digits n.toNat ++ [125])).extract 1 _ = _
  simp [List.extract]
theorem extract_mid (pre t C : ByteArray) (a b : Nat) (hb : b ≤ t.size) : (pre ++ (t ++ C)).extract (pre.size + a) (pre.size + b) = t.extract a b := by
  apply ByteArray.ext_getElem
  · rw [ByteArray.size_extract, ByteArray.size_extract, ByteArray.size_append, ByteArray.size_append]; omega
  · intro i h1 h2
    rw [ByteArray.size_extract] at h2
    rw [ByteArray.getElem_extract, ByteArray.getElem_extract]
    have := at_mid (pre := pre) (t := t) (C := C) (d := a + i) (by omega)
    rw [← this]
    congr 1; omega
theorem chain_par (S : ByteArray) : ∀ (l : List Pc) (a : Pc) (pre : ByteArray), Chain a l → S = pre ++ catT tellP l → Par S pre.size (.ok (l.map norm))
  | [], _, pre, _, e => by
    have : S.size = pre.size := by rw [e]; simp [catT]
    exact Par.fin _ (by omega)
  | p :: l, a, pre, hc, e => by
    obtain ⟨hm, hc⟩ := hc
    rw [catT] at e
    have hz : S.size = pre.size + ((txt tellP p).size + (catT tellP l).size) := by rw [e, ByteArray.size_append, ByteArray.size_append]
    have ih := chain_par S l p (pre ++ txt tellP p) hc (by rw [e, ByteArray.append_assoc])
    rw [ByteArray.size_append] at ih
    rcases mayB_kinds hm with ⟨k1, _, h0, hb, ha⟩ | ⟨k2, g0, g1⟩
    · have e1 : txt tellP p = p.text := by unfold txt; rw [if_neg (by omega)]
      rw [e1] at e hz ih
      have hx : S.extract pre.size (pre.size + p.text.size) = p.text := by
        have := extract_mid pre p.text (catT tellP l) 0 p.text.size (Nat.le_refl _)
        rw [ByteArray.extract_zero_size, Nat.add_zero, ← e] at this
        exact this
      have en : norm p = ⟨1, S.extract pre.size (pre.size + p.text.size), 0⟩ := by unfold norm; rw [if_pos k1, hx]
      rw [List.map_cons, en]
      refine Par.text pre.size (pre.size + p.text.size) (.ok (l.map norm)) (by omega) (by omega) (by omega) ?_ ?_ ih
      · intro m hm' h1 h2
        obtain ⟨d, rfl⟩ : ∃ d, m = pre.size + d := ⟨m - pre.size, by omega⟩
        have hd : d < p.text.size := by omega
        have := at_mid (pre := pre) (t := p.text) (C := catT tellP l) hd
        subst e
        rw [this]
        exact no_brace_get ha hd
      · intro hk
        cases l with
        | nil => simp [catT] at hz; omega
        | cons q l =>
          rcases mayB_kinds hc.1 with ⟨_, g, _⟩ | ⟨k2, g0, g1⟩
          · exact absurd k1 g
          · have e2 : txt tellP q = tellP q.place := by unfold txt; rw [if_pos k2]
            have hs : 0 < (tellP q.place).size := by rw [tellP_size]; omega
            have e3 : S = (pre ++ p.text) ++ (tellP q.place ++ catT tellP l) := by rw [e, catT, e2, ByteArray.append_assoc]
            have := at_mid (pre := pre ++ p.text) (t := tellP q.place) (C := catT tellP l) hs
            rw [tellP_zero] at this
            refine Or.inl ?_
            subst e3
            rw [← this]
            congr 1
            rw [ByteArray.size_append]; rfl
    · obtain ⟨n, hn⟩ : ∃ n : Nat, p.place = n := ⟨p.place.toNat, by omega⟩
      have e1 : txt tellP p = tellP p.place := by unfold txt; rw [if_pos k2]
      rw [e1, hn] at e hz ih
      rw [hn] at g0 g1
      have hsz := tellP_size (n : Int)
      have hnt : ((n : Int)).toNat = n := rfl
      rw [hnt] at hsz
      have en : norm p = ⟨2, ⟨#[]⟩, n⟩ := by unfold norm; rw [if_neg (by omega), hn]
      rw [List.map_cons, en]
      have hat : ∀ d (hd : d < (tellP (n : Int)).size), S[pre.size + d]'(by omega) = (tellP (n : Int))[d] := fun d hd => by
        subst e
        exact at_mid hd
      refine Par.opens pre.size (pre.size + ((digits n).length + 1)) n (.ok (l.map norm)) (by omega) ?_ (by omega) (by omega) ?_ ?_ ?_ ?_
      · have := hat 0 (by omega)
        rw [tellP_zero] at this
        exact this
      · have := hat ((digits n).length + 1) (by omega)
        rw [this]
        exact tellP_last (n : Int) (by rw [hnt]; omega)
      · intro k hk h1 h2
        obtain ⟨d, rfl⟩ : ∃ d, k = pre.size + d := ⟨k - pre.size, by omega⟩
        rw [hat d (by omega)]
        exact tellP_mid (by omega) g1 d (by omega) (by omega) (by rw [hnt]; omega)
      · have := extract_mid pre (tellP (n : Int)) (catT tellP l) 1 ((digits n).length + 1) (by omega)
        rw [← e] at this
        rw [this]
        have t := tellP_inner (n : Int)
        rw [hnt] at t
        rw [t, place_digits (by omega)]
      · rw [show pre.size + ((digits n).length + 1) + 1 = pre.size + (tellP (n : Int)).size by omega]
        exact ih
theorem good_tellP {n : Int} (h0 : 0 ≤ n) (h : n < 16) : Ph.Good (tellP n) 0 (tellP n).size := good_ascii (fun d hd => tellP_ascii h0 h d hd) _ 0 rfl (Nat.zero_le _)
theorem chain_good : ∀ (l : List Pc) (a : Pc), Chain a l → Ph.Good (catT tellP l) 0 (catT tellP l).size
  | [], _, _ => .here _
  | p :: l, a, ⟨hm, hc⟩ => by
    rw [catT]
    refine Ph.Good.append ?_ (chain_good l p hc)
    rcases mayB_kinds hm with ⟨k1, _, h0, hb, ha⟩ | ⟨k2, g0, g1⟩
    · have e1 : txt tellP p = p.text := by unfold txt; rw [if_neg (by omega)]
      rw [e1]
      exact good_of_brk _ 0 (Nat.le_refl _) (Nat.zero_le _) hb
    · have e1 : txt tellP p = tellP p.place := by unfold txt; rw [if_pos k2]
      rw [e1]
      exact good_tellP g0 g1
theorem ok_fine {l : List Pc} (h : badAt l = none) (hs : sumT tellP l ≤ 4096) : Fine (catT tellP l) (l.map norm) := by
  have hc := (bad_none_iff l).1 h
  refine ⟨by rw [catT_size]; exact hs, (chain_good l pz hc).none, ?_⟩
  have := chain_par (catT tellP l) l pz ByteArray.empty hc (by rw [ByteArray.empty_append])
  exact this
theorem ok_kinds {l : List Pc} (h : badAt l = none) : ∀ p ∈ l, (p.kind = 1 ∨ p.kind = 2) := by
  intro p hp
  obtain ⟨i, hi, rfl⟩ := List.getElem_of_mem hp
  have := firstBad_none _ _ h i (Nat.zero_le _) (by omega)
  unfold okAt at this
  rw [show l.getD i pz = l[i] by simp [hi]] at this
  rcases mayB_kinds this with ⟨k, _⟩ | ⟨k, _⟩
  · exact Or.inl k
  · exact Or.inr k
end Go.Proofs.YtbgcngkofbelmaaDoor
