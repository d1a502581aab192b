/-
  Every text falls into pieces or is wrong somewhere; the two parsers at a text whose answer is known; exact says yes to the same pieces. Condition: the text is short enough to be in memory.
-/
import Derived.Test.YtbgcngkofbelmaaDoorG
import Derived.BigQuiet
namespace Ph
theorem run_end (s : ByteArray) : ∀ n i, s.size - i = n → i ≤ s.size → ∃ k, i ≤ k ∧ k ≤ s.size ∧ (∀ m (hm : m < s.size), i ≤ m → m < k → ¬ brace s[m]) ∧ (∀ hk : k < s.size, brace s[k]) := by
  intro n
  induction n with
  | zero => intro i h hi; exact ⟨i, Nat.le_refl _, hi, fun m hm a b => by omega, fun hk => by omega⟩
  | succ n ih =>
    intro i h hi
    have hlt : i < s.size := by omega
    by_cases c : brace s[i]
    · exact ⟨i, Nat.le_refl _, hi, fun m hm a b => by omega, fun _ => c⟩
    · obtain ⟨k, h1, h2, h3, h4⟩ := ih (i + 1) (by omega) (by omega)
      refine ⟨k, by omega, h2, fun m hm a b => ?_, h4⟩
      rcases Nat.lt_or_ge i m with g | g
      · exact h3 m hm (by omega) b
      · obtain rfl : i = m := by omega
        exact c
theorem par_total (s : ByteArray) : ∀ n i, s.size - i ≤ n → ∃ r, Par s i r := by
  intro n
  induction n with
  | zero => intro i h; exact ⟨_, Par.fin i (by omega)⟩
  | succ n ih =>
    intro i h
    by_cases hlt : i < s.size
    · by_cases c1 : s[i] = 123
      · have hge := Go.Lib.indexByte_ge (s.extract i s.size).data.toList 125
        by_cases hx : Go.Lib.indexByte (s.extract i s.size).data.toList 125 = -1
        · exact ⟨_, Par.noclose i hlt c1 (fun k hk h2 => idx_none hx k hk (by omega))⟩
        · obtain ⟨o, ho⟩ : ∃ o : Nat, Go.Lib.indexByte (s.extract i s.size).data.toList 125 = o := ⟨_, (Int.toNat_of_nonneg (by omega)).symm⟩
          obtain ⟨hk, e1, e2⟩ := idx_some ho
          have o1 : 0 < o := by
            rcases Nat.eq_zero_or_pos o with g | g
            · subst g; rw [show s[i + 0] = s[i] from rfl, c1] at e1; exact absurd e1 (by decide)
            · exact g
          cases hp : placeOf (s.extract (i + 1) (i + o)).data.toList with
          | none => exact ⟨_, Par.badplace i (i + o) hlt c1 (by omega) hk e1 (fun k hk h2 h3 => e2 k hk (by omega) h3) hp⟩
          | some m =>
            obtain ⟨r, hr⟩ := ih (i + o + 1) (by omega)
            exact ⟨_, Par.opens i (i + o) m r hlt c1 (by omega) hk e1 (fun k hk h2 h3 => e2 k hk (by omega) h3) hp hr⟩
      · by_cases c2 : s[i] = 125
        · exact ⟨_, Par.closes i hlt c2⟩
        · obtain ⟨k, h1, h2, h3, h4⟩ := run_end s _ i rfl (by omega)
          have hik : i < k := by
            rcases Nat.lt_or_ge i k with g | g
            · exact g
            · obtain rfl : i = k := by omega
              exact absurd (h4 hlt) (fun e => e.elim c1 c2)
          obtain ⟨r, hr⟩ := ih k (by omega)
          exact ⟨_, Par.text i k r hlt hik h2 h3 h4 hr⟩
    · exact ⟨_, Par.fin i hlt⟩
end Ph
namespace Go.Proofs.YtbgcngkofbelmaaDoor
open Go.RowKit
open Ph
theorem outcome (s : ByteArray) : (∃ l, Fine s l) ∨ (∃ a b, Wrong s a b) := by
  by_cases h : 4096 < s.size
  · exact Or.inr ⟨_, _, Or.inl ⟨h, rfl, rfl⟩⟩
  · cases hb : brk s 0 with
    | some j => exact Or.inr ⟨_, _, Or.inr (Or.inl ⟨by omega, j, hb, rfl, rfl⟩)⟩
    | none =>
      obtain ⟨r, hr⟩ := par_total s _ 0 (Nat.le_refl _)
      cases r with
      | ok l => exact Or.inl ⟨l, by omega, hb, hr⟩
      | error j => exact Or.inr ⟨_, _, Or.inr (Or.inr ⟨by omega, hb, j, hr, rfl, rfl⟩)⟩
theorem Fine.uniq {s : ByteArray} {l m : List Pc} (h : Fine s l) (h' : Fine s m) : l = m := by
  have := h.2.2.det h'.2.2
  injection this
theorem Fine.right {s : ByteArray} {l : List Pc} (h : Fine s l) (a b : Int) : ¬ Wrong s a b := by
  obtain ⟨h1, h2, h3⟩ := h
  rintro (⟨g, _, _⟩ | ⟨_, j, g, _⟩ | ⟨_, _, j, g, _⟩)
  · omega
  · rw [h2] at g; cases g
  · cases h3.det g
theorem Wrong.uniq {s : ByteArray} {a b c d : Int} (h : Wrong s a b) (h' : Wrong s c d) : a = c ∧ b = d := by
  rcases h with ⟨h1, rfl, rfl⟩ | ⟨h1, j, h2, rfl, rfl⟩ | ⟨h1, h2, j, h3, rfl, rfl⟩ <;> rcases h' with ⟨g1, rfl, rfl⟩ | ⟨g1, k, g2, rfl, rfl⟩ | ⟨g1, g2, k, g3, rfl, rfl⟩
  · exact ⟨rfl, rfl⟩
  · omega
  · omega
  · omega
  · rw [h2] at g2; cases g2; exact ⟨rfl, rfl⟩
  · rw [h2] at g2; cases g2
  · omega
  · rw [h2] at g2; cases g2
  · have := h3.det g3
    injection this with e
    rw [e]; exact ⟨rfl, rfl⟩
theorem Wrong.nz {s : ByteArray} {a b : Int} (h : Wrong s a b) : a ≠ 0 := by
  rcases h with ⟨_, rfl, _⟩ | ⟨_, j, _, rfl, _⟩ | ⟨_, _, j, _, rfl, _⟩ <;> decide
def FineP (l : List Pc) (w : World) (e : Ending) (w' : World) : Prop :=
  ∃ v, e = .returned (.tuple #[v, sp 0 0]) ∧ w'.ownsRow w.heap.size 31 3 v l.length (pcells l) ∧ Below w.heap.size w w'
def WrongP (a b : Int) (w : World) (e : Ending) (w' : World) : Prop := e = .returned (.tuple #[.slice none 0 0, sp a b]) ∧ Below w.heap.size w w'
theorem Parsed.fine {s : ByteArray} {w w' : World} {e : Ending} {l : List Pc} (hf : Fine s l) (h : Parsed s w e w') : FineP l w e w' := by
  rcases h with ⟨m, v, hm, he, ho, hb⟩ | ⟨a, b, hw, _⟩
  · obtain rfl := hf.uniq hm
    exact ⟨v, he, ho, hb⟩
  · exact absurd hw (hf.right a b)
theorem Parsed.wrong {s : ByteArray} {w w' : World} {e : Ending} {a b : Int} (hf : Wrong s a b) (h : Parsed s w e w') : WrongP a b w e w' := by
  rcases h with ⟨m, v, hm, _⟩ | ⟨c, d, hw, he, hb⟩
  · exact absurd hf (hm.right a b)
  · obtain ⟨rfl, rfl⟩ := hf.uniq hw
    exact ⟨he, hb⟩
theorem ref_fine {s : ByteArray} {l : List Pc} (hs : s.size ≤ 281474976710656) (hf : Fine s l) (w : World) : Calls Tryd.prog 12 #[.string s] w (FineP l w) := (refParse s hs w).mono fun _ _ h => h.fine hf
theorem ref_wrong {s : ByteArray} {a b : Int} (hs : s.size ≤ 281474976710656) (hf : Wrong s a b) (w : World) : Calls Tryd.prog 12 #[.string s] w (WrongP a b w) := (refParse s hs w).mono fun _ _ h => h.wrong hf
theorem parse_fine {s : ByteArray} {l : List Pc} (hs : s.size ≤ 281474976710656) (hf : Fine s l) (w : World) (hg : Glob w) : Calls Tryd.prog 13 #[.string s] w (FineP l w) := (parse_any s hs w hg).mono fun _ _ h => h.fine hf
theorem parse_wrong {s : ByteArray} {a b : Int} (hs : s.size ≤ 281474976710656) (hf : Wrong s a b) (w : World) (hg : Glob w) : Calls Tryd.prog 13 #[.string s] w (WrongP a b w) := (parse_any s hs w hg).mono fun _ _ h => h.wrong hf
theorem pcells_get {l : List Pc} {i : Nat} (hi : i < l.length) : (pcells l)[i * 3]? = some (.int .i64 l[i].kind) ∧ (pcells l)[i * 3 + 1]? = some (.string l[i].text) ∧ (pcells l)[i * 3 + 2]? = some (.int .i64 l[i].place) := by
  induction l generalizing i with
  | nil => simp at hi
  | cons p l ih =>
    cases i with
    | zero => exact ⟨rfl, rfl, rfl⟩
    | succ i =>
      have h3 : (i + 1) * 3 = i * 3 + 3 := by omega
      have := ih (i := i) (by simpa using hi)
      have e : pcells (p :: l) = [.int .i64 p.kind, .string p.text, .int .i64 p.place] ++ pcells l := rfl
      refine ⟨?_, ?_, ?_⟩
      · rw [e, List.getElem?_append_right (by simp; omega)]; simpa [h3] using this.1
      · rw [e, List.getElem?_append_right (by simp; omega)]; simpa [h3, show i * 3 + 3 + 1 - 3 = i * 3 + 1 by omega] using this.2.1
      · rw [e, List.getElem?_append_right (by simp; omega)]; simpa [h3, show i * 3 + 3 + 2 - 3 = i * 3 + 2 by omega] using this.2.2
end Go.Proofs.YtbgcngkofbelmaaDoor
