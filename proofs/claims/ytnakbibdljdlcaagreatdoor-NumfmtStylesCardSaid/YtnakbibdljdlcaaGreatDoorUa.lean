/-
  Plain: what a text falls into at a stroke; letters turned twice. No condition.
-/
import Derived.Test.YtnakbibdljdlcaaGreatDoorPf
import Derived.Lib.IndexLaws
set_option linter.unusedVariables false
namespace Go.Proofs.YtnakbibdljdlcaaGreatDoor
open Go.RowKit Go.Vx
theorem turn_facts : ∀ n : Nat, n < 256 → turnB 97 (turnB 97 (UInt8.ofNat n)) = turnB 97 (UInt8.ofNat n) ∧ letB (turnB 97 (UInt8.ofNat n)) = letB (UInt8.ofNat n) := by decide +kernel
theorem turnB_facts (b : UInt8) : turnB 97 (turnB 97 b) = turnB 97 b ∧ letB (turnB 97 b) = letB b := by
  have h := turn_facts b.toNat (UInt8.toNat_lt b)
  rwa [UInt8.ofNat_toNat] at h
theorem turnS_twice (s : ByteArray) : turnS 97 (turnS 97 s) = turnS 97 s := by
  unfold turnS
  simp only [List.map_map]
  congr 2
  exact List.map_congr_left fun b _ => (turnB_facts b).1
theorem allB_turn (s : ByteArray) : allB letB (turnS 97 s) = allB letB s := by
  have hz := turnS_size 97 s
  unfold allB
  rw [hz]
  congr 1
  show List.all (s.data.toList.map (turnB 97)).toArray.toList letB = _
  rw [List.toList_toArray, List.all_map]
  congr 1
  funext b
  exact (turnB_facts b).2
theorem split_at {l : List UInt8} {i : Nat} {c : UInt8} (h : l[i]? = some c) : l = l.take i ++ c :: l.drop (i + 1) := by
  induction l generalizing i with
  | nil => cases h
  | cons a l ih =>
    cases i with
    | zero => simp at h; subst h; rfl
    | succ i => simp at h; simp only [List.take_succ_cons, List.drop_succ_cons, List.cons_append]; rw [← ih h]
theorem take_list (s : ByteArray) (i : Nat) (h : i ≤ s.size) : (s.extract 0 i).toList = s.toList.take i := by
  rw [Go.Lib.toList_data, Go.Lib.toList_data]
  simp
theorem drop_list (s : ByteArray) (i : Nat) : (s.extract i s.size).data.toList = s.toList.drop i := by
  rw [Go.Lib.toList_data]
  simp
  exact List.take_of_length_le (by simp)
theorem none5 (s : ByteArray) (h0 : s.toList ≠ []) (h1 : s.toList ≠ [105, 110, 116, 101, 103, 101, 114]) (h2 : s.toList ≠ [112, 101, 114, 99, 101, 110, 116]) (h3 : s.toList ≠ [115, 104, 111, 114, 116]) (h4 : s.toList ≠ [108, 111, 110, 103]) : None5 s :=
  ⟨by simpa using h0, beq_eq_false_iff_ne.2 h1, beq_eq_false_iff_ne.2 h2, beq_eq_false_iff_ne.2 h3, beq_eq_false_iff_ne.2 h4⟩
theorem index_app {pre r : List UInt8} {c : UInt8} (h : ∀ k, k < pre.length → pre[k]? ≠ some c) : Lib.indexByte (pre ++ c :: r) c = (pre.length : Int) := by
  induction pre with
  | nil => simp [Lib.indexByte]
  | cons a pre ih =>
    have ha : a ≠ c := fun e => h 0 (by simp) (by simp [e])
    have := ih (fun k hk => by have := h (k + 1) (by simpa using hk); simpa using this)
    simp only [List.cons_append, Lib.indexByte, this]
    simp [ha]
theorem dec_inj {m n : Nat} (hm : m < 41) (hn : n < 41) (h : Lib.decDigits m = Lib.decDigits n) : m = n := by
  have e1 := atoi_digits m hm
  have e2 := atoi_digits n hn
  rw [h, e2] at e1
  have : (n : Int) = m := by simpa using e1
  omega
end Go.Proofs.YtnakbibdljdlcaaGreatDoor
