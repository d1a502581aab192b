/-
  Contracts of strings' trims at one byte, of math.IsNaN, math.IsInf and math.Abs. Condition: the texts are short enough to be in memory.
-/
import Derived.Test.YtpfldlbdmhhjdaaGreatDoorProg
import Derived.Test.YtpfldlbdmhhjdaaGreatDoorFn
import Derived.WalkKit
import Derived.ProofKit
import Derived.Lib.Hide
import Derived.Lib.SmallJoins
import Derived.WalkLawsBesides
import Derived.Laws.Externs
import Derived.Laws.IdiomStrings
import Derived.Deep.RegionWith
set_option linter.unusedVariables false
namespace Go.Proofs.YtpfldlbdmhhjdaaGreatDoor
open Go.RowKit Go.Fl
theorem isEmpty_dec (t : ByteArray) : t.toList.isEmpty = decide (t.size = 0) := by
  rw [Go.Lib.toList_data, Go.Lib.size_eq]
  cases t.data.toList <;> simp
theorem bytes_of {s : ByteArray} {l : List UInt8} (h : s.data.toList = l) : s = ⟨l.toArray⟩ := by
  subst h; simp
theorem first_tail (t : ByteArray) (h : 0 < t.size) : t.data.toList = t[0] :: (t.extract 1 t.size).data.toList := by
  have h2 : 0 < t.data.toList.length := by simpa using h
  have e1 : (t.extract 1 t.size).data.toList = t.data.toList.drop 1 := by
    simp
    exact List.take_of_length_le (by simp)
  rw [e1]
  have := List.drop_eq_getElem_cons (l := t.data.toList) (i := 0) h2
  rw [List.drop_zero] at this
  exact this
def lastB (t : ByteArray) : UInt8 := t.data.toList.getLastD 0
theorem last_init (t : ByteArray) (h : 0 < t.size) : t.data.toList = (t.extract 0 (t.size - 1)).data.toList ++ [lastB t] := by
  have h2 : t.data.toList ≠ [] := fun e => by
    have : t.data.toList.length = t.size := by simp
    rw [e] at this
    simp at this
    omega
  have e1 : (t.extract 0 (t.size - 1)).data.toList = t.data.toList.dropLast := by
    have hl : t.data.toList.length = t.size := by simp
    have ht : (t.extract 0 (t.size - 1)).data.toList = t.data.toList.take (t.size - 1) := by
      simp
      rw [List.dropLast_eq_take, hl]
    rw [ht, List.dropLast_eq_take, hl]
  rw [e1]
  have := List.dropLast_concat_getLast h2
  have e2 : lastB t = t.data.toList.getLast h2 := by
    unfold lastB
    rw [List.getLastD_eq_getLast?, List.getLast?_eq_some_getLast h2]
    rfl
  rw [e2, this]
theorem last_get (t : ByteArray) (h : 0 < t.size) : t[t.size - 1]'(by omega) = lastB t := by
  unfold lastB
  have h2 : t.data.toList ≠ [] := fun e => by
    have : t.data.toList.length = t.size := by simp
    rw [e] at this
    simp at this
    omega
  rw [List.getLastD_eq_getLast?, List.getLast?_eq_getElem?]
  have hl : t.data.toList.length = t.size := by simp
  rw [hl, List.getElem?_eq_getElem (by omega)]
  rfl
set_option maxHeartbeats 1000000 in
theorem trimL (s : ByteArray) (hs : s.size ≤ 281474976710656) (c : UInt8) (w : World) : Calls Tryz.prog 104 #[.string s, .int .u8 c.toNat] w fun e w' => e = .returned (.string ⟨(s.data.toList.dropWhile (· == c)).toArray⟩) ∧ w' = w := by
  go_enter Tryz.func104, Tryz.ntmps104
  go_wp2_with fail
  go_loopw [0] (fun u wr => ∃ t : ByteArray, u = .string t ∧ wr = w ∧ t.size ≤ 281474976710656 ∧ s.data.toList.dropWhile (· == c) = t.data.toList.dropWhile (· == c)) (fun u _ => match u with | .string t => t.size | _ => 0)
  case atStart => exact ⟨s, rfl, rfl, hs, rfl⟩
  case round =>
    obtain ⟨t, rfl, rfl, ht, hp⟩ := hrel
    by_cases h : 0 < t.size
    · have e := first_tail t h
      have h' : (0 : Int) < (t.size : Int) := by omega
      have h1 : (1 : Int) ≤ (t.size : Int) := by omega
      have hz : (t.extract 1 t.size).size = t.size - 1 := by simp
      have hix : ∀ w1 : World, (Instr.index 9 (.string t) (.int .i64 0)).run Tryz.prog w1 = .ok (.int .u8 (t[0]).toNat) w1 := fun w1 => by
        rw [run_index_string _ _ _ _ _ Tryz.underlying9, dif_pos ⟨by omega, by omega⟩]; rfl
      have hsl : ∀ w1 : World, (Instr.slice 9 (.string t) (some (.int .i64 1)) none none).run Tryz.prog w1 = .ok (.string (t.extract 1 t.size)) w1 := fun w1 => run_slice_string_l (P := Tryz.prog) (w := w1) (t := 9) (s := t) Tryz.underlying9 .i64 1 (by omega) (by omega)
      generalize t[0] = b at *
      by_cases hc : b = c
      · have k : ((b.toNat : Int) == (c.toNat : Int)) = true := by rw [hc]; simp
        rw [e, List.dropWhile_cons, if_pos (by simpa using hc)] at hp
        have HP := Lib.hid hp
        clear e hp hc
        generalize t.extract 1 t.size = t' at *
        go_wp2_with fail
        go_roundw
        case rel => exact ⟨t', rfl, by trivial, by omega, HP.out⟩
        case measure => simp; omega
      · have k : ((b.toNat : Int) == (c.toNat : Int)) = false := by
          rw [beq_eq_false_iff_ne]
          intro q
          exact hc (UInt8.toNat_inj.1 (by omega))
        rw [e, List.dropWhile_cons, if_neg (by simpa using hc), ← e] at hp
        have hr : (⟨(s.data.toList.dropWhile (· == c)).toArray⟩ : ByteArray) = t := by rw [hp]
        clear e hp hc
        go_wp2_with fail
        refine bodyPost_ret (v := .string t) ?_ rfl ⟨by first | rfl | rw [hr], rfl⟩
        simp [results, Tryz.results104, go_sem]
    · have z : t.size = 0 := by omega
      have zi : ¬ (0 : Int) < (t.size : Int) := by omega
      have hl : t.data.toList = [] := List.eq_nil_of_length_eq_zero (by simpa using z)
      rw [hl] at hp
      have hr : (⟨(s.data.toList.dropWhile (· == c)).toArray⟩ : ByteArray) = t := by rw [hp, bytes_of hl]; rfl
      clear hp hl
      go_wp2_with fail
      refine bodyPost_ret (v := .string t) ?_ rfl ⟨by first | rfl | rw [hr], rfl⟩
      simp [results, Tryz.results104, go_sem]
/-- a list without what stands at its end -/
def dropEnd (c : UInt8) (l : List UInt8) : List UInt8 := (l.reverse.dropWhile (· == c)).reverse
set_option maxHeartbeats 1000000 in
theorem trimR (s : ByteArray) (hs : s.size ≤ 281474976710656) (c : UInt8) (w : World) : Calls Tryz.prog 105 #[.string s, .int .u8 c.toNat] w fun e w' => e = .returned (.string ⟨(dropEnd c s.data.toList).toArray⟩) ∧ w' = w := by
  go_enter Tryz.func105, Tryz.ntmps105
  go_wp2_with fail
  go_loopw [0] (fun u wr => ∃ t : ByteArray, u = .string t ∧ wr = w ∧ t.size ≤ 281474976710656 ∧ dropEnd c s.data.toList = dropEnd c t.data.toList) (fun u _ => match u with | .string t => t.size | _ => 0)
  case atStart => exact ⟨s, rfl, rfl, hs, rfl⟩
  case round =>
    obtain ⟨t, rfl, rfl, ht, hp⟩ := hrel
    by_cases h : 0 < t.size
    · have e := last_init t h
      have h' : (0 : Int) < (t.size : Int) := by omega
      have hz : (t.extract 0 (t.size - 1)).size = t.size - 1 := by rw [ByteArray.size_extract]; omega
      have hix : ∀ w1 : World, (Instr.index 9 (.string t) (.int .i64 ((t.size : Int) - 1))).run Tryz.prog w1 = .ok (.int .u8 (lastB t).toNat) w1 := fun w1 => by
        rw [run_index_string _ _ _ _ _ Tryz.underlying9, dif_pos ⟨by omega, by omega⟩]
        have e : ((t.size : Int) - 1).toNat = t.size - 1 := by omega
        simp only [e]
        rw [last_get t h]
      have hsl : ∀ w1 : World, (Instr.slice 9 (.string t) none (some (.int .i64 ((t.size : Int) - 1))) none).run Tryz.prog w1 = .ok (.string (t.extract 0 (t.size - 1))) w1 := fun w1 => by
        have := run_slice_string_h (P := Tryz.prog) (w := w1) (t := 9) (s := t) Tryz.underlying9 .i64 ((t.size : Int) - 1) (by omega) (by omega)
        rw [show ((t.size : Int) - 1).toNat = t.size - 1 by omega] at this
        exact this
      generalize lastB t = b at *
      by_cases hc : b = c
      · have k : ((b.toNat : Int) == (c.toNat : Int)) = true := by rw [hc]; simp
        have hq : dropEnd c t.data.toList = dropEnd c (t.extract 0 (t.size - 1)).data.toList := by
          rw [e]
          unfold dropEnd
          rw [List.reverse_append, List.reverse_cons, List.reverse_nil, List.nil_append, List.cons_append, List.nil_append, List.dropWhile_cons, if_pos (by simpa using hc)]
        rw [hq] at hp
        have HP := Lib.hid hp
        clear e hp hc hq
        generalize t.extract 0 (t.size - 1) = t' at *
        go_wp2_with fail
        go_roundw
        case rel => exact ⟨t', rfl, by trivial, by omega, HP.out⟩
        case measure => simp; omega
      · have k : ((b.toNat : Int) == (c.toNat : Int)) = false := by
          rw [beq_eq_false_iff_ne]
          intro q
          exact hc (UInt8.toNat_inj.1 (by omega))
        have hq : dropEnd c t.data.toList = t.data.toList := by
          rw [e]
          unfold dropEnd
          rw [List.reverse_append, List.reverse_cons, List.reverse_nil, List.nil_append, List.cons_append, List.nil_append, List.dropWhile_cons, if_neg (by simpa using hc)]
          simp
        have hr : (⟨(dropEnd c s.data.toList).toArray⟩ : ByteArray) = t := by rw [hp, hq]
        clear e hp hc hq
        go_wp2_with fail
        refine bodyPost_ret (v := .string t) ?_ rfl ⟨by first | rfl | rw [hr], rfl⟩
        simp [results, Tryz.results105, go_sem]
    · have z : t.size = 0 := by omega
      have zi : ¬ (0 : Int) < (t.size : Int) := by omega
      have hl : t.data.toList = [] := List.eq_nil_of_length_eq_zero (by simpa using z)
      rw [hl] at hp
      have hr : (⟨(dropEnd c s.data.toList).toArray⟩ : ByteArray) = t := by rw [hp, bytes_of hl]; rfl
      clear hp hl
      go_wp2_with fail
      refine bodyPost_ret (v := .string t) ?_ rfl ⟨by first | rfl | rw [hr], rfl⟩
      simp [results, Tryz.results105, go_sem]
theorem empty_of {s : ByteArray} (h : s.size = 0) : s = ⟨#[]⟩ := bytes_of (List.eq_nil_of_length_eq_zero (by simpa using h))
set_option maxRecDepth 100000 in
theorem TrimLeft0 (s : ByteArray) (hs : s.size ≤ 281474976710656) (w : World) : Calls Tryz.prog 60 #[.string s, .string ⟨#[48]⟩] w fun e w' => e = .returned (.string ⟨(s.data.toList.dropWhile (· == 48)).toArray⟩) ∧ w' = w := by
  have hz := isEmpty_dec s
  by_cases z : s.size = 0
  · obtain rfl := empty_of z
    go_enter Tryz.func60, Tryz.ntmps60
    go_wp2_with fail
    refine bodyPost_ret (v := .string ⟨#[]⟩) ?_ rfl ⟨rfl, rfl⟩
    simp [results, Tryz.results60, go_sem]
  · have z1 : s.toList.isEmpty = false := by rw [hz]; simpa using z
    have H : Calls Tryz.prog 104 #[.string s, .int .u8 48] w fun e w' => e = .returned (.string ⟨(s.data.toList.dropWhile (· == 48)).toArray⟩) ∧ w' = w := trimL s hs 48 w
    generalize (⟨(s.data.toList.dropWhile (· == 48)).toArray⟩ : ByteArray) = r at *
    clear hz
    go_enter Tryz.func60, Tryz.ntmps60
    go_wp2_with (go_at_call 104; refine H.mono ?_; rintro e w1 ⟨rfl, rfl⟩)
    refine bodyPost_ret (v := .string r) ?_ rfl ⟨rfl, rfl⟩
    simp [results, Tryz.results60, go_sem]
set_option maxRecDepth 100000 in
set_option maxHeartbeats 1000000 in
theorem Trim0 (s : ByteArray) (hs : s.size ≤ 281474976710656) (w : World) : Calls Tryz.prog 54 #[.string s, .string ⟨#[48]⟩] w fun e w' => (∃ t, e = .returned (.string t)) ∧ Below w.heap.size w w' := by
  have hz := isEmpty_dec s
  by_cases z : s.size = 0
  · obtain rfl := empty_of z
    go_enter Tryz.func54, Tryz.ntmps54
    go_wp2_with fail
    refine bodyPost_ret (v := .string ⟨#[]⟩) ?_ rfl ⟨⟨_, rfl⟩, Below.refl _ _⟩
    simp [results, Tryz.results54, go_sem]
  · have z1 : s.toList.isEmpty = false := by rw [hz]; simpa using z
    have H : ∀ w, Calls Tryz.prog 105 #[.string s, .int .u8 48] w fun e w' => e = .returned (.string ⟨(dropEnd 48 s.data.toList).toArray⟩) ∧ w' = w := trimR s hs 48
    have hr : (⟨(dropEnd 48 s.data.toList).toArray⟩ : ByteArray).size ≤ 281474976710656 := by
      have : (dropEnd 48 s.data.toList).length ≤ s.data.toList.length := by
        unfold dropEnd
        rw [List.length_reverse]
        have := (List.dropWhile_sublist (· == (48 : UInt8)) (l := s.data.toList.reverse)).length_le
        simpa using this
      have h2 : s.data.toList.length = s.size := by simp
      show (dropEnd 48 s.data.toList).toArray.size ≤ _
      simp
      omega
    generalize (⟨(dropEnd 48 s.data.toList).toArray⟩ : ByteArray) = r at *
    have H2 : ∀ w, Calls Tryz.prog 104 #[.string r, .int .u8 48] w fun e w' => e = .returned (.string ⟨(r.data.toList.dropWhile (· == 48)).toArray⟩) ∧ w' = w := trimL r hr 48
    generalize (⟨(r.data.toList.dropWhile (· == 48)).toArray⟩ : ByteArray) = q at *
    clear hz hr
    go_enter Tryz.func54, Tryz.ntmps54
    go_wp2_with fail
    go_region_with (first | (go_at_call 105; refine (H _).mono ?_; rintro e w1 ⟨rfl, rfl⟩) | (go_at_call 104; refine (H2 _).mono ?_; rintro e w1 ⟨rfl, rfl⟩))
    all_goals
      go_wp2_with fail
      refine bodyPost_ret (v := .string q) ?_ rfl ⟨⟨_, rfl⟩, (Below.refl _ _).drew⟩
      simp [results, Tryz.results54, go_sem]
/-! ### words of floats -/
theorem run_bits (a : Nat) (w : World) : (callFunc 25 #[.float .f64 a]).run Tryz.prog w = .ok (.value (.int .u64 a)) w := by
  rw [run_callFunc_extern Tryz.func25 (by kernel_rfl) (by kernel_rfl) (by kernel_rfl) (e := Extern.MathFloatBits.float64bits) (by rfl)]
  rfl
theorem run_from (n : Int) (w : World) : (callFunc 14 #[.int .u64 n]).run Tryz.prog w = .ok (.value (.float .f64 n.toNat)) w := by
  rw [run_callFunc_extern Tryz.func14 (by kernel_rfl) (by kernel_rfl) (by kernel_rfl) (e := Extern.MathFloatBits.float64frombits) (by rfl)]
  rfl
theorem run_fneq (a b : Nat) (w : World) : Sem.run Tryz.prog (binOp .neq 45 (.float .f64 a) (.float .f64 b)) w = .ok (.bool (!(FloatKind.f64.format.order a b == some .eq))) w := rfl
theorem run_fgtr (a b : Nat) (w : World) : Sem.run Tryz.prog (binOp .gtr 45 (.float .f64 a) (.float .f64 b)) w = .ok (.bool (FloatKind.f64.format.order a b == some .gt)) w := rfl
theorem IsNaN_any (a : Nat) (w : World) : Calls Tryz.prog 23 #[.float .f64 a] w fun e w' => e = .returned (.bool (nanW a)) ∧ w' = w := by
  have h := run_fneq a a
  have hq : (!(FloatKind.f64.format.order a a == some .eq)) = nanW a := by
    cases hn : nanW a with
    | true => rw [self_nan hn]; rfl
    | false =>
      cases hf : finW a with
      | true => rw [self_fin hf]; rfl
      | false => rw [self_inf hf hn]; rfl
  have hq' : (FloatKind.f64.format.order a a != some .eq) = nanW a := hq
  clear hq h
  generalize nanW a = q at *
  go_enter Tryz.func23, Tryz.ntmps23
  go_wp2_with fail
  refine bodyPost_ret (v := .bool q) ?_ rfl ⟨rfl, rfl⟩
  simp [results, Tryz.results23, go_sem]
theorem andNot_sign (a : Nat) (h : a < 18446744073709551616) : bits .andNot .u64 (a : Int) 9223372036854775808 = ((a % 9223372036854775808 : Nat) : Int) := by
  have e := u64_andNot_nat a 9223372036854775808 h (by decide)
  have e2 : a &&& (18446744073709551615 - 9223372036854775808) = a % 9223372036854775808 := Nat.and_two_pow_sub_one_eq_mod a 63
  rw [e2] at e
  exact e
theorem Abs_any (a : Nat) (ha : a < 18446744073709551616) (w : World) : Calls Tryz.prog 49 #[.float .f64 a] w fun e w' => e = .returned (.float .f64 (a % 9223372036854775808)) ∧ w' = w := by
  have h1 := run_bits a
  have h2 := run_from (((a % 9223372036854775808 : Nat) : Int))
  have h3 := andNot_sign a ha
  generalize a % 9223372036854775808 = b at *
  have h4 : ((b : Int)).toNat = b := by omega
  rw [h4] at h2
  go_enter Tryz.func49, Tryz.ntmps49
  go_wp2_with fail
  refine bodyPost_ret (v := .float .f64 b) ?_ rfl ⟨rfl, rfl⟩
  simp [results, Tryz.results49, go_sem]
theorem abs_fin (a : Nat) : finW (a % 9223372036854775808) = finW a := by
  unfold finW
  congr 1
  apply propext
  omega
theorem abs_nan (a : Nat) : nanW (a % 9223372036854775808) = nanW a := by
  unfold nanW
  congr 2
  · apply propext
    omega
  · apply propext
    omega
theorem IsInf_any (a : Nat) (ha : a < 18446744073709551616) (hn : nanW a = false) (w : World) : Calls Tryz.prog 24 #[.float .f64 a, .int .i64 0] w fun e w' => e = .returned (.bool (!finW a)) ∧ w' = w := by
  have H := Abs_any a ha
  have h := run_fgtr (a % 9223372036854775808) 9218868437227405311
  have hq : (FloatKind.f64.format.order (a % 9223372036854775808) 9218868437227405311 == some .gt) = !finW a := by
    cases hf : finW a with
    | true => exact max_fin (by rw [abs_fin]; exact hf)
    | false => exact max_abs (by rw [abs_fin]; exact hf) (by rw [abs_nan]; exact hn) (Nat.mod_lt _ (by decide))
  clear h
  generalize finW a = q at *
  generalize a % 9223372036854775808 = b at *
  clear hn ha
  go_enter Tryz.func24, Tryz.ntmps24
  go_wp2_with (go_at_call 49; refine (H _).mono ?_; rintro e w1 ⟨rfl, rfl⟩)
  refine bodyPost_ret (v := .bool (!q)) ?_ rfl ⟨rfl, rfl⟩
  simp [results, Tryz.results24, go_sem]
end Go.Proofs.YtpfldlbdmhhjdaaGreatDoor
