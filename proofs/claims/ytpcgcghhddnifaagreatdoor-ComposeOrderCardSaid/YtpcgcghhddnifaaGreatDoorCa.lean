/-
  Contracts of utf's Name, of compose.isName, of vernacularref02's Name. Condition: the text is short enough to be in memory.
-/
import Derived.Test.YtpcgcghhddnifaaGreatDoorProg
import Derived.Test.YtpcgcghhddnifaaGreatDoorRows
import Derived.WalkKit
import Derived.ProofKit
import Derived.Lib.Hide
import Derived.Lib.SmallJoins
import Derived.Laws.IdiomStrings
import Derived.Deep.RegionWith
import Derived.Below
import Derived.WalkLawsBesides
import Derived.LoopN
set_option linter.unusedVariables false
namespace Go.Proofs.YtpcgcghhddnifaaGreatDoor
open Go.RowKit
def letB (b : UInt8) : Bool := (65 ≤ b.toNat && b.toNat ≤ 90) || (97 ≤ b.toNat && b.toNat ≤ 122)
def digB (b : UInt8) : Bool := 48 ≤ b.toNat && b.toNat ≤ 57
def startB (b : UInt8) : Bool := letB b || decide (b.toNat = 95)
def byteB (b : UInt8) : Bool := startB b || (digB b || (decide (b.toNat = 45) || decide (b.toNat = 46)))
def allB (f : UInt8 → Bool) (s : ByteArray) : Bool := decide (s.size ≠ 0) && s.data.toList.all f
def headB (s : ByteArray) : UInt8 := s.data.toList.headD 0
def nameB (s : ByteArray) : Bool := allB byteB s && startB (headB s)
def isNameB (s : ByteArray) : Bool := nameB s && decide (s.size ≤ 64)
theorem head_get (s : ByteArray) (h : 0 < s.size) : s[0] = headB s := by
  unfold headB
  have h2 : 0 < s.data.toList.length := by simpa using h
  cases e : s.data.toList with
  | nil => rw [e] at h2; simp at h2
  | cons a l =>
    show s.data[0] = _
    have : s.data.toList[0]? = some a := by rw [e]; rfl
    rw [Array.getElem?_toList] at this
    obtain ⟨_, h3⟩ := Array.getElem?_eq_some_iff.1 this
    rw [h3]
    rfl
theorem eqB (b : UInt8) (n : Nat) : ((b.toNat : Int) == (n : Int)) = decide (b.toNat = n) := by
  rw [Bool.eq_iff_iff]
  simp only [beq_iff_eq, decide_eq_true_eq]
  omega
theorem or32_let : ∀ n : Nat, n < 256 → (decide ((97 : Int) ≤ bits BinOp.or IntKind.u8 (n : Int) 32) && decide (bits BinOp.or IntKind.u8 (n : Int) 32 ≤ 122)) = ((65 ≤ n && n ≤ 90) || (97 ≤ n && n ≤ 122)) := by decide +kernel
set_option maxRecDepth 100000 in
theorem letter_any (b : UInt8) (w : World) : Calls Tryz.prog 109 #[.int .u8 b.toNat] w fun e w' => e = .returned (.bool (letB b)) ∧ w' = w := by
  have hb := or32_let b.toNat (UInt8.toNat_lt b)
  have hl : letB b = ((65 ≤ b.toNat && b.toNat ≤ 90) || (97 ≤ b.toNat && b.toNat ≤ 122)) := rfl
  rw [← hl] at hb
  clear hl
  generalize letB b = q at *
  generalize hx : bits BinOp.or IntKind.u8 (b.toNat : Int) 32 = x at *
  by_cases h1 : (97 : Int) ≤ x
  · by_cases h2 : x ≤ 122
    · have e : q = true := by rw [← hb]; simp [h1, h2]
      subst e
      go_enter Tryz.func109, Tryz.ntmps109
      go_wp2
      refine bodyPost_ret (v := .bool true) ?_ rfl ⟨rfl, rfl⟩
      simp [results, Tryz.results109, go_sem]
    · have e : q = false := by rw [← hb]; simp [h2]
      subst e
      go_enter Tryz.func109, Tryz.ntmps109
      go_wp2
      refine bodyPost_ret (v := .bool false) ?_ rfl ⟨rfl, rfl⟩
      simp [results, Tryz.results109, go_sem]
  · have e : q = false := by rw [← hb]; simp [h1]
    subst e
    go_enter Tryz.func109, Tryz.ntmps109
    go_wp2
    refine bodyPost_ret (v := .bool false) ?_ rfl ⟨rfl, rfl⟩
    simp [results, Tryz.results109, go_sem]
set_option maxRecDepth 100000 in
theorem digit_any (b : UInt8) (w : World) : Calls Tryz.prog 108 #[.int .u8 b.toNat] w fun e w' => e = .returned (.bool (digB b)) ∧ w' = w := by
  have hl : digB b = (48 ≤ b.toNat && b.toNat ≤ 57) := rfl
  generalize digB b = q at *
  by_cases h1 : (48 : Int) ≤ (b.toNat : Int)
  · by_cases h2 : (b.toNat : Int) ≤ 57
    · have e : q = true := by rw [hl]; simp; omega
      subst e
      clear hl
      go_enter Tryz.func108, Tryz.ntmps108
      go_wp2
      refine bodyPost_ret (v := .bool true) ?_ rfl ⟨rfl, rfl⟩
      simp [results, Tryz.results108, go_sem]
    · have e : q = false := by rw [hl]; simp; omega
      subst e
      clear hl
      go_enter Tryz.func108, Tryz.ntmps108
      go_wp2
      refine bodyPost_ret (v := .bool false) ?_ rfl ⟨rfl, rfl⟩
      simp [results, Tryz.results108, go_sem]
  · have e : q = false := by rw [hl]; simp; omega
    subst e
    clear hl
    go_enter Tryz.func108, Tryz.ntmps108
    go_wp2
    refine bodyPost_ret (v := .bool false) ?_ rfl ⟨rfl, rfl⟩
    simp [results, Tryz.results108, go_sem]
set_option maxRecDepth 100000 in
theorem NameStart_any (b : UInt8) (w : World) : Calls Tryz.prog 80 #[.int .u8 b.toNat] w fun e w' => e = .returned (.bool (startB b)) ∧ w' = w := by
  have H := letter_any b
  have k := eqB b 95
  unfold startB
  generalize letB b = p at *
  generalize decide (b.toNat = 95) = q at *
  cases p with
  | true =>
    clear k
    go_enter Tryz.func80, Tryz.ntmps80
    go_wp2_with (go_at_call 109; refine (H _).mono ?_; rintro e w1 ⟨rfl, rfl⟩)
    refine bodyPost_ret (v := .bool true) ?_ rfl ⟨rfl, rfl⟩
    simp [results, Tryz.results80, go_sem]
  | false =>
    have k : ((b.toNat : Int) == 95) = q := k
    go_enter Tryz.func80, Tryz.ntmps80
    go_wp2_with (go_at_call 109; refine (H _).mono ?_; rintro e w1 ⟨rfl, rfl⟩)
    refine bodyPost_ret (v := .bool q) ?_ rfl ⟨by simp, rfl⟩
    simp [results, Tryz.results80, go_sem]
set_option maxRecDepth 100000 in
theorem NameByte_any (b : UInt8) (w : World) : Calls Tryz.prog 79 #[.int .u8 b.toNat] w fun e w' => e = .returned (.bool (byteB b)) ∧ w' = w := by
  have H := NameStart_any b
  have D := digit_any b
  have k1 : ((b.toNat : Int) == 45) = decide (b.toNat = 45) := eqB b 45
  have k2 : ((b.toNat : Int) == 46) = decide (b.toNat = 46) := eqB b 46
  unfold byteB
  generalize startB b = p at *
  generalize digB b = d at *
  generalize decide (b.toNat = 45) = q1 at *
  generalize decide (b.toNat = 46) = q2 at *
  cases p with
  | true =>
    clear k1 k2 D
    go_enter Tryz.func79, Tryz.ntmps79
    go_wp2_with (go_at_call 80; refine (H _).mono ?_; rintro e w1 ⟨rfl, rfl⟩)
    refine bodyPost_ret (v := .bool true) ?_ rfl ⟨rfl, rfl⟩
    simp [results, Tryz.results79, go_sem]
  | false =>
    cases d with
    | true =>
      clear k1 k2
      go_enter Tryz.func79, Tryz.ntmps79
      go_wp2_with (first | (go_at_call 80; refine (H _).mono ?_; rintro e w1 ⟨rfl, rfl⟩) | (go_at_call 108; refine (D _).mono ?_; rintro e w1 ⟨rfl, rfl⟩))
      refine bodyPost_ret (v := .bool true) ?_ rfl ⟨rfl, rfl⟩
      simp [results, Tryz.results79, go_sem]
    | false =>
      cases q1 with
      | true =>
        clear k2
        go_enter Tryz.func79, Tryz.ntmps79
        go_wp2_with (first | (go_at_call 80; refine (H _).mono ?_; rintro e w1 ⟨rfl, rfl⟩) | (go_at_call 108; refine (D _).mono ?_; rintro e w1 ⟨rfl, rfl⟩))
        refine bodyPost_ret (v := .bool true) ?_ rfl ⟨rfl, rfl⟩
        simp [results, Tryz.results79, go_sem]
      | false =>
        cases q2 with
        | true =>
          go_enter Tryz.func79, Tryz.ntmps79
          go_wp2_with (first | (go_at_call 80; refine (H _).mono ?_; rintro e w1 ⟨rfl, rfl⟩) | (go_at_call 108; refine (D _).mono ?_; rintro e w1 ⟨rfl, rfl⟩))
          refine bodyPost_ret (v := .bool true) ?_ rfl ⟨rfl, rfl⟩
          simp [results, Tryz.results79, go_sem]
        | false =>
          go_enter Tryz.func79, Tryz.ntmps79
          go_wp2_with (first | (go_at_call 80; refine (H _).mono ?_; rintro e w1 ⟨rfl, rfl⟩) | (go_at_call 108; refine (D _).mono ?_; rintro e w1 ⟨rfl, rfl⟩))
          refine bodyPost_ret (v := .bool false) ?_ rfl ⟨rfl, rfl⟩
          simp [results, Tryz.results79, go_sem]
theorem all_take {f : UInt8 → Bool} {s : ByteArray} {i : Nat} (h : i < s.size) (hp : ∀ j (hj : j < s.size), j < i → f s[j] = true) (hi : f s[i] = true) : ∀ j (hj : j < s.size), j < i + 1 → f s[j] = true := fun j hj h1 => by
  rcases Nat.lt_or_ge j i with g | g
  · exact hp j hj g
  · obtain rfl : j = i := by omega
    exact hi
theorem all_no {f : UInt8 → Bool} {s : ByteArray} {i : Nat} (h : i < s.size) (hi : f s[i] = false) : allB f s = false := by
  unfold allB
  rw [List.all_eq_false.2 ⟨s[i], Array.getElem_mem_toList (xs := s.data) h, by simp [hi]⟩, Bool.and_false]
theorem all_yes {f : UInt8 → Bool} {s : ByteArray} (hp : ∀ j (hj : j < s.size), f s[j] = true) : allB f s = decide (s.size ≠ 0) := by
  unfold allB
  rw [List.all_eq_true.2 fun b hb => by
    obtain ⟨i, hi, rfl⟩ := List.getElem_of_mem hb
    exact hp i (by simpa using hi), Bool.and_true]
theorem isEmpty_dec (t : ByteArray) : t.toList.isEmpty = decide (t.size = 0) := by
  rw [Go.Lib.toList_data, Go.Lib.size_eq]
  cases t.data.toList <;> simp
set_option maxRecDepth 100000 in
set_option maxHeartbeats 1000000 in
/-- all, at a function that tells of every byte -/
theorem all_any (f : UInt8 → Bool) (g : Nat) (hg : ∀ (b : UInt8) (w : World), Calls Tryz.prog g #[.int .u8 b.toNat] w fun e w' => e = .returned (.bool (f b)) ∧ w' = w) (he : ∀ (args : Array Value) (w : World), (callFunc g args).run Tryz.prog w = .ok (.enter g args) w) (s : ByteArray) (hs : s.size ≤ 281474976710656) (w : World) :
    Calls Tryz.prog 78 #[.string s, .func (.func g) #[] #[]] w fun e w' => e = .returned (.bool (allB f s)) ∧ w' = w := by
  go_enter Tryz.func78, Tryz.ntmps78
  go_wp2_with fail
  go_loopw [8] (fun u wr => ∃ i : Nat, u = .int .i64 i ∧ i ≤ s.size ∧ wr = w ∧ ∀ j (hj : j < s.size), j < i → f s[j] = true) (fun u _ => s.size - (intOf u).toNat)
  case atStart => exact ⟨0, rfl, by omega, rfl, fun j hj h => by omega⟩
  case round =>
    obtain ⟨i, rfl, hi, rfl, hp⟩ := hrel
    have HP := Lib.hid hp
    clear hp
    by_cases h : i < s.size
    · have hc := hg s[i]
      have hcf := he #[.int .u8 s[i].toNat]
      cases hf : f s[i] with
      | true =>
        rw [hf] at hc
        have HQ := Lib.hid (all_take h HP.out hf)
        clear hf
        go_wp2_with fail
        refine (hc _).mono ?_
        rintro e w1 ⟨rfl, rfl⟩
        go_wp2_with fail
        go_roundw
        case rel => exact ⟨i + 1, by go_num, by omega, by trivial, HQ.out⟩
        case measure => simp [intOf]; omega
      | false =>
        rw [hf] at hc
        have hn := all_no h hf
        clear hf
        go_wp2_with fail
        refine (hc _).mono ?_
        rintro e w1 ⟨rfl, rfl⟩
        go_wp2_with fail
        refine bodyPost_ret (v := .bool false) ?_ rfl ⟨by rw [hn], rfl⟩
        simp [results, Tryz.results78, go_sem]
    · have hy := all_yes (f := f) (s := s) fun j hj => HP.out j hj (by omega)
      have hz := isEmpty_dec s
      by_cases z : s.size = 0
      · have z1 : s.toList.isEmpty = true := by rw [hz]; simpa using z
        rw [decide_eq_false (by simpa using z)] at hy
        clear hz
        go_wp2_with fail
        refine bodyPost_ret (v := .bool false) ?_ rfl ⟨by rw [hy], rfl⟩
        simp [results, Tryz.results78, go_sem]
      · have z1 : s.toList.isEmpty = false := by rw [hz]; simpa using z
        rw [decide_eq_true (by simpa using z)] at hy
        clear hz
        go_wp2_with fail
        refine bodyPost_ret (v := .bool true) ?_ rfl ⟨by rw [hy], rfl⟩
        simp [results, Tryz.results78, go_sem]
theorem entersNB (args : Array Value) (w : World) : (callFunc 79 args).run Tryz.prog w = .ok (.enter 79 args) w := by
  simp [callFunc, Tryz.func79, Tryz.f79]
set_option maxRecDepth 100000 in
theorem Name_any (s : ByteArray) (hs : s.size ≤ 281474976710656) (w : World) : Calls Tryz.prog 49 #[.string s] w fun e w' => e = .returned (.bool (nameB s)) ∧ w' = w := by
  have H := all_any byteB 79 NameByte_any entersNB s hs
  unfold nameB
  cases ha : allB byteB s with
  | false =>
    rw [ha] at H
    clear ha
    go_enter Tryz.func49, Tryz.ntmps49
    go_wp2_with (go_at_call 78; refine (H _).mono ?_; rintro e w1 ⟨rfl, rfl⟩)
    refine bodyPost_ret (v := .bool false) ?_ rfl ⟨rfl, rfl⟩
    simp [results, Tryz.results49, go_sem]
  | true =>
    rw [ha] at H
    have h0 : 0 < s.size := by
      unfold allB at ha
      simp only [Bool.and_eq_true, decide_eq_true_eq] at ha
      omega
    have hx := head_get s h0
    have HN := NameStart_any (headB s)
    have hix : ∀ w1 : World, (Instr.index 9 (.string s) (.int .i64 0)).run Tryz.prog w1 = .ok (.int .u8 (headB s).toNat) w1 := fun w1 => by
      rw [run_index_string _ _ _ _ _ Tryz.underlying9, dif_pos ⟨by omega, by omega⟩, ← hx]; rfl
    clear ha hx
    generalize headB s = b at *
    generalize startB b = q at *
    go_enter Tryz.func49, Tryz.ntmps49
    go_wp2_with (first | (go_at_call 78; refine (H _).mono ?_; rintro e w1 ⟨rfl, rfl⟩) | (go_at_call 80; refine (HN _).mono ?_; rintro e w1 ⟨rfl, rfl⟩))
    refine bodyPost_ret (v := .bool q) ?_ rfl ⟨by simp, rfl⟩
    simp [results, Tryz.results49, go_sem]
set_option maxRecDepth 100000 in
theorem isName_any (s : ByteArray) (hs : s.size ≤ 281474976710656) (w : World) : Calls Tryz.prog 27 #[.string s] w fun e w' => e = .returned (.bool (isNameB s)) ∧ w' = w := by
  have H := Name_any s hs
  unfold isNameB
  generalize nameB s = p at *
  cases p with
  | false =>
    go_enter Tryz.func27, Tryz.ntmps27
    go_wp2_with (go_at_call 49; refine (H _).mono ?_; rintro e w1 ⟨rfl, rfl⟩)
    refine bodyPost_ret (v := .bool false) ?_ rfl ⟨by simp, rfl⟩
    simp [results, Tryz.results27, go_sem]
  | true =>
    by_cases h : s.size ≤ 64
    · have h' : (s.size : Int) ≤ 64 := by omega
      go_enter Tryz.func27, Tryz.ntmps27
      go_wp2_with (go_at_call 49; refine (H _).mono ?_; rintro e w1 ⟨rfl, rfl⟩)
      refine bodyPost_ret (v := .bool true) ?_ rfl ⟨by simp [h], rfl⟩
      simp [results, Tryz.results27, go_sem]
    · have h' : ¬ (s.size : Int) ≤ 64 := by omega
      go_enter Tryz.func27, Tryz.ntmps27
      go_wp2_with (go_at_call 49; refine (H _).mono ?_; rintro e w1 ⟨rfl, rfl⟩)
      refine bodyPost_ret (v := .bool false) ?_ rfl ⟨by simp [h], rfl⟩
      simp [results, Tryz.results27, go_sem]
      omega
/-! ### the reference's -/
set_option maxRecDepth 100000 in
theorem refLetter_any (b : UInt8) (w : World) : Calls Tryz.prog 82 #[.int .u8 b.toNat] w fun e w' => e = .returned (.bool (letB b)) ∧ w' = w := by
  have hl : letB b = ((65 ≤ b.toNat && b.toNat ≤ 90) || (97 ≤ b.toNat && b.toNat ≤ 122)) := rfl
  generalize letB b = q at *
  by_cases h1 : (97 : Int) ≤ (b.toNat : Int)
  · by_cases h2 : (b.toNat : Int) ≤ 122
    · have e : q = true := by rw [hl]; simp; omega
      subst e
      clear hl
      go_enter Tryz.func82, Tryz.ntmps82
      go_wp2
      refine bodyPost_ret (v := .bool true) ?_ rfl ⟨rfl, rfl⟩
      simp [results, Tryz.results82, go_sem]
    · have e : q = false := by rw [hl]; simp; omega
      have h3 : (65 : Int) ≤ (b.toNat : Int) := by omega
      have h4 : ¬ (b.toNat : Int) ≤ 90 := by omega
      subst e
      clear hl
      go_enter Tryz.func82, Tryz.ntmps82
      go_wp2
      refine bodyPost_ret (v := .bool false) ?_ rfl ⟨rfl, rfl⟩
      simp [results, Tryz.results82, go_sem]
  · by_cases h3 : (65 : Int) ≤ (b.toNat : Int)
    · by_cases h4 : (b.toNat : Int) ≤ 90
      · have e : q = true := by rw [hl]; simp; omega
        subst e
        clear hl
        go_enter Tryz.func82, Tryz.ntmps82
        go_wp2
        refine bodyPost_ret (v := .bool true) ?_ rfl ⟨rfl, rfl⟩
        simp [results, Tryz.results82, go_sem]
      · have e : q = false := by rw [hl]; simp; omega
        subst e
        clear hl
        go_enter Tryz.func82, Tryz.ntmps82
        go_wp2
        refine bodyPost_ret (v := .bool false) ?_ rfl ⟨rfl, rfl⟩
        simp [results, Tryz.results82, go_sem]
    · have e : q = false := by rw [hl]; simp; omega
      subst e
      clear hl
      go_enter Tryz.func82, Tryz.ntmps82
      go_wp2
      refine bodyPost_ret (v := .bool false) ?_ rfl ⟨rfl, rfl⟩
      simp [results, Tryz.results82, go_sem]
set_option maxRecDepth 100000 in
theorem refDigit_any (b : UInt8) (w : World) : Calls Tryz.prog 83 #[.int .u8 b.toNat] w fun e w' => e = .returned (.bool (digB b)) ∧ w' = w := by
  have hl : digB b = (48 ≤ b.toNat && b.toNat ≤ 57) := rfl
  generalize digB b = q at *
  by_cases h1 : (48 : Int) ≤ (b.toNat : Int)
  · by_cases h2 : (b.toNat : Int) ≤ 57
    · have e : q = true := by rw [hl]; simp; omega
      subst e
      clear hl
      go_enter Tryz.func83, Tryz.ntmps83
      go_wp2
      refine bodyPost_ret (v := .bool true) ?_ rfl ⟨rfl, rfl⟩
      simp [results, Tryz.results83, go_sem]
    · have e : q = false := by rw [hl]; simp; omega
      subst e
      clear hl
      go_enter Tryz.func83, Tryz.ntmps83
      go_wp2
      refine bodyPost_ret (v := .bool false) ?_ rfl ⟨rfl, rfl⟩
      simp [results, Tryz.results83, go_sem]
  · have e : q = false := by rw [hl]; simp; omega
    subst e
    clear hl
    go_enter Tryz.func83, Tryz.ntmps83
    go_wp2
    refine bodyPost_ret (v := .bool false) ?_ rfl ⟨rfl, rfl⟩
    simp [results, Tryz.results83, go_sem]
set_option maxRecDepth 100000 in
theorem refStart_any (b : UInt8) (w : World) : Calls Tryz.prog 56 #[.int .u8 b.toNat] w fun e w' => e = .returned (.bool (startB b)) ∧ w' = w := by
  have H := refLetter_any b
  have k := eqB b 95
  unfold startB
  generalize letB b = p at *
  generalize decide (b.toNat = 95) = q at *
  cases p with
  | true =>
    clear k
    go_enter Tryz.func56, Tryz.ntmps56
    go_wp2_with (go_at_call 82; refine (H _).mono ?_; rintro e w1 ⟨rfl, rfl⟩)
    refine bodyPost_ret (v := .bool true) ?_ rfl ⟨rfl, rfl⟩
    simp [results, Tryz.results56, go_sem]
  | false =>
    have k : ((b.toNat : Int) == 95) = q := k
    go_enter Tryz.func56, Tryz.ntmps56
    go_wp2_with (go_at_call 82; refine (H _).mono ?_; rintro e w1 ⟨rfl, rfl⟩)
    refine bodyPost_ret (v := .bool q) ?_ rfl ⟨by simp, rfl⟩
    simp [results, Tryz.results56, go_sem]
set_option maxRecDepth 100000 in
theorem refByte_any (b : UInt8) (w : World) : Calls Tryz.prog 57 #[.int .u8 b.toNat] w fun e w' => e = .returned (.bool (byteB b)) ∧ w' = w := by
  have H := refStart_any b
  have D := refDigit_any b
  have k1 : ((b.toNat : Int) == 45) = decide (b.toNat = 45) := eqB b 45
  have k2 : ((b.toNat : Int) == 46) = decide (b.toNat = 46) := eqB b 46
  unfold byteB
  generalize startB b = p at *
  generalize digB b = d at *
  generalize decide (b.toNat = 45) = q1 at *
  generalize decide (b.toNat = 46) = q2 at *
  cases p with
  | true =>
    clear k1 k2 D
    go_enter Tryz.func57, Tryz.ntmps57
    go_wp2_with (go_at_call 56; refine (H _).mono ?_; rintro e w1 ⟨rfl, rfl⟩)
    refine bodyPost_ret (v := .bool true) ?_ rfl ⟨rfl, rfl⟩
    simp [results, Tryz.results57, go_sem]
  | false =>
    cases d with
    | true =>
      clear k1 k2
      go_enter Tryz.func57, Tryz.ntmps57
      go_wp2_with (first | (go_at_call 56; refine (H _).mono ?_; rintro e w1 ⟨rfl, rfl⟩) | (go_at_call 83; refine (D _).mono ?_; rintro e w1 ⟨rfl, rfl⟩))
      refine bodyPost_ret (v := .bool true) ?_ rfl ⟨rfl, rfl⟩
      simp [results, Tryz.results57, go_sem]
    | false =>
      cases q1 with
      | true =>
        clear k2
        go_enter Tryz.func57, Tryz.ntmps57
        go_wp2_with (first | (go_at_call 56; refine (H _).mono ?_; rintro e w1 ⟨rfl, rfl⟩) | (go_at_call 83; refine (D _).mono ?_; rintro e w1 ⟨rfl, rfl⟩))
        refine bodyPost_ret (v := .bool true) ?_ rfl ⟨rfl, rfl⟩
        simp [results, Tryz.results57, go_sem]
      | false =>
        go_enter Tryz.func57, Tryz.ntmps57
        go_wp2_with (first | (go_at_call 56; refine (H _).mono ?_; rintro e w1 ⟨rfl, rfl⟩) | (go_at_call 83; refine (D _).mono ?_; rintro e w1 ⟨rfl, rfl⟩))
        refine bodyPost_ret (v := .bool q2) ?_ rfl ⟨by simp, rfl⟩
        simp [results, Tryz.results57, go_sem]
theorem name_no {s : ByteArray} {i : Nat} (h : i < s.size) (hi : byteB s[i] = false) : nameB s = false := by
  unfold nameB
  rw [all_no h hi, Bool.false_and]
theorem name_no0 {s : ByteArray} (h : 0 < s.size) (hi : startB s[0] = false) : nameB s = false := by
  unfold nameB
  rw [← head_get s h, hi, Bool.and_false]
theorem name_yes {s : ByteArray} (hp : ∀ j (hj : j < s.size), byteB s[j] = true) (h0 : ∀ h : 0 < s.size, startB s[0] = true) : nameB s = decide (s.size ≠ 0) := by
  unfold nameB
  rw [all_yes hp]
  by_cases z : s.size = 0
  · rw [decide_eq_false (by simpa using z), Bool.false_and]
  · rw [decide_eq_true z, Bool.true_and, ← head_get s (by omega), h0 (by omega)]
set_option maxRecDepth 100000 in
set_option maxHeartbeats 2000000 in
theorem refName_any (s : ByteArray) (hs : s.size ≤ 281474976710656) (w : World) : Calls Tryz.prog 33 #[.string s] w fun e w' => e = .returned (.bool (nameB s)) ∧ w' = w := by
  go_enter Tryz.func33, Tryz.ntmps33
  go_wp2_with fail
  go_loopw [3] (fun u wr => ∃ i : Nat, u = .int .i64 i ∧ i ≤ s.size ∧ wr = w ∧ (∀ j (hj : j < s.size), j < i → byteB s[j] = true) ∧ (0 < i → ∀ h : 0 < s.size, startB s[0] = true)) (fun u _ => s.size - (intOf u).toNat)
  case atStart => exact ⟨0, rfl, by omega, rfl, fun j hj h => by omega, fun h => by omega⟩
  case round =>
    obtain ⟨i, rfl, hi, rfl, hp, h0⟩ := hrel
    have HP := Lib.hid hp
    have H0 := Lib.hid h0
    clear hp h0
    by_cases h : i < s.size
    · have hB := refByte_any s[i]
      have hS := refStart_any s[i]
      by_cases z : i = 0
      · subst z
        cases hst : startB s[0] with
        | false =>
          rw [hst] at hS
          have hn := name_no0 h hst
          clear hst hB
          go_wp2_with (go_at_call 56; refine (hS _).mono ?_; rintro e w1 ⟨rfl, rfl⟩)
          refine bodyPost_ret (v := .bool false) ?_ rfl ⟨by rw [hn], rfl⟩
          simp [results, Tryz.results33, go_sem]
        | true =>
          rw [hst] at hS
          cases hf : byteB s[0] with
          | true =>
            rw [hf] at hB
            have HQ := Lib.hid (all_take h HP.out hf)
            have HS := Lib.hid hst
            clear hf hst
            go_wp2_with (first | (go_at_call 56; refine (hS _).mono ?_; rintro e w1 ⟨rfl, rfl⟩) | (go_at_call 57; refine (hB _).mono ?_; rintro e w1 ⟨rfl, rfl⟩))
            go_roundw
            case rel => exact ⟨1, by go_num, by omega, by trivial, HQ.out, fun _ _ => HS.out⟩
            case measure => simp [intOf]; omega
          | false =>
            rw [hf] at hB
            have hn := name_no h hf
            clear hf hst
            go_wp2_with (first | (go_at_call 56; refine (hS _).mono ?_; rintro e w1 ⟨rfl, rfl⟩) | (go_at_call 57; refine (hB _).mono ?_; rintro e w1 ⟨rfl, rfl⟩))
            refine bodyPost_ret (v := .bool false) ?_ rfl ⟨by rw [hn], rfl⟩
            simp [results, Tryz.results33, go_sem]
      · have zk : ((i : Int) == 0) = false := by simpa using z
        cases hf : byteB s[i] with
        | true =>
          rw [hf] at hB
          have HQ := Lib.hid (all_take h HP.out hf)
          clear hf hS
          go_wp2_with (go_at_call 57; refine (hB _).mono ?_; rintro e w1 ⟨rfl, rfl⟩)
          go_roundw
          case rel => exact ⟨i + 1, by go_num, by omega, by trivial, HQ.out, fun _ => H0.out (by omega)⟩
          case measure => simp [intOf]; omega
        | false =>
          rw [hf] at hB
          have hn := name_no h hf
          clear hf hS
          go_wp2_with (go_at_call 57; refine (hB _).mono ?_; rintro e w1 ⟨rfl, rfl⟩)
          refine bodyPost_ret (v := .bool false) ?_ rfl ⟨by rw [hn], rfl⟩
          simp [results, Tryz.results33, go_sem]
    · have hy := name_yes (s := s) (fun j hj => HP.out j hj (by omega)) (fun hz => H0.out (by omega) hz)
      have hz := isEmpty_dec s
      by_cases z : s.size = 0
      · have z1 : s.toList.isEmpty = true := by rw [hz]; simpa using z
        rw [decide_eq_false (by simpa using z)] at hy
        clear hz
        go_wp2_with fail
        refine bodyPost_ret (v := .bool false) ?_ rfl ⟨by rw [hy], rfl⟩
        simp [results, Tryz.results33, go_sem]
      · have z1 : s.toList.isEmpty = false := by rw [hz]; simpa using z
        rw [decide_eq_true (by simpa using z)] at hy
        clear hz
        go_wp2_with fail
        refine bodyPost_ret (v := .bool true) ?_ rfl ⟨by rw [hy], rfl⟩
        simp [results, Tryz.results33, go_sem]
set_option maxRecDepth 100000 in
theorem refIsName_any (s : ByteArray) (hs : s.size ≤ 281474976710656) (w : World) : Calls Tryz.prog 11 #[.string s] w fun e w' => e = .returned (.bool (isNameB s)) ∧ w' = w := by
  have H := refName_any s hs
  unfold isNameB
  generalize nameB s = p at *
  cases p with
  | false =>
    go_enter Tryz.func11, Tryz.ntmps11
    go_wp2_with (go_at_call 33; refine (H _).mono ?_; rintro e w1 ⟨rfl, rfl⟩)
    refine bodyPost_ret (v := .bool false) ?_ rfl ⟨by simp, rfl⟩
    simp [results, Tryz.results11, go_sem]
  | true =>
    by_cases h : s.size ≤ 64
    · have h' : (s.size : Int) ≤ 64 := by omega
      go_enter Tryz.func11, Tryz.ntmps11
      go_wp2_with (go_at_call 33; refine (H _).mono ?_; rintro e w1 ⟨rfl, rfl⟩)
      refine bodyPost_ret (v := .bool true) ?_ rfl ⟨by simp [h], rfl⟩
      simp [results, Tryz.results11, go_sem]
    · have h' : ¬ (s.size : Int) ≤ 64 := by omega
      go_enter Tryz.func11, Tryz.ntmps11
      go_wp2_with (go_at_call 33; refine (H _).mono ?_; rintro e w1 ⟨rfl, rfl⟩)
      refine bodyPost_ret (v := .bool false) ?_ rfl ⟨by simp [h], rfl⟩
      simp [results, Tryz.results11, go_sem]
      omega
end Go.Proofs.YtpcgcghhddnifaaGreatDoor
