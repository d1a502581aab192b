/-
  Paths of steps, in plain Lean: what path.Print and the reference's Print come to at steps whose names and values are names. No condition.
  Contracts of utf's Name and of vernacularref02's Name. Condition: the text is short enough to be in memory.
  Words for steps in memory: a slice that reads as steps, each with its name and its keys. Conditions: those of each theorem.
  Steps that may be, in plain Lean; texts of names' bytes: right UTF-8, no sign with a meaning, nothing barred. No condition.
  A value of names' bytes holds no barred rune: strings.ContainsFunc with path.control. Condition: the text is of names' bytes and short.
  path.may at a step that may be. Condition: the step's keys read as these; they may be.
-/
import Derived.Lib.Join
import Derived.Test.YtjmebclcmpfdmaaGreatDoorGa
import Derived.WalkKit
import Derived.ProofKit
import Derived.Lib.Hide
import Derived.Lib.SmallJoins
import Derived.Laws.IdiomStrings
import Derived.Deep.RegionWith
import Derived.Below
import Derived.WalkLawsBesides
import Derived.LoopN
set_option linter.unusedVariables false
set_option linter.unusedSimpArgs false
namespace Go.Proofs.YtjmebclcmpfdmaaGreatDoor
/-- a step: its name, its keys with their values -/
structure Stp where
  name : ByteArray
  keys : List (ByteArray × ByteArray)
/-- a key's text: [key=value] -/
def keyT (k : ByteArray × ByteArray) : ByteArray := (((⟨#[91]⟩ ++ k.1) ++ ⟨#[61]⟩) ++ k.2) ++ ⟨#[93]⟩
/-- a step's text -/
def stepT (s : Stp) : ByteArray := s.keys.foldl (fun a k => a ++ keyT k) s.name
/-- what comes behind the first step -/
def restT (l : List Stp) : ByteArray := l.foldl (fun a s => (a ++ ⟨#[47]⟩) ++ stepT s) ⟨#[]⟩
/-- a path as the reference puts it together: from the left -/
def leftT : List Stp → ByteArray
  | [] => ⟨#[]⟩
  | s :: t => t.foldl (fun a s => (a ++ ⟨#[47]⟩) ++ stepT s) (stepT s)
theorem ba_ext {a b : ByteArray} (h : a.data.toList = b.data.toList) : a = b := by
  cases a; cases b
  congr 1
  exact Array.toList_inj.1 h
theorem left_list (t : List Stp) : ∀ a : ByteArray, (t.foldl (fun a s => (a ++ ⟨#[47]⟩) ++ stepT s) a).data.toList = a.data.toList ++ Lib.joinTail [47] (t.map fun s => (stepT s).data.toList) := by
  induction t with
  | nil => intro a; simp [Lib.joinTail]
  | cons s t ih =>
    intro a
    rw [List.foldl_cons, ih]
    simp [Lib.joinTail, ByteArray.data_append]
/-- the path as strings.Join makes it -/
theorem left_join (l : List Stp) : leftT l = ⟨(Lib.join ((l.map stepT).map (·.data.toList)) [47]).toArray⟩ := by
  apply ba_ext
  cases l with
  | nil => simp [leftT, Lib.join]
  | cons s t =>
    rw [leftT, left_list]
    simp only [List.map_cons, List.map_map, Lib.join, Lib.joinTail]
    induction t generalizing s with
    | nil => simp
    | cons u t ih =>
      have := ih u
      simp only [Function.comp_def] at this ⊢
      rw [List.map_cons, List.map_cons, List.intercalate_cons_cons, ← this]
      simp
end Go.Proofs.YtjmebclcmpfdmaaGreatDoor
namespace Go.Proofs.YtjmebclcmpfdmaaGreatDoor
open Go.RowKit
def letB (b : UInt8) : Bool := (65 ≤ b.toNat && b.toNat ≤ 90) || (97 ≤ b.toNat && b.toNat ≤ 122)
def digB (b : UInt8) : Bool := 48 ≤ b.toNat && b.toNat ≤ 57
def startB (b : UInt8) : Bool := letB b || decide (b.toNat = 95)
def byteB (b : UInt8) : Bool := startB b || (digB b || (decide (b.toNat = 45) || decide (b.toNat = 46)))
def allB (f : UInt8 → Bool) (s : ByteArray) : Bool := decide (s.size ≠ 0) && s.data.toList.all f
def headB (s : ByteArray) : UInt8 := s.data.toList.headD 0
def nameB (s : ByteArray) : Bool := allB byteB s && startB (headB s)
def isNameB (s : ByteArray) : Bool := nameB s && decide (s.size ≤ 64)
theorem head_get (s : ByteArray) (h : 0 < s.size) : s[0] = headB s := by
  unfold headB
  have h2 : 0 < s.data.toList.length := by simpa using h
  cases e : s.data.toList with
  | nil => rw [e] at h2; simp at h2
  | cons a l =>
    show s.data[0] = _
    have : s.data.toList[0]? = some a := by rw [e]; rfl
    rw [Array.getElem?_toList] at this
    obtain ⟨_, h3⟩ := Array.getElem?_eq_some_iff.1 this
    rw [h3]
    rfl
theorem or32_let : ∀ n : Nat, n < 256 → (decide ((97 : Int) ≤ bits BinOp.or IntKind.u8 (n : Int) 32) && decide (bits BinOp.or IntKind.u8 (n : Int) 32 ≤ 122)) = ((65 ≤ n && n ≤ 90) || (97 ≤ n && n ≤ 122)) := by decide +kernel
set_option maxRecDepth 100000 in
theorem letter_any (b : UInt8) (w : World) : Calls Tryz.prog 124 #[.int .u8 b.toNat] w fun e w' => e = .returned (.bool (letB b)) ∧ w' = w := by
  have hb := or32_let b.toNat (UInt8.toNat_lt b)
  have hl : letB b = ((65 ≤ b.toNat && b.toNat ≤ 90) || (97 ≤ b.toNat && b.toNat ≤ 122)) := rfl
  rw [← hl] at hb
  clear hl
  generalize letB b = q at *
  generalize hx : bits BinOp.or IntKind.u8 (b.toNat : Int) 32 = x at *
  by_cases h1 : (97 : Int) ≤ x
  · by_cases h2 : x ≤ 122
    · have e : q = true := by rw [← hb]; simp [h1, h2]
      subst e
      go_enter Tryz.func124, Tryz.ntmps124
      go_wp2
      refine bodyPost_ret (v := .bool true) ?_ rfl ⟨rfl, rfl⟩
      simp [results, Tryz.results124, go_sem]
    · have e : q = false := by rw [← hb]; simp [h2]
      subst e
      go_enter Tryz.func124, Tryz.ntmps124
      go_wp2
      refine bodyPost_ret (v := .bool false) ?_ rfl ⟨rfl, rfl⟩
      simp [results, Tryz.results124, go_sem]
  · have e : q = false := by rw [← hb]; simp [h1]
    subst e
    go_enter Tryz.func124, Tryz.ntmps124
    go_wp2
    refine bodyPost_ret (v := .bool false) ?_ rfl ⟨rfl, rfl⟩
    simp [results, Tryz.results124, go_sem]
set_option maxRecDepth 100000 in
theorem digit_any (b : UInt8) (w : World) : Calls Tryz.prog 176 #[.int .u8 b.toNat] w fun e w' => e = .returned (.bool (digB b)) ∧ w' = w := by
  have hl : digB b = (48 ≤ b.toNat && b.toNat ≤ 57) := rfl
  generalize digB b = q at *
  by_cases h1 : (48 : Int) ≤ (b.toNat : Int)
  · by_cases h2 : (b.toNat : Int) ≤ 57
    · have e : q = true := by rw [hl]; simp; omega
      subst e
      clear hl
      go_enter Tryz.func176, Tryz.ntmps176
      go_wp2
      refine bodyPost_ret (v := .bool true) ?_ rfl ⟨rfl, rfl⟩
      simp [results, Tryz.results176, go_sem]
    · have e : q = false := by rw [hl]; simp; omega
      subst e
      clear hl
      go_enter Tryz.func176, Tryz.ntmps176
      go_wp2
      refine bodyPost_ret (v := .bool false) ?_ rfl ⟨rfl, rfl⟩
      simp [results, Tryz.results176, go_sem]
  · have e : q = false := by rw [hl]; simp; omega
    subst e
    clear hl
    go_enter Tryz.func176, Tryz.ntmps176
    go_wp2
    refine bodyPost_ret (v := .bool false) ?_ rfl ⟨rfl, rfl⟩
    simp [results, Tryz.results176, go_sem]
set_option maxRecDepth 100000 in
theorem NameStart_any (b : UInt8) (w : World) : Calls Tryz.prog 140 #[.int .u8 b.toNat] w fun e w' => e = .returned (.bool (startB b)) ∧ w' = w := by
  have H := letter_any b
  have k := eqB b 95
  unfold startB
  generalize letB b = p at *
  generalize decide (b.toNat = 95) = q at *
  cases p with
  | true =>
    clear k
    go_enter Tryz.func140, Tryz.ntmps140
    go_wp2_with (go_at_call 124; refine (H _).mono ?_; rintro e w1 ⟨rfl, rfl⟩)
    refine bodyPost_ret (v := .bool true) ?_ rfl ⟨rfl, rfl⟩
    simp [results, Tryz.results140, go_sem]
  | false =>
    have k : ((b.toNat : Int) == 95) = q := k
    go_enter Tryz.func140, Tryz.ntmps140
    go_wp2_with (go_at_call 124; refine (H _).mono ?_; rintro e w1 ⟨rfl, rfl⟩)
    refine bodyPost_ret (v := .bool q) ?_ rfl ⟨by simp, rfl⟩
    simp [results, Tryz.results140, go_sem]
set_option maxRecDepth 100000 in
theorem NameByte_any (b : UInt8) (w : World) : Calls Tryz.prog 139 #[.int .u8 b.toNat] w fun e w' => e = .returned (.bool (byteB b)) ∧ w' = w := by
  have H := NameStart_any b
  have D := digit_any b
  have k1 : ((b.toNat : Int) == 45) = decide (b.toNat = 45) := eqB b 45
  have k2 : ((b.toNat : Int) == 46) = decide (b.toNat = 46) := eqB b 46
  unfold byteB
  generalize startB b = p at *
  generalize digB b = d at *
  generalize decide (b.toNat = 45) = q1 at *
  generalize decide (b.toNat = 46) = q2 at *
  cases p with
  | true =>
    clear k1 k2 D
    go_enter Tryz.func139, Tryz.ntmps139
    go_wp2_with (go_at_call 140; refine (H _).mono ?_; rintro e w1 ⟨rfl, rfl⟩)
    refine bodyPost_ret (v := .bool true) ?_ rfl ⟨rfl, rfl⟩
    simp [results, Tryz.results139, go_sem]
  | false =>
    cases d with
    | true =>
      clear k1 k2
      go_enter Tryz.func139, Tryz.ntmps139
      go_wp2_with (first | (go_at_call 140; refine (H _).mono ?_; rintro e w1 ⟨rfl, rfl⟩) | (go_at_call 176; refine (D _).mono ?_; rintro e w1 ⟨rfl, rfl⟩))
      refine bodyPost_ret (v := .bool true) ?_ rfl ⟨rfl, rfl⟩
      simp [results, Tryz.results139, go_sem]
    | false =>
      cases q1 with
      | true =>
        clear k2
        go_enter Tryz.func139, Tryz.ntmps139
        go_wp2_with (first | (go_at_call 140; refine (H _).mono ?_; rintro e w1 ⟨rfl, rfl⟩) | (go_at_call 176; refine (D _).mono ?_; rintro e w1 ⟨rfl, rfl⟩))
        refine bodyPost_ret (v := .bool true) ?_ rfl ⟨rfl, rfl⟩
        simp [results, Tryz.results139, go_sem]
      | false =>
        cases q2 with
        | true =>
          go_enter Tryz.func139, Tryz.ntmps139
          go_wp2_with (first | (go_at_call 140; refine (H _).mono ?_; rintro e w1 ⟨rfl, rfl⟩) | (go_at_call 176; refine (D _).mono ?_; rintro e w1 ⟨rfl, rfl⟩))
          refine bodyPost_ret (v := .bool true) ?_ rfl ⟨rfl, rfl⟩
          simp [results, Tryz.results139, go_sem]
        | false =>
          go_enter Tryz.func139, Tryz.ntmps139
          go_wp2_with (first | (go_at_call 140; refine (H _).mono ?_; rintro e w1 ⟨rfl, rfl⟩) | (go_at_call 176; refine (D _).mono ?_; rintro e w1 ⟨rfl, rfl⟩))
          refine bodyPost_ret (v := .bool false) ?_ rfl ⟨rfl, rfl⟩
          simp [results, Tryz.results139, go_sem]
theorem all_take {f : UInt8 → Bool} {s : ByteArray} {i : Nat} (h : i < s.size) (hp : ∀ j (hj : j < s.size), j < i → f s[j] = true) (hi : f s[i] = true) : ∀ j (hj : j < s.size), j < i + 1 → f s[j] = true := fun j hj h1 => by
  rcases Nat.lt_or_ge j i with g | g
  · exact hp j hj g
  · obtain rfl : j = i := by omega
    exact hi
theorem all_no {f : UInt8 → Bool} {s : ByteArray} {i : Nat} (h : i < s.size) (hi : f s[i] = false) : allB f s = false := by
  unfold allB
  rw [List.all_eq_false.2 ⟨s[i], Array.getElem_mem_toList (xs := s.data) h, by simp [hi]⟩, Bool.and_false]
theorem all_yes {f : UInt8 → Bool} {s : ByteArray} (hp : ∀ j (hj : j < s.size), f s[j] = true) : allB f s = decide (s.size ≠ 0) := by
  unfold allB
  rw [List.all_eq_true.2 fun b hb => by
    obtain ⟨i, hi, rfl⟩ := List.getElem_of_mem hb
    exact hp i (by simpa using hi), Bool.and_true]
theorem isEmpty_dec (t : ByteArray) : t.toList.isEmpty = decide (t.size = 0) := by
  rw [Go.Lib.toList_data, Go.Lib.size_eq]
  cases t.data.toList <;> simp
set_option maxRecDepth 100000 in
set_option maxHeartbeats 1000000 in
/-- all, at a function that tells of every byte -/
theorem all_any (f : UInt8 → Bool) (g : Nat) (hg : ∀ (b : UInt8) (w : World), Calls Tryz.prog g #[.int .u8 b.toNat] w fun e w' => e = .returned (.bool (f b)) ∧ w' = w) (he : ∀ (args : Array Value) (w : World), (callFunc g args).run Tryz.prog w = .ok (.enter g args) w) (s : ByteArray) (hs : s.size ≤ 281474976710656) (w : World) :
    Calls Tryz.prog 123 #[.string s, .func (.func g) #[] #[]] w fun e w' => e = .returned (.bool (allB f s)) ∧ w' = w := by
  go_enter Tryz.func123, Tryz.ntmps123
  go_wp2_with fail
  go_loopw [8] (fun u wr => ∃ i : Nat, u = .int .i64 i ∧ i ≤ s.size ∧ wr = w ∧ ∀ j (hj : j < s.size), j < i → f s[j] = true) (fun u _ => s.size - (intOf u).toNat)
  case atStart => exact ⟨0, rfl, by omega, rfl, fun j hj h => by omega⟩
  case round =>
    obtain ⟨i, rfl, hi, rfl, hp⟩ := hrel
    have HP := Lib.hid hp
    clear hp
    by_cases h : i < s.size
    · have hc := hg s[i]
      have hcf := he #[.int .u8 s[i].toNat]
      cases hf : f s[i] with
      | true =>
        rw [hf] at hc
        have HQ := Lib.hid (all_take h HP.out hf)
        clear hf
        go_wp2_with fail
        refine (hc _).mono ?_
        rintro e w1 ⟨rfl, rfl⟩
        go_wp2_with fail
        go_roundw
        case rel => exact ⟨i + 1, by go_num, by omega, by trivial, HQ.out⟩
        case measure => simp [intOf]; omega
      | false =>
        rw [hf] at hc
        have hn := all_no h hf
        clear hf
        go_wp2_with fail
        refine (hc _).mono ?_
        rintro e w1 ⟨rfl, rfl⟩
        go_wp2_with fail
        refine bodyPost_ret (v := .bool false) ?_ rfl ⟨by rw [hn], rfl⟩
        simp [results, Tryz.results123, go_sem]
    · have hy := all_yes (f := f) (s := s) fun j hj => HP.out j hj (by omega)
      have hz := isEmpty_dec s
      by_cases z : s.size = 0
      · have z1 : s.toList.isEmpty = true := by rw [hz]; simpa using z
        rw [decide_eq_false (by simpa using z)] at hy
        clear hz
        go_wp2_with fail
        refine bodyPost_ret (v := .bool false) ?_ rfl ⟨by rw [hy], rfl⟩
        simp [results, Tryz.results123, go_sem]
      · have z1 : s.toList.isEmpty = false := by rw [hz]; simpa using z
        rw [decide_eq_true (by simpa using z)] at hy
        clear hz
        go_wp2_with fail
        refine bodyPost_ret (v := .bool true) ?_ rfl ⟨by rw [hy], rfl⟩
        simp [results, Tryz.results123, go_sem]
theorem entersNB (args : Array Value) (w : World) : (callFunc 139 args).run Tryz.prog w = .ok (.enter 139 args) w := by
  simp [callFunc, Tryz.func139, Tryz.f139]
set_option maxRecDepth 100000 in
theorem Name_any (s : ByteArray) (hs : s.size ≤ 281474976710656) (w : World) : Calls Tryz.prog 87 #[.string s] w fun e w' => e = .returned (.bool (nameB s)) ∧ w' = w := by
  have H := all_any byteB 139 NameByte_any entersNB s hs
  unfold nameB
  cases ha : allB byteB s with
  | false =>
    rw [ha] at H
    clear ha
    go_enter Tryz.func87, Tryz.ntmps87
    go_wp2_with (go_at_call 123; refine (H _).mono ?_; rintro e w1 ⟨rfl, rfl⟩)
    refine bodyPost_ret (v := .bool false) ?_ rfl ⟨rfl, rfl⟩
    simp [results, Tryz.results87, go_sem]
  | true =>
    rw [ha] at H
    have h0 : 0 < s.size := by
      unfold allB at ha
      simp only [Bool.and_eq_true, decide_eq_true_eq] at ha
      omega
    have hx := head_get s h0
    have HN := NameStart_any (headB s)
    have hix : ∀ w1 : World, (Instr.index 9 (.string s) (.int .i64 0)).run Tryz.prog w1 = .ok (.int .u8 (headB s).toNat) w1 := fun w1 => by
      rw [run_index_string _ _ _ _ _ Tryz.underlying9, dif_pos ⟨by omega, by omega⟩, ← hx]; rfl
    clear ha hx
    generalize headB s = b at *
    generalize startB b = q at *
    go_enter Tryz.func87, Tryz.ntmps87
    go_wp2_with (first | (go_at_call 123; refine (H _).mono ?_; rintro e w1 ⟨rfl, rfl⟩) | (go_at_call 140; refine (HN _).mono ?_; rintro e w1 ⟨rfl, rfl⟩))
    refine bodyPost_ret (v := .bool q) ?_ rfl ⟨by simp, rfl⟩
    simp [results, Tryz.results87, go_sem]
set_option maxRecDepth 100000 in
theorem refLetter_any (b : UInt8) (w : World) : Calls Tryz.prog 143 #[.int .u8 b.toNat] w fun e w' => e = .returned (.bool (letB b)) ∧ w' = w := by
  have hl : letB b = ((65 ≤ b.toNat && b.toNat ≤ 90) || (97 ≤ b.toNat && b.toNat ≤ 122)) := rfl
  generalize letB b = q at *
  by_cases h1 : (97 : Int) ≤ (b.toNat : Int)
  · by_cases h2 : (b.toNat : Int) ≤ 122
    · have e : q = true := by rw [hl]; simp; omega
      subst e
      clear hl
      go_enter Tryz.func143, Tryz.ntmps143
      go_wp2
      refine bodyPost_ret (v := .bool true) ?_ rfl ⟨rfl, rfl⟩
      simp [results, Tryz.results143, go_sem]
    · have e : q = false := by rw [hl]; simp; omega
      have h3 : (65 : Int) ≤ (b.toNat : Int) := by omega
      have h4 : ¬ (b.toNat : Int) ≤ 90 := by omega
      subst e
      clear hl
      go_enter Tryz.func143, Tryz.ntmps143
      go_wp2
      refine bodyPost_ret (v := .bool false) ?_ rfl ⟨rfl, rfl⟩
      simp [results, Tryz.results143, go_sem]
  · by_cases h3 : (65 : Int) ≤ (b.toNat : Int)
    · by_cases h4 : (b.toNat : Int) ≤ 90
      · have e : q = true := by rw [hl]; simp; omega
        subst e
        clear hl
        go_enter Tryz.func143, Tryz.ntmps143
        go_wp2
        refine bodyPost_ret (v := .bool true) ?_ rfl ⟨rfl, rfl⟩
        simp [results, Tryz.results143, go_sem]
      · have e : q = false := by rw [hl]; simp; omega
        subst e
        clear hl
        go_enter Tryz.func143, Tryz.ntmps143
        go_wp2
        refine bodyPost_ret (v := .bool false) ?_ rfl ⟨rfl, rfl⟩
        simp [results, Tryz.results143, go_sem]
    · have e : q = false := by rw [hl]; simp; omega
      subst e
      clear hl
      go_enter Tryz.func143, Tryz.ntmps143
      go_wp2
      refine bodyPost_ret (v := .bool false) ?_ rfl ⟨rfl, rfl⟩
      simp [results, Tryz.results143, go_sem]
set_option maxRecDepth 100000 in
theorem refDigit_any (b : UInt8) (w : World) : Calls Tryz.prog 144 #[.int .u8 b.toNat] w fun e w' => e = .returned (.bool (digB b)) ∧ w' = w := by
  have hl : digB b = (48 ≤ b.toNat && b.toNat ≤ 57) := rfl
  generalize digB b = q at *
  by_cases h1 : (48 : Int) ≤ (b.toNat : Int)
  · by_cases h2 : (b.toNat : Int) ≤ 57
    · have e : q = true := by rw [hl]; simp; omega
      subst e
      clear hl
      go_enter Tryz.func144, Tryz.ntmps144
      go_wp2
      refine bodyPost_ret (v := .bool true) ?_ rfl ⟨rfl, rfl⟩
      simp [results, Tryz.results144, go_sem]
    · have e : q = false := by rw [hl]; simp; omega
      subst e
      clear hl
      go_enter Tryz.func144, Tryz.ntmps144
      go_wp2
      refine bodyPost_ret (v := .bool false) ?_ rfl ⟨rfl, rfl⟩
      simp [results, Tryz.results144, go_sem]
  · have e : q = false := by rw [hl]; simp; omega
    subst e
    clear hl
    go_enter Tryz.func144, Tryz.ntmps144
    go_wp2
    refine bodyPost_ret (v := .bool false) ?_ rfl ⟨rfl, rfl⟩
    simp [results, Tryz.results144, go_sem]
set_option maxRecDepth 100000 in
theorem refStart_any (b : UInt8) (w : World) : Calls Tryz.prog 92 #[.int .u8 b.toNat] w fun e w' => e = .returned (.bool (startB b)) ∧ w' = w := by
  have H := refLetter_any b
  have k := eqB b 95
  unfold startB
  generalize letB b = p at *
  generalize decide (b.toNat = 95) = q at *
  cases p with
  | true =>
    clear k
    go_enter Tryz.func92, Tryz.ntmps92
    go_wp2_with (go_at_call 143; refine (H _).mono ?_; rintro e w1 ⟨rfl, rfl⟩)
    refine bodyPost_ret (v := .bool true) ?_ rfl ⟨rfl, rfl⟩
    simp [results, Tryz.results92, go_sem]
  | false =>
    have k : ((b.toNat : Int) == 95) = q := k
    go_enter Tryz.func92, Tryz.ntmps92
    go_wp2_with (go_at_call 143; refine (H _).mono ?_; rintro e w1 ⟨rfl, rfl⟩)
    refine bodyPost_ret (v := .bool q) ?_ rfl ⟨by simp, rfl⟩
    simp [results, Tryz.results92, go_sem]
set_option maxRecDepth 100000 in
theorem refByte_any (b : UInt8) (w : World) : Calls Tryz.prog 93 #[.int .u8 b.toNat] w fun e w' => e = .returned (.bool (byteB b)) ∧ w' = w := by
  have H := refStart_any b
  have D := refDigit_any b
  have k1 : ((b.toNat : Int) == 45) = decide (b.toNat = 45) := eqB b 45
  have k2 : ((b.toNat : Int) == 46) = decide (b.toNat = 46) := eqB b 46
  unfold byteB
  generalize startB b = p at *
  generalize digB b = d at *
  generalize decide (b.toNat = 45) = q1 at *
  generalize decide (b.toNat = 46) = q2 at *
  cases p with
  | true =>
    clear k1 k2 D
    go_enter Tryz.func93, Tryz.ntmps93
    go_wp2_with (go_at_call 92; refine (H _).mono ?_; rintro e w1 ⟨rfl, rfl⟩)
    refine bodyPost_ret (v := .bool true) ?_ rfl ⟨rfl, rfl⟩
    simp [results, Tryz.results93, go_sem]
  | false =>
    cases d with
    | true =>
      clear k1 k2
      go_enter Tryz.func93, Tryz.ntmps93
      go_wp2_with (first | (go_at_call 92; refine (H _).mono ?_; rintro e w1 ⟨rfl, rfl⟩) | (go_at_call 144; refine (D _).mono ?_; rintro e w1 ⟨rfl, rfl⟩))
      refine bodyPost_ret (v := .bool true) ?_ rfl ⟨rfl, rfl⟩
      simp [results, Tryz.results93, go_sem]
    | false =>
      cases q1 with
      | true =>
        clear k2
        go_enter Tryz.func93, Tryz.ntmps93
        go_wp2_with (first | (go_at_call 92; refine (H _).mono ?_; rintro e w1 ⟨rfl, rfl⟩) | (go_at_call 144; refine (D _).mono ?_; rintro e w1 ⟨rfl, rfl⟩))
        refine bodyPost_ret (v := .bool true) ?_ rfl ⟨rfl, rfl⟩
        simp [results, Tryz.results93, go_sem]
      | false =>
        go_enter Tryz.func93, Tryz.ntmps93
        go_wp2_with (first | (go_at_call 92; refine (H _).mono ?_; rintro e w1 ⟨rfl, rfl⟩) | (go_at_call 144; refine (D _).mono ?_; rintro e w1 ⟨rfl, rfl⟩))
        refine bodyPost_ret (v := .bool q2) ?_ rfl ⟨by simp, rfl⟩
        simp [results, Tryz.results93, go_sem]
theorem name_no {s : ByteArray} {i : Nat} (h : i < s.size) (hi : byteB s[i] = false) : nameB s = false := by
  unfold nameB
  rw [all_no h hi, Bool.false_and]
theorem name_no0 {s : ByteArray} (h : 0 < s.size) (hi : startB s[0] = false) : nameB s = false := by
  unfold nameB
  rw [← head_get s h, hi, Bool.and_false]
theorem name_yes {s : ByteArray} (hp : ∀ j (hj : j < s.size), byteB s[j] = true) (h0 : ∀ h : 0 < s.size, startB s[0] = true) : nameB s = decide (s.size ≠ 0) := by
  unfold nameB
  rw [all_yes hp]
  by_cases z : s.size = 0
  · rw [decide_eq_false (by simpa using z), Bool.false_and]
  · rw [decide_eq_true z, Bool.true_and, ← head_get s (by omega), h0 (by omega)]
set_option maxRecDepth 100000 in
set_option maxHeartbeats 2000000 in
theorem refName_any (s : ByteArray) (hs : s.size ≤ 281474976710656) (w : World) : Calls Tryz.prog 40 #[.string s] w fun e w' => e = .returned (.bool (nameB s)) ∧ w' = w := by
  go_enter Tryz.func40, Tryz.ntmps40
  go_wp2_with fail
  go_loopw [3] (fun u wr => ∃ i : Nat, u = .int .i64 i ∧ i ≤ s.size ∧ wr = w ∧ (∀ j (hj : j < s.size), j < i → byteB s[j] = true) ∧ (0 < i → ∀ h : 0 < s.size, startB s[0] = true)) (fun u _ => s.size - (intOf u).toNat)
  case atStart => exact ⟨0, rfl, by omega, rfl, fun j hj h => by omega, fun h => by omega⟩
  case round =>
    obtain ⟨i, rfl, hi, rfl, hp, h0⟩ := hrel
    have HP := Lib.hid hp
    have H0 := Lib.hid h0
    clear hp h0
    by_cases h : i < s.size
    · have hB := refByte_any s[i]
      have hS := refStart_any s[i]
      by_cases z : i = 0
      · subst z
        cases hst : startB s[0] with
        | false =>
          rw [hst] at hS
          have hn := name_no0 h hst
          clear hst hB
          go_wp2_with (go_at_call 92; refine (hS _).mono ?_; rintro e w1 ⟨rfl, rfl⟩)
          refine bodyPost_ret (v := .bool false) ?_ rfl ⟨by rw [hn], rfl⟩
          simp [results, Tryz.results40, go_sem]
        | true =>
          rw [hst] at hS
          cases hf : byteB s[0] with
          | true =>
            rw [hf] at hB
            have HQ := Lib.hid (all_take h HP.out hf)
            have HS := Lib.hid hst
            clear hf hst
            go_wp2_with (first | (go_at_call 92; refine (hS _).mono ?_; rintro e w1 ⟨rfl, rfl⟩) | (go_at_call 93; refine (hB _).mono ?_; rintro e w1 ⟨rfl, rfl⟩))
            go_roundw
            case rel => exact ⟨1, by go_num, by omega, by trivial, HQ.out, fun _ _ => HS.out⟩
            case measure => simp [intOf]; omega
          | false =>
            rw [hf] at hB
            have hn := name_no h hf
            clear hf hst
            go_wp2_with (first | (go_at_call 92; refine (hS _).mono ?_; rintro e w1 ⟨rfl, rfl⟩) | (go_at_call 93; refine (hB _).mono ?_; rintro e w1 ⟨rfl, rfl⟩))
            refine bodyPost_ret (v := .bool false) ?_ rfl ⟨by rw [hn], rfl⟩
            simp [results, Tryz.results40, go_sem]
      · have zk : ((i : Int) == 0) = false := by simpa using z
        cases hf : byteB s[i] with
        | true =>
          rw [hf] at hB
          have HQ := Lib.hid (all_take h HP.out hf)
          clear hf hS
          go_wp2_with (go_at_call 93; refine (hB _).mono ?_; rintro e w1 ⟨rfl, rfl⟩)
          go_roundw
          case rel => exact ⟨i + 1, by go_num, by omega, by trivial, HQ.out, fun _ => H0.out (by omega)⟩
          case measure => simp [intOf]; omega
        | false =>
          rw [hf] at hB
          have hn := name_no h hf
          clear hf hS
          go_wp2_with (go_at_call 93; refine (hB _).mono ?_; rintro e w1 ⟨rfl, rfl⟩)
          refine bodyPost_ret (v := .bool false) ?_ rfl ⟨by rw [hn], rfl⟩
          simp [results, Tryz.results40, go_sem]
    · have hy := name_yes (s := s) (fun j hj => HP.out j hj (by omega)) (fun hz => H0.out (by omega) hz)
      have hz := isEmpty_dec s
      by_cases z : s.size = 0
      · have z1 : s.toList.isEmpty = true := by rw [hz]; simpa using z
        rw [decide_eq_false (by simpa using z)] at hy
        clear hz
        go_wp2_with fail
        refine bodyPost_ret (v := .bool false) ?_ rfl ⟨by rw [hy], rfl⟩
        simp [results, Tryz.results40, go_sem]
      · have z1 : s.toList.isEmpty = false := by rw [hz]; simpa using z
        rw [decide_eq_true (by simpa using z)] at hy
        clear hz
        go_wp2_with fail
        refine bodyPost_ret (v := .bool true) ?_ rfl ⟨by rw [hy], rfl⟩
        simp [results, Tryz.results40, go_sem]
end Go.Proofs.YtjmebclcmpfdmaaGreatDoor
namespace Go.Proofs.YtjmebclcmpfdmaaGreatDoor
open Go.RowKit
def kcells (ks : List (ByteArray × ByteArray)) : List Value := ks.flatMap fun k => [.string k.1, .string k.2]
theorem kcells_length (l : List (ByteArray × ByteArray)) : (kcells l).length = l.length * 2 := by
  unfold kcells; induction l with
  | nil => rfl
  | cons p l ih => simp only [List.flatMap_cons, List.length_append, ih]; simp; omega
theorem kcells_append (l m : List (ByteArray × ByteArray)) : kcells (l ++ m) = kcells l ++ kcells m := by unfold kcells; simp
theorem kcells_get : ∀ {l : List (ByteArray × ByteArray)} {i : Nat} (h : i < l.length), (kcells l)[i * 2]? = some (.string l[i].1) ∧ (kcells l)[i * 2 + 1]? = some (.string l[i].2)
  | x :: l, 0, _ => ⟨rfl, rfl⟩
  | x :: l, i + 1, h => by
    have := kcells_get (l := l) (i := i) (by simpa using h)
    rw [show (i + 1) * 2 = i * 2 + 2 by omega]
    simpa [kcells] using this
/-- a slice that reads as keys with their values -/
def Pairs (w : World) (B : Nat) (A : Option Addr) (ks : List (ByteArray × ByteArray)) : Prop :=
  0 < ks.length → ∃ ad : Addr, A = some ad ∧ ad.block < B ∧ ∀ j u, (kcells ks)[j]? = some u → w.cell? (ad.add j) = some u
section
variable {w w' : World} {B B' : Nat} {A : Option Addr} {ks : List (ByteArray × ByteArray)}
theorem Pairs.nil : Pairs w B A [] := fun h => by simp at h
theorem Pairs.below (h : Pairs w B A ks) (hb : Below B w w') : Pairs w' B A ks := fun hn => by
  obtain ⟨ad, e, hlt, hc⟩ := h hn
  exact ⟨ad, e, hlt, fun j u hj => (hb.cell (p := ad.add j) (by rw [block_of_add]; exact hlt)).trans (hc j u hj)⟩
theorem Pairs.more (h : Pairs w B A ks) (hB : B ≤ B') : Pairs w B' A ks := fun hn => by
  obtain ⟨ad, e, hlt, hc⟩ := h hn
  exact ⟨ad, e, by omega, hc⟩
theorem Pairs.alloc (h : Pairs w B A ks) (hB : B ≤ w.heap.size) (o : Obj) : Pairs (w.alloc o) B A ks := h.below ((Below.refl B w).alloc hB o)
theorem Pairs.at_ (h : Pairs w B A ks) {i : Nat} (hi : i < ks.length) :
    ∃ ad : Addr, A = some ad ∧ ad.block < B ∧ w.cell? (ad.add (i * 2)) = some (.string ks[i].1) ∧ w.cell? ⟨(ad.add (i * 2)).block, (ad.add (i * 2)).off + 1, none⟩ = some (.string ks[i].2) := by
  obtain ⟨ad, e, hb, hc⟩ := h (by omega)
  obtain ⟨h0, h1⟩ := kcells_get hi
  refine ⟨ad, e, hb, hc _ _ h0, ?_⟩
  exact (congrArg w.cell? (add_of_add ad (i * 2) 1)).trans (hc _ _ h1)
theorem Pairs.of_own {base : Nat} {v : Value} (h : w.ownsRow base 175 2 v ks.length (kcells ks)) : ∃ A c, v = .slice A ks.length c ∧ Pairs w w.heap.size A ks := by
  rcases Nat.eq_zero_or_pos ks.length with z | z
  · rcases h.2 with ⟨rfl, _⟩ | ⟨g, cap, cur, rfl, _⟩
    · exact ⟨none, 0, by rw [z], fun hl => by omega⟩
    · exact ⟨_, _, rfl, fun hl => by omega⟩
  · obtain ⟨g, cap, rfl, _, hlt⟩ := h.form z
    exact ⟨_, _, rfl, (Reads.of_own h).2⟩
end
/-- a step's value: its name, its keys -/
def stepV (n : ByteArray) (A : Option Addr) (k c : Nat) : Value := .agg #[.string n, .slice A k c]
/-- the cells of steps, where their keys lie in a world -/
inductive Cells (w : World) (B : Nat) : List Stp → List Value → Prop where
  | nil : Cells w B [] []
  | cons (n : ByteArray) (ks : List (ByteArray × ByteArray)) (A : Option Addr) (c : Nat) (l : List Stp) (xs : List Value) : Pairs w B A ks → Cells w B l xs → Cells w B (⟨n, ks⟩ :: l) (.string n :: .slice A ks.length c :: xs)
theorem Cells.length {w : World} {B : Nat} {l : List Stp} {xs : List Value} (h : Cells w B l xs) : xs.length = l.length * 2 := by
  induction h with
  | nil => rfl
  | cons n ks A c l xs _ _ ih => simp [ih]; omega
theorem Cells.blw {w w' : World} {B : Nat} {l : List Stp} {xs : List Value} (h : Cells w B l xs) (hb : Below B w w') : Cells w' B l xs := by
  induction h with
  | nil => exact .nil
  | cons n ks A c l xs hp _ ih => exact .cons n ks A c l xs (hp.below hb) ih
theorem Cells.more {w : World} {B B' : Nat} {l : List Stp} {xs : List Value} (h : Cells w B l xs) (hB : B ≤ B') : Cells w B' l xs := by
  induction h with
  | nil => exact .nil
  | cons n ks A c l xs hp _ ih => exact .cons n ks A c l xs (hp.more hB) ih
theorem Cells.get {w : World} {B : Nat} {l : List Stp} {xs : List Value} (h : Cells w B l xs) : ∀ {i : Nat} (hi : i < l.length), ∃ A c, xs[i * 2]? = some (.string l[i].name) ∧ xs[i * 2 + 1]? = some (.slice A l[i].keys.length c) ∧ Pairs w B A l[i].keys := by
  induction h with
  | nil => intro i hi; simp at hi
  | cons n ks A c l xs hp _ ih =>
    intro i hi
    cases i with
    | zero => exact ⟨A, c, rfl, rfl, hp⟩
    | succ i =>
      obtain ⟨A', c', h1, h2, h3⟩ := ih (i := i) (by simpa using hi)
      refine ⟨A', c', ?_, ?_, h3⟩
      · rw [show (i + 1) * 2 = i * 2 + 2 by omega]; simpa using h1
      · rw [show (i + 1) * 2 + 1 = i * 2 + 1 + 2 by omega]; simpa using h2
theorem Cells.one {w : World} {B : Nat} {l : List Stp} {xs : List Value} (h : Cells w B l xs) : ∀ u ∈ xs, u.oneCell' = true := by
  induction h with
  | nil => intro u hu; cases hu
  | cons n ks A c l xs hp _ ih =>
    intro u hu
    rcases List.mem_cons.1 hu with rfl | hu
    · rfl
    rcases List.mem_cons.1 hu with rfl | hu
    · rfl
    exact ih u hu
/-- a slice that reads as steps -/
def Steps (w : World) (B : Nat) (A : Option Addr) (l : List Stp) : Prop := ∃ xs, Cells w B l xs ∧ Reads w B 2 A l.length xs
theorem Steps.below {w w' : World} {B : Nat} {A : Option Addr} {l : List Stp} (h : Steps w B A l) (hb : Below B w w') : Steps w' B A l := by
  obtain ⟨xs, h1, h2⟩ := h
  exact ⟨xs, h1.blw hb, h2.below hb⟩
theorem Steps.more {w : World} {B B' : Nat} {A : Option Addr} {l : List Stp} (h : Steps w B A l) (hB : B ≤ B') : Steps w B' A l := by
  obtain ⟨xs, h1, h2⟩ := h
  exact ⟨xs, h1.more hB, h2.more hB⟩
theorem Steps.alloc {w : World} {B : Nat} {A : Option Addr} {l : List Stp} (h : Steps w B A l) (hB : B ≤ w.heap.size) (o : Obj) : Steps (w.alloc o) B A l := h.below ((Below.refl B w).alloc hB o)
theorem Steps.at_ {w : World} {B : Nat} {A : Option Addr} {l : List Stp} (h : Steps w B A l) {i : Nat} (hi : i < l.length) :
    ∃ (ad : Addr) (Ak : Option Addr) (ck : Nat), A = some ad ∧ ad.block < B ∧ w.cell? (ad.add (i * 2)) = some (.string l[i].name) ∧ w.cell? ⟨(ad.add (i * 2)).block, (ad.add (i * 2)).off + 1, none⟩ = some (.slice Ak l[i].keys.length ck) ∧ Pairs w B Ak l[i].keys := by
  obtain ⟨xs, h1, h2⟩ := h
  obtain ⟨ad, e, hb, hc⟩ := h2.2 (by omega)
  obtain ⟨Ak, ck, g0, g1, g2⟩ := h1.get hi
  refine ⟨ad, Ak, ck, e, hb, hc _ _ g0, ?_, g2⟩
  exact (congrArg w.cell? (add_of_add ad (i * 2) 1)).trans (hc _ _ g1)
end Go.Proofs.YtjmebclcmpfdmaaGreatDoor
namespace Go.Proofs.YtjmebclcmpfdmaaGreatDoor
open Go.RowKit
def leS (a b : ByteArray) : Bool := Op.bytesLess a.toList b.toList || a.toList == b.toList
/-- the key ahead of a place -/
def aheadAt (ks : List (ByteArray × ByteArray)) (i : Nat) : ByteArray := if i = 0 then ⟨#[]⟩ else (ks.getD (i - 1) (⟨#[]⟩, ⟨#[]⟩)).1
theorem ahead_succ {ks : List (ByteArray × ByteArray)} {i : Nat} (h : i < ks.length) : aheadAt ks (i + 1) = ks[i].1 := by
  unfold aheadAt
  rw [if_neg (by omega), Nat.add_sub_cancel]
  simp [List.getD_eq_getElem?_getD, h]
def valB (v : ByteArray) : Bool := v.data.toList.all byteB && decide (v.size ≤ 64)
def keyB (a : ByteArray) (k : ByteArray × ByteArray) : Bool := nameB k.1 && (decide (k.1.size ≤ 64) && (valB k.2 && !(leS k.1 a)))
def keysB : ByteArray → List (ByteArray × ByteArray) → Bool
  | _, [] => true
  | a, k :: t => keyB a k && keysB k.1 t
def stepB (s : Stp) : Bool := nameB s.name && (decide (s.name.size ≤ 64) && keysB ⟨#[]⟩ s.keys)
theorem keysB_at : ∀ (ks : List (ByteArray × ByteArray)) (a : ByteArray), keysB a ks = true → ∀ (i : Nat) (h : i < ks.length), keyB (if i = 0 then a else (ks.getD (i - 1) (⟨#[]⟩, ⟨#[]⟩)).1) ks[i] = true
  | k :: t, a, hk, 0, _ => by
    simp only [keysB, Bool.and_eq_true] at hk
    exact hk.1
  | k :: t, a, hk, i + 1, h => by
    simp only [keysB, Bool.and_eq_true] at hk
    have := keysB_at t k.1 hk.2 i (by simpa using h)
    rw [if_neg (by omega), Nat.add_sub_cancel]
    cases i with
    | zero => simpa using this
    | succ i => simpa using this
theorem stepB_key {s : Stp} (h : stepB s = true) (i : Nat) (hi : i < s.keys.length) : nameB s.keys[i].1 = true ∧ s.keys[i].1.size ≤ 64 ∧ (∀ b ∈ s.keys[i].2.data.toList, byteB b = true) ∧ s.keys[i].2.size ≤ 64 ∧ leS s.keys[i].1 (aheadAt s.keys i) = false := by
  simp only [stepB, Bool.and_eq_true] at h
  have := keysB_at s.keys ⟨#[]⟩ h.2.2 i hi
  simp only [keyB, valB, Bool.and_eq_true, decide_eq_true_eq, Bool.not_eq_true', List.all_eq_true] at this
  exact ⟨this.1, this.2.1, this.2.2.1.1, this.2.2.1.2, this.2.2.2⟩
theorem byte_asc : ∀ n, n < 256 → byteB (UInt8.ofNat n) = true → 45 ≤ n ∧ n < 123 ∧ n ≠ 47 ∧ n ≠ 61 ∧ n ≠ 91 ∧ n ≠ 92 ∧ n ≠ 93 := by decide +kernel
theorem byte_ascii {b : UInt8} (h : byteB b = true) : 45 ≤ b.toNat ∧ b.toNat < 123 ∧ b.toNat ≠ 47 ∧ b.toNat ≠ 61 ∧ b.toNat ≠ 91 ∧ b.toNat ≠ 92 ∧ b.toNat ≠ 93 :=
  byte_asc b.toNat (UInt8.toNat_lt b) (by rw [UInt8.ofNat_toNat]; exact h)
end Go.Proofs.YtjmebclcmpfdmaaGreatDoor
namespace Go.Proofs.YtjmebclcmpfdmaaGreatDoor
open Go.RowKit
open Ph
theorem brk_ascii {s : ByteArray} (h : ∀ (j : Nat) (hj : j < s.size), s[j].toNat < 128) : ∀ (k i : Nat), s.size - i ≤ k → brk s i = none
  | 0, i, hk => brk_end s i (by omega)
  | k + 1, i, hk => by
    by_cases hi : i < s.size
    · have hd := decode_ascii s i hi (h i hi)
      have hb : bad s i = false := by
        unfold bad
        rw [hd]
        have := h i hi
        simp
        omega
      rw [brk_step s i hi hb, hd]
      exact brk_ascii h k (i + 1) (by omega)
    · exact brk_end s i hi
theorem mem_byte {s : ByteArray} {p : UInt8 → Prop} (h : ∀ b ∈ s.data.toList, p b) (j : Nat) (hj : j < s.size) : p s[j] := h _ (Array.getElem_mem_toList (xs := s.data) hj)
set_option maxRecDepth 100000 in
theorem control_ok (r : Nat) (h1 : 45 ≤ r) (h2 : r < 123) (w : World) : Calls Tryz.prog 228 #[.int .i32 r] w fun e w' => e = .returned (.bool false) ∧ w' = w := by
  have c1 : ¬ ((r : Int) < 32) := by omega
  have c2 : ((r : Int) == 127) = false := beq_eq_false_iff_ne.2 (by omega)
  go_enter Tryz.func228, Tryz.ntmps228
  go_wp2
  refine bodyPost_ret (v := .bool false) ?_ rfl ⟨rfl, rfl⟩
  simp [results, Tryz.results228, go_sem]
set_option maxRecDepth 100000 in
theorem refControl_ok (r : Nat) (h1 : 45 ≤ r) (h2 : r < 123) (w : World) : Calls Tryz.prog 178 #[.int .i32 r] w fun e w' => e = .returned (.bool false) ∧ w' = w := by
  have c1 : ¬ ((r : Int) < 32) := by omega
  have c2 : ((r : Int) == 127) = false := beq_eq_false_iff_ne.2 (by omega)
  go_enter Tryz.func178, Tryz.ntmps178
  go_wp2
  refine bodyPost_ret (v := .bool false) ?_ rfl ⟨rfl, rfl⟩
  simp [results, Tryz.results178, go_sem]
theorem entersCtl (args : Array Value) (w : World) : (callFunc 228 args).run Tryz.prog w = .ok (.enter 228 args) w := by
  simp [callFunc, Tryz.func228, Tryz.f228]
set_option maxRecDepth 100000 in
set_option maxHeartbeats 4000000 in
theorem indexFunc_none (s : ByteArray) (hs : s.size ≤ 281474976710656) (hb : ∀ b ∈ s.data.toList, byteB b = true) (w : World) :
    Calls Tryz.prog 277 #[.string s, .func (.func 228) #[] #[], .bool true] w fun e w' => e = .returned (.int .i64 (-1)) ∧ Below w.heap.size w w' := by
  go_enter Tryz.func277, Tryz.ntmps277
  go_wp2_with fail
  go_loopw [] (fun wr => ∃ pos : Nat, wr.heap[w.heap.size]? = some (.stringIter s pos) ∧ Below w.heap.size w wr ∧ pos ≤ s.size) (fun wr => s.size - wr.iterPos w.heap.size)
  case atStart =>
    refine ⟨0, ?_, (Below.refl _ w).alloc (Nat.le_refl _) _, by omega⟩
    exact World.iter_heap w s 0
  case round =>
    obtain ⟨pos, hit, hbw, hp1⟩ := hrel
    have hsz : w.heap.size < wr.heap.size := (Array.getElem?_eq_some_iff.1 hit).1
    by_cases hp : pos < s.size
    · have hby := byte_ascii (mem_byte hb pos hp)
      have hnx : ∀ ty, (Instr.next (.pointer (some ⟨w.heap.size, 0, none⟩)) true ty).run Tryz.prog wr = _ := fun ty => Lib.run_next_ascii_at wr w.heap.size s pos ty hit hp (by omega)
      have hit2 := Lib.iterAt_heap wr w.heap.size s pos (pos + 1) hit
      have hbw2 := Lib.below_iterAt hbw (k := w.heap.size) (by omega) s (pos + 1)
      obtain ⟨r, hr⟩ : ∃ r : Nat, s[pos].toNat = r := ⟨_, rfl⟩
      rw [hr] at hnx hby
      have HC := control_ok r hby.1 hby.2.1
      have hcf := entersCtl #[.int .i32 r]
      clear hr hby
      go_wp2_with fail
      refine (HC _).mono ?_
      rintro e w1 ⟨rfl, rfl⟩
      go_wp2_with fail
      go_roundw
      case rel => exact ⟨pos + 1, hit2, hbw2, by omega⟩
      case measure =>
        simp only [World.iterPos, hit2, hit]
        omega
    · have hnx : ∀ ty, (Instr.next (.pointer (some ⟨w.heap.size, 0, none⟩)) true ty).run Tryz.prog wr = _ := fun ty => Lib.run_next_end_at wr w.heap.size s pos ty hit hp
      go_wp2_with fail
      refine bodyPost_ret (v := .int .i64 (-1)) ?_ rfl ⟨rfl, hbw⟩
      simp [results, Tryz.results277, go_sem]
set_option maxRecDepth 100000 in
set_option maxHeartbeats 4000000 in
theorem containsFunc_no (s : ByteArray) (hs : s.size ≤ 281474976710656) (hb : ∀ b ∈ s.data.toList, byteB b = true) (w : World) :
    Calls Tryz.prog 227 #[.string s, .func (.func 228) #[] #[]] w fun e w' => e = .returned (.bool false) ∧ Below w.heap.size w w' := by
  have HI := indexFunc_none s hs hb
  have H2 : ∀ w1 : World, Calls Tryz.prog 249 #[.string s, .func (.func 228) #[] #[]] w1 fun e w' => e = .returned (.int .i64 (-1)) ∧ Below w1.heap.size w1 w' := fun w1 => by
    go_enter Tryz.func249, Tryz.ntmps249
    go_wp2_with (go_at_call 277; refine (HI _).mono ?_; rintro e w2 ⟨rfl, hb2⟩)
    refine bodyPost_ret (v := .int .i64 (-1)) ?_ rfl ⟨rfl, hb2⟩
    simp [results, Tryz.results249, go_sem]
  clear HI
  go_enter Tryz.func227, Tryz.ntmps227
  go_wp2_with (go_at_call 249; refine (H2 _).mono ?_; rintro e w2 ⟨rfl, hb2⟩)
  refine bodyPost_ret (v := .bool false) ?_ rfl ⟨rfl, hb2⟩
  simp [results, Tryz.results227, go_sem]
end Go.Proofs.YtjmebclcmpfdmaaGreatDoor
namespace Go.Proofs.YtjmebclcmpfdmaaGreatDoor
open Go.RowKit
open Ph
theorem fieldSpot (a b : Int) (w : World) : (Instr.field 54 (.agg #[.int .i64 a, .int .i64 b]) 0).run Tryz.prog w = .ok (.int .i64 a) w := by kernel_rfl
set_option maxRecDepth 100000 in
set_option maxHeartbeats 4000000 in
theorem may_ok (s : Stp) (hok : stepB s = true) (hkl : s.keys.length ≤ 100) (Ak : Option Addr) (ck B : Nat) (w : World) (hP : Pairs w B Ak s.keys) (hB : B ≤ w.heap.size) :
    Calls Tryz.prog 198 #[stepV s.name Ak s.keys.length ck] w fun e w' => e = .returned (.tuple #[.bool true, .bool true]) ∧ Below w.heap.size w w' := by
  have hkey := stepB_key hok
  have hnm : nameB s.name = true ∧ s.name.size ≤ 64 := by
    simp only [stepB, Bool.and_eq_true, decide_eq_true_eq] at hok
    exact ⟨hok.1, hok.2.1⟩
  obtain ⟨hn1, hn2⟩ := hnm
  have HNm := Name_any s.name (by omega)
  rw [hn1] at HNm
  have c64 : ¬ (64 < (s.name.size : Int)) := by omega
  have HFs := fieldSpot
  clear hok hn1
  obtain ⟨nm, hnm⟩ : ∃ nm, s.name = nm := ⟨_, rfl⟩
  obtain ⟨ks, hks⟩ : ∃ ks, s.keys = ks := ⟨_, rfl⟩
  unfold stepV
  rw [hnm] at HNm c64 hn2 ⊢
  rw [hks] at hkey hP hkl ⊢
  clear hnm hks
  go_enter Tryz.func198, Tryz.ntmps198
  go_wp2_with fail
  go_loopw [15, 5, 4] (fun u v x wr => ∃ i : Nat, u = .int .i64 i ∧ v = .string (aheadAt ks i) ∧ x = .bool false ∧ i ≤ ks.length ∧ Blk wr w.heap.size 92 #[.string nm, .slice Ak ks.length ck] ∧ Pairs wr B Ak ks ∧ Below w.heap.size w wr) (fun u _ _ _ => ks.length - (intOf u).toNat)
  case atStart => exact ⟨0, rfl, rfl, rfl, by omega, Blk.new _ _ _, hP.alloc hB _, (Below.refl _ _).alloc (Nat.le_refl _) _⟩
  case round =>
    obtain ⟨i, rfl, rfl, rfl, hi, hBl, hP, hb⟩ := hrel
    by_cases h : i < ks.length
    · obtain ⟨ad, rfl, b0, c0, c1⟩ := hP.at_ h
      obtain ⟨k1, k2, k3, k4, k5⟩ := hkey i h
      have has := ahead_succ h
      obtain ⟨k, hk⟩ : ∃ k, ks[i] = k := ⟨_, rfl⟩
      rw [hk] at c0 c1 k1 k2 k3 k4 k5 has
      have HAs := Lib.hid has
      clear hk has
      have HN := Name_any k.1 (by omega)
      rw [k1] at HN
      have HC := fun w1 : World => utfCheck k.2 (by omega) w1
      rw [brk_ascii (fun j hj => by have := byte_ascii (mem_byte k3 j hj); omega) _ 0 (Nat.le_refl _)] at HC
      unfold spotV at HC
      have HF := containsFunc_no k.2 (by omega) k3
      unfold leS at k5
      have c5 : ¬ (64 < (k.1.size : Int)) := by omega
      have c6 : ¬ (64 < (k.2.size : Int)) := by omega
      have hbb := hb.alloc hb.size (.cells #[.string k.1, .string k.2] 175)
      have hB1 := hBl.alloc (.cells #[.string k.1, .string k.2] 175)
      have hP1 := hP.alloc (Nat.le_trans hB hb.size) (.cells #[.string k.1, .string k.2] 175)
      have KB := Blk.new wr 175 #[.string k.1, .string k.2]
      clear k1 k3
      go_wp2_with (first | (go_at_call 87; refine (HN _).mono ?_; rintro e w1 ⟨rfl, rfl⟩) | (go_at_call 131; refine (HC _).mono ?_; rintro e w2 ⟨rfl, hb2⟩; have KB2 := KB.below hb2 (by simp); have e0 := KB2.at_ 0 (v := .string k.1) rfl; have e1 := KB2.at_ 1 (v := .string k.2) rfl) | (go_at_call 227; refine (HF _).mono ?_; rintro e w3 ⟨rfl, hb3⟩; have KB3 := KB2.below hb3 KB2.lt; have f0 := KB3.at_ 0 (v := .string k.1) rfl; have f1 := KB3.at_ 1 (v := .string k.2) rfl))
      go_roundw
      case rel => exact ⟨i + 1, by go_num, by rw [HAs.out], by rw [decide_eq_false (show ¬ 64 < (k.1.size : Int) by omega), decide_eq_false (show ¬ 64 < (k.2.size : Int) by omega)]; rfl, by omega, (hB1.below hb2 hB1.lt).below hb3 (hB1.below hb2 hB1.lt).lt, (hP1.below (hb2.mono (Nat.le_trans hB hbb.size))).below (hb3.mono (Nat.le_trans (Nat.le_trans hB hbb.size) hb2.size)), (hbb.trans (hb2.mono hbb.size)).trans (hb3.mono (Nat.le_trans hbb.size hb2.size))⟩
      case measure => simp [intOf]; omega
    · have e0 := hBl.at_ 0 (v := .string nm) rfl
      go_wp2_with (go_at_call 87; refine (HNm _).mono ?_; rintro e w1 ⟨rfl, rfl⟩)
      refine bodyPost_ret (v := .tuple #[.bool true, .bool true]) ?_ rfl ⟨rfl, hb⟩
      simp [results, Tryz.results198, go_sem]
end Go.Proofs.YtjmebclcmpfdmaaGreatDoor
