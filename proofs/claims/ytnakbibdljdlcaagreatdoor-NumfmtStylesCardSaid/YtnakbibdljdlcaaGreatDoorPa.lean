/-
  Contracts of utf's letters and Upper. Condition: the text is short enough to be in memory.
-/
import Derived.Test.YtnakbibdljdlcaaGreatDoorShelf
import Derived.Test.YtnakbibdljdlcaaGreatDoorVj
import Derived.Test.YtnakbibdljdlcaaGreatDoorRows
import Derived.WalkKit
import Derived.ProofKit
import Derived.Lib.Hide
import Derived.Lib.ConvBytes
import Derived.Lib.SmallJoins
import Derived.Laws.IdiomStrings
import Derived.Deep.RegionWith
import Derived.Below
import Derived.Laws.OwnMore
import Derived.Deep.Draws
import Derived.OwnWalk
import Derived.Lib.OthersKept
import Derived.RegionTactic
import Derived.WalkLawsBesides
import Derived.LoopN
import Derived.Lib.UnsafeStr
namespace Go.Proofs.YtnakbibdljdlcaaGreatDoor
open Go.RowKit
def letB (b : UInt8) : Bool := (65 ≤ b.toNat && b.toNat ≤ 90) || (97 ≤ b.toNat && b.toNat ≤ 122)
def allB (f : UInt8 → Bool) (s : ByteArray) : Bool := decide (s.size ≠ 0) && s.data.toList.all f
theorem or32_let : ∀ n : Nat, n < 256 → (decide ((97 : Int) ≤ bits BinOp.or IntKind.u8 (n : Int) 32) && decide (bits BinOp.or IntKind.u8 (n : Int) 32 ≤ 122)) = ((65 ≤ n && n ≤ 90) || (97 ≤ n && n ≤ 122)) := by decide +kernel
theorem ret_boolB {a b : Bool} (h : a = b) : Ending.returned (Value.bool a) = Ending.returned (.bool b) := by rw [h]
set_option maxRecDepth 100000 in
theorem letter_any (b : UInt8) (w : World) : Calls Tryz.prog 57 #[.int .u8 b.toNat] w fun e w' => e = .returned (.bool (letB b)) ∧ w' = w := by
  have hb := or32_let b.toNat (UInt8.toNat_lt b)
  have hl : letB b = ((65 ≤ b.toNat && b.toNat ≤ 90) || (97 ≤ b.toNat && b.toNat ≤ 122)) := rfl
  rw [← hl] at hb
  clear hl
  generalize letB b = q at *
  generalize hx : bits BinOp.or IntKind.u8 (b.toNat : Int) 32 = x at *
  by_cases h1 : (97 : Int) ≤ x
  · by_cases h2 : x ≤ 122
    · have e : q = true := by rw [← hb]; simp [h1, h2]
      subst e
      go_enter Tryz.func57, Tryz.ntmps57
      go_wp2
      refine bodyPost_ret (v := .bool true) ?_ rfl ⟨rfl, rfl⟩
      simp [results, Tryz.results57, go_sem]
    · have e : q = false := by rw [← hb]; simp [h2]
      subst e
      go_enter Tryz.func57, Tryz.ntmps57
      go_wp2
      refine bodyPost_ret (v := .bool false) ?_ rfl ⟨rfl, rfl⟩
      simp [results, Tryz.results57, go_sem]
  · have e : q = false := by rw [← hb]; simp [h1]
    subst e
    go_enter Tryz.func57, Tryz.ntmps57
    go_wp2
    refine bodyPost_ret (v := .bool false) ?_ rfl ⟨rfl, rfl⟩
    simp [results, Tryz.results57, go_sem]
theorem all_take {f : UInt8 → Bool} {s : ByteArray} {i : Nat} (h : i < s.size) (hp : ∀ j (hj : j < s.size), j < i → f s[j] = true) (hi : f s[i] = true) : ∀ j (hj : j < s.size), j < i + 1 → f s[j] = true := fun j hj h1 => by
  rcases Nat.lt_or_ge j i with g | g
  · exact hp j hj g
  · obtain rfl : j = i := by omega
    exact hi
theorem all_no {f : UInt8 → Bool} {s : ByteArray} {i : Nat} (h : i < s.size) (hi : f s[i] = false) : allB f s = false := by
  unfold allB
  rw [List.all_eq_false.2 ⟨s[i], Array.getElem_mem_toList (xs := s.data) h, by simp [hi]⟩, Bool.and_false]
theorem all_yes {f : UInt8 → Bool} {s : ByteArray} (hp : ∀ j (hj : j < s.size), f s[j] = true) : allB f s = decide (s.size ≠ 0) := by
  unfold allB
  rw [List.all_eq_true.2 fun b hb => by
    obtain ⟨i, hi, rfl⟩ := List.getElem_of_mem hb
    exact hp i (by simpa using hi), Bool.and_true]
theorem isEmpty_dec (t : ByteArray) : t.toList.isEmpty = decide (t.size = 0) := by
  rw [Go.Lib.toList_data, Go.Lib.size_eq]
  cases t.data.toList <;> simp
set_option maxRecDepth 100000 in
set_option maxHeartbeats 1000000 in
/-- all, at a function that tells of every byte -/
theorem all_any (f : UInt8 → Bool) (g : Nat) (hg : ∀ (b : UInt8) (w : World), Calls Tryz.prog g #[.int .u8 b.toNat] w fun e w' => e = .returned (.bool (f b)) ∧ w' = w) (he : ∀ (args : Array Value) (w : World), (callFunc g args).run Tryz.prog w = .ok (.enter g args) w) (s : ByteArray) (hs : s.size ≤ 281474976710656) (w : World) :
    Calls Tryz.prog 56 #[.string s, .func (.func g) #[] #[]] w fun e w' => e = .returned (.bool (allB f s)) ∧ w' = w := by
  go_enter Tryz.func56, Tryz.ntmps56
  go_wp2_with fail
  go_loopw [8] (fun u wr => ∃ i : Nat, u = .int .i64 i ∧ i ≤ s.size ∧ wr = w ∧ ∀ j (hj : j < s.size), j < i → f s[j] = true) (fun u _ => s.size - (intOf u).toNat)
  case atStart => exact ⟨0, rfl, by omega, rfl, fun j hj h => by omega⟩
  case round =>
    obtain ⟨i, rfl, hi, rfl, hp⟩ := hrel
    have HP := Lib.hid hp
    clear hp
    by_cases h : i < s.size
    · have hc := hg s[i]
      have hcf := he #[.int .u8 s[i].toNat]
      cases hf : f s[i] with
      | true =>
        rw [hf] at hc
        have HQ := Lib.hid (all_take h HP.out hf)
        clear hf
        go_wp2_with fail
        refine (hc _).mono ?_
        rintro e w1 ⟨rfl, rfl⟩
        go_wp2_with fail
        go_roundw
        case rel => exact ⟨i + 1, by go_num, by omega, by trivial, HQ.out⟩
        case measure => simp [intOf]; omega
      | false =>
        rw [hf] at hc
        have hn := all_no h hf
        clear hf
        go_wp2_with fail
        refine (hc _).mono ?_
        rintro e w1 ⟨rfl, rfl⟩
        go_wp2_with fail
        refine bodyPost_ret (v := .bool false) ?_ rfl ⟨by rw [hn], rfl⟩
        simp [results, Tryz.results56, go_sem]
    · have hy := all_yes (f := f) (s := s) fun j hj => HP.out j hj (by omega)
      have hz := isEmpty_dec s
      by_cases z : s.size = 0
      · have z1 : s.toList.isEmpty = true := by rw [hz]; simpa using z
        rw [decide_eq_false (by simpa using z)] at hy
        clear hz
        go_wp2_with fail
        refine bodyPost_ret (v := .bool false) ?_ rfl ⟨by rw [hy], rfl⟩
        simp [results, Tryz.results56, go_sem]
      · have z1 : s.toList.isEmpty = false := by rw [hz]; simpa using z
        rw [decide_eq_true (by simpa using z)] at hy
        clear hz
        go_wp2_with fail
        refine bodyPost_ret (v := .bool true) ?_ rfl ⟨by rw [hy], rfl⟩
        simp [results, Tryz.results56, go_sem]
theorem enters57 (args : Array Value) (w : World) : (callFunc 57 args).run Tryz.prog w = .ok (.enter 57 args) w := by
  simp [callFunc, Tryz.func57, Tryz.f57]
set_option maxRecDepth 100000 in
theorem Letters_any (s : ByteArray) (hs : s.size ≤ 281474976710656) (w : World) : Calls Tryz.prog 26 #[.string s] w fun e w' => e = .returned (.bool (allB letB s)) ∧ w' = w := by
  have H := all_any letB 57 letter_any enters57 s hs w
  generalize allB letB s = q at *
  go_enter Tryz.func26, Tryz.ntmps26
  go_wp2_with (go_at_call 56; refine H.mono ?_; rintro e w1 ⟨rfl, rfl⟩)
  refine bodyPost_ret (v := .bool q) ?_ rfl ⟨rfl, rfl⟩
  simp [results, Tryz.results26, go_sem]
def turnB (f b : UInt8) : UInt8 := if f.toNat ≤ b.toNat ∧ b.toNat < f.toNat + 26 then b ^^^ 32 else b
def turnS (f : UInt8) (s : ByteArray) : ByteArray := ⟨(s.data.toList.map (turnB f)).toArray⟩
theorem xor32 : ∀ n : Nat, n < 256 → bits BinOp.xor IntKind.u8 (n : Int) 32 = (((UInt8.ofNat n) ^^^ 32).toNat : Int) := by decide +kernel
theorem get_list {s : ByteArray} {i : Nat} (h : i < s.size) : s.data.toList.getD i 0 = s[i] := by
  have h2 : i < s.data.toList.length := by simpa using h
  rw [List.getD_eq_getElem?_getD, List.getElem?_eq_getElem h2]
  rfl
/-- the cells while they are turned -/
def Turned (f : UInt8) (s : ByteArray) (g i : Nat) (w : World) : Prop :=
  ∀ j (hj : j < s.size), w.cell? ⟨g, j, none⟩ = some (.int .u8 (if j < i then turnB f s[j] else s[j]).toNat) ∧ w.frozen? ⟨g, j, none⟩ = false
theorem Turned.keep {f : UInt8} {s : ByteArray} {g i : Nat} {w : World} (h : Turned f s g i w) (hi : i < s.size) (e : turnB f s[i] = s[i]) : Turned f s g (i + 1) w := fun j hj => by
  obtain ⟨a, b⟩ := h j hj
  refine ⟨?_, b⟩
  rw [a]
  rcases Nat.lt_trichotomy j i with c | c | c
  · rw [if_pos c, if_pos (by omega)]
  · subst c
    rw [if_neg (Nat.lt_irrefl _), if_pos (by omega), e]
  · rw [if_neg (by omega), if_neg (by omega)]
theorem Turned.set {f : UInt8} {s : ByteArray} {g i : Nat} {w : World} (h : Turned f s g i w) (hi : i < s.size) : Turned f s g (i + 1) (w.setCell ⟨g, i, none⟩ (.int .u8 (turnB f s[i]).toNat)) := fun j hj => by
  obtain ⟨a, b⟩ := h j hj
  obtain ⟨a0, _⟩ := h i hi
  refine ⟨?_, by rw [World.frozen?_setCell]; exact b⟩
  rcases Nat.lt_trichotomy j i with c | c | c
  · rw [World.cell?_setCell_other _ _ _ _ (fun e => by cases e; omega), a, if_pos c, if_pos (by omega)]
  · subst c
    rw [World.cell?_setCell_same _ _ _ a0, if_pos (by omega)]
  · rw [World.cell?_setCell_other _ _ _ _ (fun e => by cases e; omega), a, if_neg (by omega), if_neg (by omega)]
set_option maxRecDepth 100000 in
set_option maxHeartbeats 4000000 in
theorem turn_any (s : ByteArray) (hs : s.size ≤ 281474976710656) (f : UInt8) (hf : f.toNat < 128) (w : World) : Calls Tryz.prog 23 #[.string s, .int .u8 f.toNat] w fun e w' => e = .returned (.string (turnS f s)) ∧ Below w.heap.size w w' := by
  have hcv := fun w1 : World => Lib.run_convert_string_bytes (P := Tryz.prog) w1 9 71 5 s Tryz.underlying9 Tryz.underlying71 Tryz.underlying5
  have h0 : Turned f s w.heap.size 0 (Lib.bytesWorld w 5 s) := fun j hj => by
    refine ⟨?_, ?_⟩
    · rw [Lib.bytesWorld_cell w 5 s j hj, get_list hj, if_neg (by omega)]
    · have hh := Lib.bytesWorld_at_new w 5 s
      have hz : s.size ≤ (Lib.bytesCells w 5 s).size := by simp [Lib.bytesCells]
      simp [World.frozen?, hh]
      omega
  have hb0 : Below w.heap.size w (Lib.bytesWorld w 5 s) := ⟨rfl, rfl, rfl, by rw [Lib.bytesWorld_size]; omega, fun k hk => Lib.bytesWorld_at_old w 5 s k hk⟩
  have hz0 := Lib.bytesWorld_size w 5 s
  generalize hX : Lib.bytesWorld w 5 s = X at *
  have hcv1 := hcv w
  rw [hX] at hcv1
  clear hcv
  go_enter Tryz.func23, Tryz.ntmps23
  go_wp2_with fail
  go_loopw [12] (fun u wr => ∃ i : Nat, u = .int .i64 i ∧ i ≤ s.size ∧ Turned f s w.heap.size i wr ∧ Below w.heap.size w wr) (fun u _ => s.size - (intOf u).toNat)
  case atStart => exact ⟨0, rfl, by omega, h0, hb0⟩
  case round =>
    clear h0 hb0
    obtain ⟨i, rfl, hi, hT, hb⟩ := hrel
    by_cases h : i < s.size
    · obtain ⟨c0, f0⟩ := hT i h
      rw [if_neg (Nat.lt_irrefl _)] at c0
      have hx := xor32 s[i].toNat (UInt8.toNat_lt _)
      have hofn : UInt8.ofNat s[i].toNat = s[i] := by simp
      rw [hofn] at hx
      have hwr : IntKind.u8.wrap ((f.toNat : Int) + 26) = f.toNat + 26 := IntWalk.u8_in _ (by omega)
      have HT := Lib.hid hT
      clear hT hofn
      by_cases g1 : f.toNat ≤ s[i].toNat
      · have k1 : (f.toNat : Int) ≤ (s[i].toNat : Int) := by omega
        by_cases g2 : s[i].toNat < f.toNat + 26
        · have k2 : (s[i].toNat : Int) < (f.toNat : Int) + 26 := by omega
          have e : turnB f s[i] = s[i] ^^^ 32 := by unfold turnB; rw [if_pos ⟨g1, g2⟩]
          rw [← e] at hx
          have HS := Lib.hid (HT.out.set h)
          clear e g1 g2
          go_wp2_with fail
          go_roundw
          case rel => exact ⟨i + 1, by go_num, by omega, HS.out, hb.setCell (by simp) _⟩
          case measure => simp [intOf]; omega
        · have k2 : ¬ (s[i].toNat : Int) < (f.toNat : Int) + 26 := by omega
          have e : turnB f s[i] = s[i] := by unfold turnB; rw [if_neg (fun c => g2 c.2)]
          have HS := Lib.hid (HT.out.keep h e)
          clear e g1 g2 hx
          go_wp2_with fail
          go_roundw
          case rel => exact ⟨i + 1, by go_num, by omega, HS.out, hb⟩
          case measure => simp [intOf]; omega
      · have k1 : ¬ (f.toNat : Int) ≤ (s[i].toNat : Int) := by omega
        have e : turnB f s[i] = s[i] := by unfold turnB; rw [if_neg (fun c => g1 c.1)]
        have HS := Lib.hid (HT.out.keep h e)
        clear e g1 hx
        go_wp2_with fail
        go_roundw
        case rel => exact ⟨i + 1, by go_num, by omega, HS.out, hb⟩
        case measure => simp [intOf]; omega
    · have hlen : (s.data.toList.map (turnB f)).length = s.size := by simp
      have hback := run_convert_bytes_back (P := Tryz.prog) wr 71 9 5 ⟨w.heap.size, 0, none⟩ (grownCap w s.size 0 5) (s.data.toList.map (turnB f)) Tryz.underlying71 Tryz.underlying5 Tryz.underlying9 (fun j hj => by
        have hj2 : j < s.size := by rw [hlen] at hj; exact hj
        have ha : (⟨w.heap.size, 0, none⟩ : Addr).add j = ⟨w.heap.size, j, none⟩ := by
          unfold Addr.add; split
          · rename_i h; rw [h]
          · simp
        rw [ha, (hT j hj2).1, if_pos (by omega), List.getElem_map]
        rfl)
      rw [hlen] at hback
      have hr : (⟨(s.data.toList.map (turnB f)).toArray⟩ : ByteArray) = turnS f s := rfl
      rw [hr] at hback
      clear hT hr
      go_wp2_with fail
      refine bodyPost_ret (v := .string (turnS f s)) ?_ rfl ⟨rfl, hb⟩
      simp [results, Tryz.results23, go_sem]
set_option maxRecDepth 100000 in
theorem Upper_any (s : ByteArray) (hs : s.size ≤ 281474976710656) (w : World) : Calls Tryz.prog 9 #[.string s] w fun e w' => e = .returned (.string (turnS 97 s)) ∧ Below w.heap.size w w' := by
  have H : Calls Tryz.prog 23 #[.string s, .int .u8 97] w fun e w' => e = .returned (.string (turnS 97 s)) ∧ Below w.heap.size w w' := turn_any s hs 97 (by decide) w
  generalize turnS 97 s = q at *
  go_enter Tryz.func9, Tryz.ntmps9
  go_wp2_with (go_at_call 23; refine H.mono ?_; rintro e w1 ⟨rfl, hb⟩)
  refine bodyPost_ret (v := .string q) ?_ rfl ⟨rfl, hb⟩
  simp [results, Tryz.results9, go_sem]
theorem turnS_size (f : UInt8) (s : ByteArray) : (turnS f s).size = s.size := by
  show (s.data.toList.map (turnB f)).toArray.size = _
  simp
end Go.Proofs.YtnakbibdljdlcaaGreatDoor
