/-
  Contracts of the reference's Form, Broken and Right: they answer as the model's own decoder. Condition: the text's length fits an int.
-/
import Derived.Test.YtbgcngkofbelmaaDoorA
import Derived.WalkKit
import Derived.ProofKit
import Derived.Lib.Hide
import Derived.WalkLawsBesides
import Derived.LoopN
import Derived.Lib.DecodeN
namespace Ph
open Go
/-- what Form answers, by the bytes -/
def formN (n b0 b1 b2 b3 : Nat) : Int × Int :=
  if b0 < 128 then (b0, 1)
  else if 194 ≤ b0 ∧ b0 ≤ 223 then (if n < 2 ∨ b1 / 64 ≠ 2 then (-1, 1) else ((b0 % 32 * 64 + b1 % 64 : Nat), 2))
  else if 224 ≤ b0 ∧ b0 ≤ 239 then (if n < 3 ∨ b1 / 64 ≠ 2 ∨ b2 / 64 ≠ 2 ∨ b0 % 16 * 4096 + b1 % 64 * 64 + b2 % 64 < 2048 ∨ (55296 ≤ b0 % 16 * 4096 + b1 % 64 * 64 + b2 % 64 ∧ b0 % 16 * 4096 + b1 % 64 * 64 + b2 % 64 ≤ 57343) then (-1, 1) else ((b0 % 16 * 4096 + b1 % 64 * 64 + b2 % 64 : Nat), 3))
  else if 240 ≤ b0 ∧ b0 ≤ 244 then (if n < 4 ∨ b1 / 64 ≠ 2 ∨ b2 / 64 ≠ 2 ∨ b3 / 64 ≠ 2 ∨ b0 % 8 * 262144 + b1 % 64 * 4096 + b2 % 64 * 64 + b3 % 64 < 65536 ∨ 1114111 < b0 % 8 * 262144 + b1 % 64 * 4096 + b2 % 64 * 64 + b3 % 64 then (-1, 1) else ((b0 % 8 * 262144 + b1 % 64 * 4096 + b2 % 64 * 64 + b3 % 64 : Nat), 4))
  else (-1, 1)
set_option maxRecDepth 100000 in
set_option maxHeartbeats 4000000 in
theorem formN_eq (n b0 b1 b2 b3 : Nat) (h0 : b0 < 256) : formN n b0 b1 b2 b3 = if (Lib.decodeN n b0 b1 b2 b3).1 = 65533 ∧ (Lib.decodeN n b0 b1 b2 b3).2 = 1 then (-1, 1) else (((Lib.decodeN n b0 b1 b2 b3).1 : Int), ((Lib.decodeN n b0 b1 b2 b3).2 : Int)) := by
  unfold formN Lib.decodeN
  by_cases c1 : b0 < 128
  · simp [c1]; omega
  by_cases c2 : 194 ≤ b0 ∧ b0 ≤ 223
  · have e : b0 / 32 = 6 := by omega
    simp only [c1, c2, e, if_true, if_false, true_and, and_self]
    repeat' split
    all_goals first | rfl | (exfalso; omega) | (apply Prod.ext <;> simp only <;> omega)
  by_cases c3 : 224 ≤ b0 ∧ b0 ≤ 239
  · have e : b0 / 16 = 14 := by omega
    have e' : ¬ b0 / 32 = 6 := by omega
    simp only [c1, c2, c3, e, e', if_true, if_false, true_and, false_and, and_self]
    repeat' split
    all_goals first | rfl | (exfalso; omega) | (apply Prod.ext <;> simp only <;> omega)
  by_cases c4 : 240 ≤ b0 ∧ b0 ≤ 244
  · have e : b0 / 8 = 30 := by omega
    have e' : ¬ b0 / 32 = 6 := by omega
    have e'' : ¬ b0 / 16 = 14 := by omega
    simp only [c1, c2, c3, c4, e, e', e'', if_true, if_false, true_and, false_and, and_self]
    repeat' split
    all_goals first | rfl | (exfalso; omega) | (apply Prod.ext <;> simp only <;> omega)
  simp only [c1, c2, c3, c4, if_false]
  repeat' split
  all_goals first | rfl | (exfalso; omega) | (apply Prod.ext <;> simp only <;> omega) | (simp_all; omega)
theorem and192 : ∀ n : Nat, n < 256 → (bits BinOp.and IntKind.u8 (n : Int) 192 != 128) = decide (n / 64 ≠ 2) := by decide +kernel
theorem and63 : ∀ n : Nat, n < 256 → RowKit.wrap32 (bits BinOp.and IntKind.u8 (n : Int) 63) = ((n % 64 : Nat) : Int) := by decide +kernel
theorem or32 (a b : Nat) (ha : a < 33554432) (hb : b < 64) : bits .or .i32 ((a : Int) * 64) (b : Int) = ((a * 64 + b : Nat) : Int) := by
  have e : (a : Int) * 64 = ((a * 64 : Nat) : Int) := by omega
  rw [e]
  have ho : a * 64 ||| b = a * 64 + b := by
    have := Nat.shiftLeft_add_eq_or_of_lt (i := 6) hb a
    rw [Nat.shiftLeft_eq] at this
    exact this.symm
  show IntKind.i32.wrap ((BitVec.ofInt 32 ((a * 64 : Nat) : Int) ||| BitVec.ofInt 32 (b : Int)).toNat : Int) = _
  rw [BitVec.toNat_or, BitVec.ofInt_natCast, BitVec.ofInt_natCast, BitVec.toNat_ofNat, BitVec.toNat_ofNat, Nat.mod_eq_of_lt (by omega), Nat.mod_eq_of_lt (by omega), ho]
  exact IntWalk.i32_in _ (by omega)
end Ph
namespace Go.Proofs.YtbgcngkofbelmaaDoor
open Go.RowKit
open Ph
set_option maxRecDepth 100000 in
set_option maxHeartbeats 1000000 in
theorem form_ascii (s : ByteArray) (i : Nat) (_hs : s.size ≤ 281474976710656) (hi : i < s.size) (h0 : s[i].toNat < 128) (w : World) :
    Calls Tryd.prog 44 #[.string s, .int .i64 i] w fun e w' => e = .returned (.tuple #[.int .i32 (s[i].toNat), .int .i64 1]) ∧ w = w' := by
  go_enter Tryd.func44, Tryd.ntmps44
  go_wp2_with fail
  go_ret2
  exact ⟨rfl, rfl⟩
set_option maxRecDepth 100000 in
set_option maxHeartbeats 1000000 in
theorem form_low (s : ByteArray) (i : Nat) (_hs : s.size ≤ 281474976710656) (hi : i < s.size) (h0 : 128 ≤ s[i].toNat) (h1 : s[i].toNat < 194) (w : World) :
    Calls Tryd.prog 44 #[.string s, .int .i64 i] w fun e w' => e = .returned (.tuple #[.int .i32 (-1), .int .i64 1]) ∧ w = w' := by
  go_enter Tryd.func44, Tryd.ntmps44
  go_wp2_with fail
  go_ret2
  exact ⟨rfl, rfl⟩
set_option maxRecDepth 100000 in
set_option maxHeartbeats 1000000 in
theorem form_high (s : ByteArray) (i : Nat) (_hs : s.size ≤ 281474976710656) (hi : i < s.size) (h0 : 245 ≤ s[i].toNat) (w : World) :
    Calls Tryd.prog 44 #[.string s, .int .i64 i] w fun e w' => e = .returned (.tuple #[.int .i32 (-1), .int .i64 1]) ∧ w = w' := by
  go_enter Tryd.func44, Tryd.ntmps44
  go_wp2_with fail
  go_ret2
  exact ⟨rfl, rfl⟩
set_option maxRecDepth 100000 in
set_option maxHeartbeats 1000000 in
theorem form_s2 (s : ByteArray) (i : Nat) (_hs : s.size ≤ 281474976710656) (hi : i < s.size) (h0 : 194 ≤ s[i].toNat) (h1 : s[i].toNat ≤ 223) (h2 : (s.size : Int) < (i : Int) + 2) (w : World) :
    Calls Tryd.prog 44 #[.string s, .int .i64 i] w fun e w' => e = .returned (.tuple #[.int .i32 (-1), .int .i64 1]) ∧ w = w' := by
  go_enter Tryd.func44, Tryd.ntmps44
  go_wp2_with fail
  all_goals first | (go_ret2; exact ⟨rfl, rfl⟩) | (exfalso; omega)
set_option maxRecDepth 100000 in
set_option maxHeartbeats 1000000 in
theorem form_c21 (s : ByteArray) (i : Nat) (_hs : s.size ≤ 281474976710656) (hi : i + 2 ≤ s.size) (h0 : 194 ≤ s[i].toNat) (h1 : s[i].toNat ≤ 223) (c1 : (bits BinOp.and IntKind.u8 (s[i + 1].toNat : Int) 192 != 128) = true) (w : World) :
    Calls Tryd.prog 44 #[.string s, .int .i64 i] w fun e w' => e = .returned (.tuple #[.int .i32 (-1), .int .i64 1]) ∧ w = w' := by
  go_enter Tryd.func44, Tryd.ntmps44
  go_wp2_with fail
  refine wp_loop_rounds 1 ?_
  rw [rounds_succ]
  go_wp2_with fail
  go_ret2
  exact ⟨rfl, rfl⟩
set_option maxRecDepth 100000 in
set_option maxHeartbeats 1000000 in
theorem form_ok2 (s : ByteArray) (i : Nat) (_hs : s.size ≤ 281474976710656) (hi : i + 2 ≤ s.size) (h0 : 194 ≤ s[i].toNat) (h1 : s[i].toNat ≤ 223) (c1 : (bits BinOp.and IntKind.u8 (s[i + 1].toNat : Int) 192 != 128) = false) (x1 r1 : Int) (e1 : wrap32 (bits BinOp.and IntKind.u8 (s[i + 1].toNat : Int) 63) = x1) (o1 : bits BinOp.or IntKind.i32 ((s[i].toNat : Int) % 32 * 64) x1 = r1) (_p1 : 0 ≤ r1) (_q1 : r1 ≤ 2047) (w : World) :
    Calls Tryd.prog 44 #[.string s, .int .i64 i] w fun e w' => e = .returned (.tuple #[.int .i32 (r1), .int .i64 2]) ∧ w = w' := by
  go_enter Tryd.func44, Tryd.ntmps44
  go_wp2_with fail
  refine wp_loop_rounds 2 ?_
  rw [rounds_succ]
  go_wp2_with fail
  rw [rounds_succ]
  go_wp2_with fail
  go_ret2
  exact ⟨rfl, rfl⟩
set_option maxRecDepth 100000 in
set_option maxHeartbeats 1000000 in
theorem form_s3 (s : ByteArray) (i : Nat) (_hs : s.size ≤ 281474976710656) (hi : i < s.size) (h0 : 224 ≤ s[i].toNat) (h1 : s[i].toNat ≤ 239) (h2 : (s.size : Int) < (i : Int) + 3) (w : World) :
    Calls Tryd.prog 44 #[.string s, .int .i64 i] w fun e w' => e = .returned (.tuple #[.int .i32 (-1), .int .i64 1]) ∧ w = w' := by
  go_enter Tryd.func44, Tryd.ntmps44
  go_wp2_with fail
  all_goals first | (go_ret2; exact ⟨rfl, rfl⟩) | (exfalso; omega)
set_option maxRecDepth 100000 in
set_option maxHeartbeats 1000000 in
theorem form_c31 (s : ByteArray) (i : Nat) (_hs : s.size ≤ 281474976710656) (hi : i + 3 ≤ s.size) (h0 : 224 ≤ s[i].toNat) (h1 : s[i].toNat ≤ 239) (c1 : (bits BinOp.and IntKind.u8 (s[i + 1].toNat : Int) 192 != 128) = true) (w : World) :
    Calls Tryd.prog 44 #[.string s, .int .i64 i] w fun e w' => e = .returned (.tuple #[.int .i32 (-1), .int .i64 1]) ∧ w = w' := by
  go_enter Tryd.func44, Tryd.ntmps44
  go_wp2_with fail
  refine wp_loop_rounds 1 ?_
  rw [rounds_succ]
  go_wp2_with fail
  go_ret2
  exact ⟨rfl, rfl⟩
set_option maxRecDepth 100000 in
set_option maxHeartbeats 1000000 in
theorem form_c32 (s : ByteArray) (i : Nat) (_hs : s.size ≤ 281474976710656) (hi : i + 3 ≤ s.size) (h0 : 224 ≤ s[i].toNat) (h1 : s[i].toNat ≤ 239) (c1 : (bits BinOp.and IntKind.u8 (s[i + 1].toNat : Int) 192 != 128) = false) (c2 : (bits BinOp.and IntKind.u8 (s[i + 2].toNat : Int) 192 != 128) = true) (w : World) :
    Calls Tryd.prog 44 #[.string s, .int .i64 i] w fun e w' => e = .returned (.tuple #[.int .i32 (-1), .int .i64 1]) ∧ w = w' := by
  go_enter Tryd.func44, Tryd.ntmps44
  go_wp2_with fail
  refine wp_loop_rounds 2 ?_
  rw [rounds_succ]
  go_wp2_with fail
  rw [rounds_succ]
  go_wp2_with fail
  go_ret2
  exact ⟨rfl, rfl⟩
set_option maxRecDepth 100000 in
set_option maxHeartbeats 1000000 in
theorem form_lo3 (s : ByteArray) (i : Nat) (_hs : s.size ≤ 281474976710656) (hi : i + 3 ≤ s.size) (h0 : 224 ≤ s[i].toNat) (h1 : s[i].toNat ≤ 239) (c1 : (bits BinOp.and IntKind.u8 (s[i + 1].toNat : Int) 192 != 128) = false) (c2 : (bits BinOp.and IntKind.u8 (s[i + 2].toNat : Int) 192 != 128) = false) (x1 r1 : Int) (e1 : wrap32 (bits BinOp.and IntKind.u8 (s[i + 1].toNat : Int) 63) = x1) (o1 : bits BinOp.or IntKind.i32 ((s[i].toNat : Int) % 16 * 64) x1 = r1) (_p1 : 0 ≤ r1) (_q1 : r1 ≤ 1023) (x2 r2 : Int) (e2 : wrap32 (bits BinOp.and IntKind.u8 (s[i + 2].toNat : Int) 63) = x2) (o2 : bits BinOp.or IntKind.i32 (r1 * 64) x2 = r2) (_p2 : 0 ≤ r2) (_q2 : r2 ≤ 65535) (t1 : r2 < 2048) (w : World) :
    Calls Tryd.prog 44 #[.string s, .int .i64 i] w fun e w' => e = .returned (.tuple #[.int .i32 (-1), .int .i64 1]) ∧ w = w' := by
  go_enter Tryd.func44, Tryd.ntmps44
  go_wp2_with fail
  refine wp_loop_rounds 3 ?_
  rw [rounds_succ]
  go_wp2_with fail
  rw [rounds_succ]
  go_wp2_with fail
  rw [rounds_succ]
  go_wp2_with fail
  go_ret2
  exact ⟨rfl, rfl⟩
set_option maxRecDepth 100000 in
set_option maxHeartbeats 1000000 in
theorem form_su3 (s : ByteArray) (i : Nat) (_hs : s.size ≤ 281474976710656) (hi : i + 3 ≤ s.size) (h0 : 224 ≤ s[i].toNat) (h1 : s[i].toNat ≤ 239) (c1 : (bits BinOp.and IntKind.u8 (s[i + 1].toNat : Int) 192 != 128) = false) (c2 : (bits BinOp.and IntKind.u8 (s[i + 2].toNat : Int) 192 != 128) = false) (x1 r1 : Int) (e1 : wrap32 (bits BinOp.and IntKind.u8 (s[i + 1].toNat : Int) 63) = x1) (o1 : bits BinOp.or IntKind.i32 ((s[i].toNat : Int) % 16 * 64) x1 = r1) (_p1 : 0 ≤ r1) (_q1 : r1 ≤ 1023) (x2 r2 : Int) (e2 : wrap32 (bits BinOp.and IntKind.u8 (s[i + 2].toNat : Int) 63) = x2) (o2 : bits BinOp.or IntKind.i32 (r1 * 64) x2 = r2) (_p2 : 0 ≤ r2) (_q2 : r2 ≤ 65535) (t1 : 55296 ≤ r2) (t2 : r2 ≤ 57343) (w : World) :
    Calls Tryd.prog 44 #[.string s, .int .i64 i] w fun e w' => e = .returned (.tuple #[.int .i32 (-1), .int .i64 1]) ∧ w = w' := by
  go_enter Tryd.func44, Tryd.ntmps44
  go_wp2_with fail
  refine wp_loop_rounds 3 ?_
  rw [rounds_succ]
  go_wp2_with fail
  rw [rounds_succ]
  go_wp2_with fail
  rw [rounds_succ]
  go_wp2_with fail
  go_ret2
  exact ⟨rfl, rfl⟩
set_option maxRecDepth 100000 in
set_option maxHeartbeats 1000000 in
theorem form_ok3 (s : ByteArray) (i : Nat) (_hs : s.size ≤ 281474976710656) (hi : i + 3 ≤ s.size) (h0 : 224 ≤ s[i].toNat) (h1 : s[i].toNat ≤ 239) (c1 : (bits BinOp.and IntKind.u8 (s[i + 1].toNat : Int) 192 != 128) = false) (c2 : (bits BinOp.and IntKind.u8 (s[i + 2].toNat : Int) 192 != 128) = false) (x1 r1 : Int) (e1 : wrap32 (bits BinOp.and IntKind.u8 (s[i + 1].toNat : Int) 63) = x1) (o1 : bits BinOp.or IntKind.i32 ((s[i].toNat : Int) % 16 * 64) x1 = r1) (_p1 : 0 ≤ r1) (_q1 : r1 ≤ 1023) (x2 r2 : Int) (e2 : wrap32 (bits BinOp.and IntKind.u8 (s[i + 2].toNat : Int) 63) = x2) (o2 : bits BinOp.or IntKind.i32 (r1 * 64) x2 = r2) (_p2 : 0 ≤ r2) (_q2 : r2 ≤ 65535) (t1 : 2048 ≤ r2) (t2 : r2 < 55296) (w : World) :
    Calls Tryd.prog 44 #[.string s, .int .i64 i] w fun e w' => e = .returned (.tuple #[.int .i32 (r2), .int .i64 3]) ∧ w = w' := by
  go_enter Tryd.func44, Tryd.ntmps44
  go_wp2_with fail
  refine wp_loop_rounds 3 ?_
  rw [rounds_succ]
  go_wp2_with fail
  rw [rounds_succ]
  go_wp2_with fail
  rw [rounds_succ]
  go_wp2_with fail
  go_ret2
  exact ⟨rfl, rfl⟩
set_option maxRecDepth 100000 in
set_option maxHeartbeats 1000000 in
theorem form_ok3h (s : ByteArray) (i : Nat) (_hs : s.size ≤ 281474976710656) (hi : i + 3 ≤ s.size) (h0 : 224 ≤ s[i].toNat) (h1 : s[i].toNat ≤ 239) (c1 : (bits BinOp.and IntKind.u8 (s[i + 1].toNat : Int) 192 != 128) = false) (c2 : (bits BinOp.and IntKind.u8 (s[i + 2].toNat : Int) 192 != 128) = false) (x1 r1 : Int) (e1 : wrap32 (bits BinOp.and IntKind.u8 (s[i + 1].toNat : Int) 63) = x1) (o1 : bits BinOp.or IntKind.i32 ((s[i].toNat : Int) % 16 * 64) x1 = r1) (_p1 : 0 ≤ r1) (_q1 : r1 ≤ 1023) (x2 r2 : Int) (e2 : wrap32 (bits BinOp.and IntKind.u8 (s[i + 2].toNat : Int) 63) = x2) (o2 : bits BinOp.or IntKind.i32 (r1 * 64) x2 = r2) (_p2 : 0 ≤ r2) (_q2 : r2 ≤ 65535) (t1 : 2048 ≤ r2) (t2 : 57343 < r2) (w : World) :
    Calls Tryd.prog 44 #[.string s, .int .i64 i] w fun e w' => e = .returned (.tuple #[.int .i32 (r2), .int .i64 3]) ∧ w = w' := by
  go_enter Tryd.func44, Tryd.ntmps44
  go_wp2_with fail
  refine wp_loop_rounds 3 ?_
  rw [rounds_succ]
  go_wp2_with fail
  rw [rounds_succ]
  go_wp2_with fail
  rw [rounds_succ]
  go_wp2_with fail
  go_ret2
  exact ⟨rfl, rfl⟩
set_option maxRecDepth 100000 in
set_option maxHeartbeats 1000000 in
theorem form_s4 (s : ByteArray) (i : Nat) (_hs : s.size ≤ 281474976710656) (hi : i < s.size) (h0 : 240 ≤ s[i].toNat) (h1 : s[i].toNat ≤ 244) (h2 : (s.size : Int) < (i : Int) + 4) (w : World) :
    Calls Tryd.prog 44 #[.string s, .int .i64 i] w fun e w' => e = .returned (.tuple #[.int .i32 (-1), .int .i64 1]) ∧ w = w' := by
  go_enter Tryd.func44, Tryd.ntmps44
  go_wp2_with fail
  all_goals first | (go_ret2; exact ⟨rfl, rfl⟩) | (exfalso; omega)
set_option maxRecDepth 100000 in
set_option maxHeartbeats 1000000 in
theorem form_c41 (s : ByteArray) (i : Nat) (_hs : s.size ≤ 281474976710656) (hi : i + 4 ≤ s.size) (h0 : 240 ≤ s[i].toNat) (h1 : s[i].toNat ≤ 244) (c1 : (bits BinOp.and IntKind.u8 (s[i + 1].toNat : Int) 192 != 128) = true) (w : World) :
    Calls Tryd.prog 44 #[.string s, .int .i64 i] w fun e w' => e = .returned (.tuple #[.int .i32 (-1), .int .i64 1]) ∧ w = w' := by
  go_enter Tryd.func44, Tryd.ntmps44
  go_wp2_with fail
  refine wp_loop_rounds 1 ?_
  rw [rounds_succ]
  go_wp2_with fail
  go_ret2
  exact ⟨rfl, rfl⟩
set_option maxRecDepth 100000 in
set_option maxHeartbeats 1000000 in
theorem form_c42 (s : ByteArray) (i : Nat) (_hs : s.size ≤ 281474976710656) (hi : i + 4 ≤ s.size) (h0 : 240 ≤ s[i].toNat) (h1 : s[i].toNat ≤ 244) (c1 : (bits BinOp.and IntKind.u8 (s[i + 1].toNat : Int) 192 != 128) = false) (c2 : (bits BinOp.and IntKind.u8 (s[i + 2].toNat : Int) 192 != 128) = true) (w : World) :
    Calls Tryd.prog 44 #[.string s, .int .i64 i] w fun e w' => e = .returned (.tuple #[.int .i32 (-1), .int .i64 1]) ∧ w = w' := by
  go_enter Tryd.func44, Tryd.ntmps44
  go_wp2_with fail
  refine wp_loop_rounds 2 ?_
  rw [rounds_succ]
  go_wp2_with fail
  rw [rounds_succ]
  go_wp2_with fail
  go_ret2
  exact ⟨rfl, rfl⟩
set_option maxRecDepth 100000 in
set_option maxHeartbeats 1000000 in
theorem form_c43 (s : ByteArray) (i : Nat) (_hs : s.size ≤ 281474976710656) (hi : i + 4 ≤ s.size) (h0 : 240 ≤ s[i].toNat) (h1 : s[i].toNat ≤ 244) (c1 : (bits BinOp.and IntKind.u8 (s[i + 1].toNat : Int) 192 != 128) = false) (c2 : (bits BinOp.and IntKind.u8 (s[i + 2].toNat : Int) 192 != 128) = false) (c3 : (bits BinOp.and IntKind.u8 (s[i + 3].toNat : Int) 192 != 128) = true) (w : World) :
    Calls Tryd.prog 44 #[.string s, .int .i64 i] w fun e w' => e = .returned (.tuple #[.int .i32 (-1), .int .i64 1]) ∧ w = w' := by
  go_enter Tryd.func44, Tryd.ntmps44
  go_wp2_with fail
  refine wp_loop_rounds 3 ?_
  rw [rounds_succ]
  go_wp2_with fail
  rw [rounds_succ]
  go_wp2_with fail
  rw [rounds_succ]
  go_wp2_with fail
  go_ret2
  exact ⟨rfl, rfl⟩
set_option maxRecDepth 100000 in
set_option maxHeartbeats 1000000 in
theorem form_lo4 (s : ByteArray) (i : Nat) (_hs : s.size ≤ 281474976710656) (hi : i + 4 ≤ s.size) (h0 : 240 ≤ s[i].toNat) (h1 : s[i].toNat ≤ 244) (c1 : (bits BinOp.and IntKind.u8 (s[i + 1].toNat : Int) 192 != 128) = false) (c2 : (bits BinOp.and IntKind.u8 (s[i + 2].toNat : Int) 192 != 128) = false) (c3 : (bits BinOp.and IntKind.u8 (s[i + 3].toNat : Int) 192 != 128) = false) (x1 r1 : Int) (e1 : wrap32 (bits BinOp.and IntKind.u8 (s[i + 1].toNat : Int) 63) = x1) (o1 : bits BinOp.or IntKind.i32 ((s[i].toNat : Int) % 8 * 64) x1 = r1) (_p1 : 0 ≤ r1) (_q1 : r1 ≤ 511) (x2 r2 : Int) (e2 : wrap32 (bits BinOp.and IntKind.u8 (s[i + 2].toNat : Int) 63) = x2) (o2 : bits BinOp.or IntKind.i32 (r1 * 64) x2 = r2) (_p2 : 0 ≤ r2) (_q2 : r2 ≤ 32767) (x3 r3 : Int) (e3 : wrap32 (bits BinOp.and IntKind.u8 (s[i + 3].toNat : Int) 63) = x3) (o3 : bits BinOp.or IntKind.i32 (r2 * 64) x3 = r3) (_p3 : 0 ≤ r3) (_q3 : r3 ≤ 2097151) (t1 : r3 < 65536) (w : World) :
    Calls Tryd.prog 44 #[.string s, .int .i64 i] w fun e w' => e = .returned (.tuple #[.int .i32 (-1), .int .i64 1]) ∧ w = w' := by
  go_enter Tryd.func44, Tryd.ntmps44
  go_wp2_with fail
  refine wp_loop_rounds 4 ?_
  rw [rounds_succ]
  go_wp2_with fail
  rw [rounds_succ]
  go_wp2_with fail
  rw [rounds_succ]
  go_wp2_with fail
  rw [rounds_succ]
  go_wp2_with fail
  go_ret2
  exact ⟨rfl, rfl⟩
set_option maxRecDepth 100000 in
set_option maxHeartbeats 1000000 in
theorem form_hi4 (s : ByteArray) (i : Nat) (_hs : s.size ≤ 281474976710656) (hi : i + 4 ≤ s.size) (h0 : 240 ≤ s[i].toNat) (h1 : s[i].toNat ≤ 244) (c1 : (bits BinOp.and IntKind.u8 (s[i + 1].toNat : Int) 192 != 128) = false) (c2 : (bits BinOp.and IntKind.u8 (s[i + 2].toNat : Int) 192 != 128) = false) (c3 : (bits BinOp.and IntKind.u8 (s[i + 3].toNat : Int) 192 != 128) = false) (x1 r1 : Int) (e1 : wrap32 (bits BinOp.and IntKind.u8 (s[i + 1].toNat : Int) 63) = x1) (o1 : bits BinOp.or IntKind.i32 ((s[i].toNat : Int) % 8 * 64) x1 = r1) (_p1 : 0 ≤ r1) (_q1 : r1 ≤ 511) (x2 r2 : Int) (e2 : wrap32 (bits BinOp.and IntKind.u8 (s[i + 2].toNat : Int) 63) = x2) (o2 : bits BinOp.or IntKind.i32 (r1 * 64) x2 = r2) (_p2 : 0 ≤ r2) (_q2 : r2 ≤ 32767) (x3 r3 : Int) (e3 : wrap32 (bits BinOp.and IntKind.u8 (s[i + 3].toNat : Int) 63) = x3) (o3 : bits BinOp.or IntKind.i32 (r2 * 64) x3 = r3) (_p3 : 0 ≤ r3) (_q3 : r3 ≤ 2097151) (t1 : 1114111 < r3) (w : World) :
    Calls Tryd.prog 44 #[.string s, .int .i64 i] w fun e w' => e = .returned (.tuple #[.int .i32 (-1), .int .i64 1]) ∧ w = w' := by
  go_enter Tryd.func44, Tryd.ntmps44
  go_wp2_with fail
  refine wp_loop_rounds 4 ?_
  rw [rounds_succ]
  go_wp2_with fail
  rw [rounds_succ]
  go_wp2_with fail
  rw [rounds_succ]
  go_wp2_with fail
  rw [rounds_succ]
  go_wp2_with fail
  go_ret2
  exact ⟨rfl, rfl⟩
set_option maxRecDepth 100000 in
set_option maxHeartbeats 1000000 in
theorem form_ok4 (s : ByteArray) (i : Nat) (_hs : s.size ≤ 281474976710656) (hi : i + 4 ≤ s.size) (h0 : 240 ≤ s[i].toNat) (h1 : s[i].toNat ≤ 244) (c1 : (bits BinOp.and IntKind.u8 (s[i + 1].toNat : Int) 192 != 128) = false) (c2 : (bits BinOp.and IntKind.u8 (s[i + 2].toNat : Int) 192 != 128) = false) (c3 : (bits BinOp.and IntKind.u8 (s[i + 3].toNat : Int) 192 != 128) = false) (x1 r1 : Int) (e1 : wrap32 (bits BinOp.and IntKind.u8 (s[i + 1].toNat : Int) 63) = x1) (o1 : bits BinOp.or IntKind.i32 ((s[i].toNat : Int) % 8 * 64) x1 = r1) (_p1 : 0 ≤ r1) (_q1 : r1 ≤ 511) (x2 r2 : Int) (e2 : wrap32 (bits BinOp.and IntKind.u8 (s[i + 2].toNat : Int) 63) = x2) (o2 : bits BinOp.or IntKind.i32 (r1 * 64) x2 = r2) (_p2 : 0 ≤ r2) (_q2 : r2 ≤ 32767) (x3 r3 : Int) (e3 : wrap32 (bits BinOp.and IntKind.u8 (s[i + 3].toNat : Int) 63) = x3) (o3 : bits BinOp.or IntKind.i32 (r2 * 64) x3 = r3) (_p3 : 0 ≤ r3) (_q3 : r3 ≤ 2097151) (t1 : 65536 ≤ r3) (t2 : r3 ≤ 1114111) (w : World) :
    Calls Tryd.prog 44 #[.string s, .int .i64 i] w fun e w' => e = .returned (.tuple #[.int .i32 (r3), .int .i64 4]) ∧ w = w' := by
  go_enter Tryd.func44, Tryd.ntmps44
  go_wp2_with fail
  refine wp_loop_rounds 4 ?_
  rw [rounds_succ]
  go_wp2_with fail
  rw [rounds_succ]
  go_wp2_with fail
  rw [rounds_succ]
  go_wp2_with fail
  rw [rounds_succ]
  go_wp2_with fail
  go_ret2
  exact ⟨rfl, rfl⟩
def formV (s : ByteArray) (i : Nat) : Value := if bad s i then .tuple #[.int .i32 (-1), .int .i64 1] else .tuple #[.int .i32 (Utf8.decode s i).1, .int .i64 (Utf8.decode s i).2]
theorem form_val {s : ByteArray} {i : Nat} {a b : Int} (h : formN (s.size - i) (s.get! i).toNat (s.get! (i + 1)).toNat (s.get! (i + 2)).toNat (s.get! (i + 3)).toNat = (a, b)) : Value.tuple #[.int .i32 a, .int .i64 b] = formV s i := by
  rw [formN_eq _ _ _ _ _ (UInt8.toNat_lt _), ← Lib.decode_at] at h
  unfold formV bad
  by_cases e : (Utf8.decode s i).1 = 65533 ∧ (Utf8.decode s i).2 = 1
  · rw [if_pos e] at h
    cases h
    rw [if_pos (by simpa using e)]
  · rw [if_neg e] at h
    cases h
    rw [if_neg (by simpa using e)]
theorem Calls_form {s : ByteArray} {i : Nat} {a b : Int} {w : World} (h : Calls Tryd.prog 44 #[.string s, .int .i64 i] w fun e w' => e = .returned (.tuple #[.int .i32 a, .int .i64 b]) ∧ w = w')
    (e : formN (s.size - i) (s.get! i).toNat (s.get! (i + 1)).toNat (s.get! (i + 2)).toNat (s.get! (i + 3)).toNat = (a, b)) :
    Calls Tryd.prog 44 #[.string s, .int .i64 i] w fun e w' => e = .returned (formV s i) ∧ w = w' :=
  h.mono fun _ _ ⟨h1, h2⟩ => ⟨by rw [h1, form_val e], h2⟩
set_option maxHeartbeats 1000000 in
theorem form_k2 (s : ByteArray) (i : Nat) (hs : s.size ≤ 281474976710656) (hi : i < s.size) (k1 : 194 ≤ s[i].toNat) (k2 : s[i].toNat ≤ 223) (w : World) :
    Calls Tryd.prog 44 #[.string s, .int .i64 i] w fun e w' => e = .returned (formV s i) ∧ w = w' := by
  have g0 := get_eq s i hi
  have l0 := UInt8.toNat_lt (s[i])
  have c1 : ¬ s[i].toNat < 128 := by omega
  by_cases h2 : s.size < i + 2
  · exact Calls_form (form_s2 s i hs hi k1 k2 (by omega) w) (by rw [g0]; simp only [formN, c1, if_false]; rw [if_pos (by omega)]; rw [if_pos (Or.inl (by omega))])
  have g1 := get_eq s (i + 1) (by omega)
  have a1 := and192 _ (UInt8.toNat_lt (s[i + 1]))
  have l1 := UInt8.toNat_lt (s[i + 1])
  by_cases d1 : s[i + 1].toNat / 64 = 2
  case neg => exact Calls_form (form_c21 s i hs (by omega) k1 k2  (by rw [a1]; simpa using d1) w) (by rw [g0, g1]; simp only [formN, c1, if_false]; rw [if_pos (by omega)]; rw [if_pos (by omega)])
  obtain ⟨R1, h1R⟩ : ∃ R : Nat, R = (s[i].toNat % 32) * 64 + s[i + 1].toNat % 64 := ⟨_, rfl⟩
  have o1 := or32 (s[i].toNat % 32) (s[i + 1].toNat % 64) (by omega) (by omega)
  rw [← h1R] at o1
  exact Calls_form (form_ok2 s i hs (by omega) k1 k2 (by rw [a1]; simpa using d1) ((s[i + 1].toNat % 64 : Nat) : Int) (R1 : Int) (and63 _ l1) (by simpa using o1) (by omega) (by omega)  w) (by rw [g0, g1]; simp only [formN, c1, if_false]; rw [if_pos (by omega)]; rw [if_neg (by omega)]; apply Prod.ext <;> simp only <;> omega)
set_option maxHeartbeats 1000000 in
theorem form_k3 (s : ByteArray) (i : Nat) (hs : s.size ≤ 281474976710656) (hi : i < s.size) (k1 : 224 ≤ s[i].toNat) (k2 : s[i].toNat ≤ 239) (w : World) :
    Calls Tryd.prog 44 #[.string s, .int .i64 i] w fun e w' => e = .returned (formV s i) ∧ w = w' := by
  have g0 := get_eq s i hi
  have l0 := UInt8.toNat_lt (s[i])
  have c1 : ¬ s[i].toNat < 128 := by omega
  by_cases h2 : s.size < i + 3
  · exact Calls_form (form_s3 s i hs hi k1 k2 (by omega) w) (by rw [g0]; simp only [formN, c1, if_false]; rw [if_neg (by omega), if_pos (by omega)]; rw [if_pos (Or.inl (by omega))])
  have g1 := get_eq s (i + 1) (by omega)
  have a1 := and192 _ (UInt8.toNat_lt (s[i + 1]))
  have l1 := UInt8.toNat_lt (s[i + 1])
  have g2 := get_eq s (i + 2) (by omega)
  have a2 := and192 _ (UInt8.toNat_lt (s[i + 2]))
  have l2 := UInt8.toNat_lt (s[i + 2])
  by_cases d1 : s[i + 1].toNat / 64 = 2
  case neg => exact Calls_form (form_c31 s i hs (by omega) k1 k2  (by rw [a1]; simpa using d1) w) (by rw [g0, g1, g2]; simp only [formN, c1, if_false]; rw [if_neg (by omega), if_pos (by omega)]; rw [if_pos (by omega)])
  by_cases d2 : s[i + 2].toNat / 64 = 2
  case neg => exact Calls_form (form_c32 s i hs (by omega) k1 k2 (by rw [a1]; simpa using d1) (by rw [a2]; simpa using d2) w) (by rw [g0, g1, g2]; simp only [formN, c1, if_false]; rw [if_neg (by omega), if_pos (by omega)]; rw [if_pos (by omega)])
  obtain ⟨R1, h1R⟩ : ∃ R : Nat, R = (s[i].toNat % 16) * 64 + s[i + 1].toNat % 64 := ⟨_, rfl⟩
  have o1 := or32 (s[i].toNat % 16) (s[i + 1].toNat % 64) (by omega) (by omega)
  rw [← h1R] at o1
  obtain ⟨R2, h2R⟩ : ∃ R : Nat, R = R1 * 64 + s[i + 2].toNat % 64 := ⟨_, rfl⟩
  have o2 := or32 R1 (s[i + 2].toNat % 64) (by omega) (by omega)
  rw [← h2R] at o2
  by_cases t1 : R2 < 2048
  · exact Calls_form (form_lo3 s i hs (by omega) k1 k2 (by rw [a1]; simpa using d1) (by rw [a2]; simpa using d2) ((s[i + 1].toNat % 64 : Nat) : Int) (R1 : Int) (and63 _ l1) (by simpa using o1) (by omega) (by omega) ((s[i + 2].toNat % 64 : Nat) : Int) (R2 : Int) (and63 _ l2) o2 (by omega) (by omega) (by omega) w) (by rw [g0, g1, g2]; simp only [formN, c1, if_false]; rw [if_neg (by omega), if_pos (by omega)]; rw [if_pos (by omega)])
  by_cases t2 : R2 < 55296
  · exact Calls_form (form_ok3 s i hs (by omega) k1 k2 (by rw [a1]; simpa using d1) (by rw [a2]; simpa using d2) ((s[i + 1].toNat % 64 : Nat) : Int) (R1 : Int) (and63 _ l1) (by simpa using o1) (by omega) (by omega) ((s[i + 2].toNat % 64 : Nat) : Int) (R2 : Int) (and63 _ l2) o2 (by omega) (by omega) (by omega) (by omega) w) (by rw [g0, g1, g2]; simp only [formN, c1, if_false]; rw [if_neg (by omega), if_pos (by omega)]; rw [if_neg (by omega)]; apply Prod.ext <;> simp only <;> omega)
  by_cases t3 : R2 ≤ 57343
  · exact Calls_form (form_su3 s i hs (by omega) k1 k2 (by rw [a1]; simpa using d1) (by rw [a2]; simpa using d2) ((s[i + 1].toNat % 64 : Nat) : Int) (R1 : Int) (and63 _ l1) (by simpa using o1) (by omega) (by omega) ((s[i + 2].toNat % 64 : Nat) : Int) (R2 : Int) (and63 _ l2) o2 (by omega) (by omega) (by omega) (by omega) w) (by rw [g0, g1, g2]; simp only [formN, c1, if_false]; rw [if_neg (by omega), if_pos (by omega)]; rw [if_pos (by omega)])
  exact Calls_form (form_ok3h s i hs (by omega) k1 k2 (by rw [a1]; simpa using d1) (by rw [a2]; simpa using d2) ((s[i + 1].toNat % 64 : Nat) : Int) (R1 : Int) (and63 _ l1) (by simpa using o1) (by omega) (by omega) ((s[i + 2].toNat % 64 : Nat) : Int) (R2 : Int) (and63 _ l2) o2 (by omega) (by omega) (by omega) (by omega) w) (by rw [g0, g1, g2]; simp only [formN, c1, if_false]; rw [if_neg (by omega), if_pos (by omega)]; rw [if_neg (by omega)]; apply Prod.ext <;> simp only <;> omega)
set_option maxHeartbeats 1000000 in
theorem form_k4 (s : ByteArray) (i : Nat) (hs : s.size ≤ 281474976710656) (hi : i < s.size) (k1 : 240 ≤ s[i].toNat) (k2 : s[i].toNat ≤ 244) (w : World) :
    Calls Tryd.prog 44 #[.string s, .int .i64 i] w fun e w' => e = .returned (formV s i) ∧ w = w' := by
  have g0 := get_eq s i hi
  have l0 := UInt8.toNat_lt (s[i])
  have c1 : ¬ s[i].toNat < 128 := by omega
  by_cases h2 : s.size < i + 4
  · exact Calls_form (form_s4 s i hs hi k1 k2 (by omega) w) (by rw [g0]; simp only [formN, c1, if_false]; rw [if_neg (by omega), if_neg (by omega), if_pos (by omega)]; rw [if_pos (Or.inl (by omega))])
  have g1 := get_eq s (i + 1) (by omega)
  have a1 := and192 _ (UInt8.toNat_lt (s[i + 1]))
  have l1 := UInt8.toNat_lt (s[i + 1])
  have g2 := get_eq s (i + 2) (by omega)
  have a2 := and192 _ (UInt8.toNat_lt (s[i + 2]))
  have l2 := UInt8.toNat_lt (s[i + 2])
  have g3 := get_eq s (i + 3) (by omega)
  have a3 := and192 _ (UInt8.toNat_lt (s[i + 3]))
  have l3 := UInt8.toNat_lt (s[i + 3])
  by_cases d1 : s[i + 1].toNat / 64 = 2
  case neg => exact Calls_form (form_c41 s i hs (by omega) k1 k2  (by rw [a1]; simpa using d1) w) (by rw [g0, g1, g2, g3]; simp only [formN, c1, if_false]; rw [if_neg (by omega), if_neg (by omega), if_pos (by omega)]; rw [if_pos (by omega)])
  by_cases d2 : s[i + 2].toNat / 64 = 2
  case neg => exact Calls_form (form_c42 s i hs (by omega) k1 k2 (by rw [a1]; simpa using d1) (by rw [a2]; simpa using d2) w) (by rw [g0, g1, g2, g3]; simp only [formN, c1, if_false]; rw [if_neg (by omega), if_neg (by omega), if_pos (by omega)]; rw [if_pos (by omega)])
  by_cases d3 : s[i + 3].toNat / 64 = 2
  case neg => exact Calls_form (form_c43 s i hs (by omega) k1 k2 (by rw [a1]; simpa using d1) (by rw [a2]; simpa using d2) (by rw [a3]; simpa using d3) w) (by rw [g0, g1, g2, g3]; simp only [formN, c1, if_false]; rw [if_neg (by omega), if_neg (by omega), if_pos (by omega)]; rw [if_pos (by omega)])
  obtain ⟨R1, h1R⟩ : ∃ R : Nat, R = (s[i].toNat % 8) * 64 + s[i + 1].toNat % 64 := ⟨_, rfl⟩
  have o1 := or32 (s[i].toNat % 8) (s[i + 1].toNat % 64) (by omega) (by omega)
  rw [← h1R] at o1
  obtain ⟨R2, h2R⟩ : ∃ R : Nat, R = R1 * 64 + s[i + 2].toNat % 64 := ⟨_, rfl⟩
  have o2 := or32 R1 (s[i + 2].toNat % 64) (by omega) (by omega)
  rw [← h2R] at o2
  obtain ⟨R3, h3R⟩ : ∃ R : Nat, R = R2 * 64 + s[i + 3].toNat % 64 := ⟨_, rfl⟩
  have o3 := or32 R2 (s[i + 3].toNat % 64) (by omega) (by omega)
  rw [← h3R] at o3
  by_cases t1 : R3 < 65536
  · exact Calls_form (form_lo4 s i hs (by omega) k1 k2 (by rw [a1]; simpa using d1) (by rw [a2]; simpa using d2) (by rw [a3]; simpa using d3) ((s[i + 1].toNat % 64 : Nat) : Int) (R1 : Int) (and63 _ l1) (by simpa using o1) (by omega) (by omega) ((s[i + 2].toNat % 64 : Nat) : Int) (R2 : Int) (and63 _ l2) o2 (by omega) (by omega) ((s[i + 3].toNat % 64 : Nat) : Int) (R3 : Int) (and63 _ l3) o3 (by omega) (by omega) (by omega) w) (by rw [g0, g1, g2, g3]; simp only [formN, c1, if_false]; rw [if_neg (by omega), if_neg (by omega), if_pos (by omega)]; rw [if_pos (by omega)])
  by_cases t2 : 1114111 < R3
  · exact Calls_form (form_hi4 s i hs (by omega) k1 k2 (by rw [a1]; simpa using d1) (by rw [a2]; simpa using d2) (by rw [a3]; simpa using d3) ((s[i + 1].toNat % 64 : Nat) : Int) (R1 : Int) (and63 _ l1) (by simpa using o1) (by omega) (by omega) ((s[i + 2].toNat % 64 : Nat) : Int) (R2 : Int) (and63 _ l2) o2 (by omega) (by omega) ((s[i + 3].toNat % 64 : Nat) : Int) (R3 : Int) (and63 _ l3) o3 (by omega) (by omega) (by omega) w) (by rw [g0, g1, g2, g3]; simp only [formN, c1, if_false]; rw [if_neg (by omega), if_neg (by omega), if_pos (by omega)]; rw [if_pos (by omega)])
  exact Calls_form (form_ok4 s i hs (by omega) k1 k2 (by rw [a1]; simpa using d1) (by rw [a2]; simpa using d2) (by rw [a3]; simpa using d3) ((s[i + 1].toNat % 64 : Nat) : Int) (R1 : Int) (and63 _ l1) (by simpa using o1) (by omega) (by omega) ((s[i + 2].toNat % 64 : Nat) : Int) (R2 : Int) (and63 _ l2) o2 (by omega) (by omega) ((s[i + 3].toNat % 64 : Nat) : Int) (R3 : Int) (and63 _ l3) o3 (by omega) (by omega) (by omega) (by omega) w) (by rw [g0, g1, g2, g3]; simp only [formN, c1, if_false]; rw [if_neg (by omega), if_neg (by omega), if_pos (by omega)]; rw [if_neg (by omega)]; apply Prod.ext <;> simp only <;> omega)
theorem form_any (s : ByteArray) (i : Nat) (hs : s.size ≤ 281474976710656) (hi : i < s.size) (w : World) :
    Calls Tryd.prog 44 #[.string s, .int .i64 i] w fun e w' => e = .returned (formV s i) ∧ w = w' := by
  have g0 := get_eq s i hi
  have l0 := UInt8.toNat_lt (s[i])
  by_cases c1 : s[i].toNat < 128
  · exact Calls_form (form_ascii s i hs hi c1 w) (by rw [g0]; simp only [formN, c1, if_true])
  by_cases c2 : s[i].toNat < 194
  · exact Calls_form (form_low s i hs hi (by omega) c2 w) (by rw [g0]; simp only [formN, c1, if_false]; rw [if_neg (by omega), if_neg (by omega), if_neg (by omega)])
  by_cases c3 : 245 ≤ s[i].toNat
  · exact Calls_form (form_high s i hs hi c3 w) (by rw [g0]; simp only [formN, c1, if_false]; rw [if_neg (by omega), if_neg (by omega), if_neg (by omega)])
  by_cases k2 : s[i].toNat ≤ 223
  · exact form_k2 s i hs hi (by omega) k2 w
  by_cases k3 : s[i].toNat ≤ 239
  · exact form_k3 s i hs hi (by omega) k3 w
  exact form_k4 s i hs hi (by omega) (by omega) w
def brkI (s : ByteArray) : Int := match brk s 0 with | some k => (k : Int) | none => -1
theorem brkI_some {s : ByteArray} {k : Nat} (h : brk s 0 = some k) : brkI s = k := by unfold brkI; rw [h]
theorem brkI_none {s : ByteArray} (h : brk s 0 = none) : brkI s = -1 := by unfold brkI; rw [h]
theorem broken_any (s : ByteArray) (hs : s.size ≤ 281474976710656) (w : World) :
    Calls Tryd.prog 27 #[.string s] w fun e w' => e = .returned (.int .i64 (brkI s)) ∧ w = w' := by
  go_enter Tryd.func27, Tryd.ntmps27
  go_wp2_with fail
  go_loop [3] (fun u => ∃ pos : Nat, u = .int .i64 pos ∧ pos ≤ s.size ∧ brk s 0 = brk s pos) (fun u => s.size - (intOf u).toNat)
  case atStart => exact ⟨0, rfl, by omega, rfl⟩
  case round =>
    obtain ⟨pos, rfl, hp, hb⟩ := hrel
    have HB := Lib.hid hb
    clear hb
    by_cases h : pos < s.size
    · have w1 := w1 s pos
      have w2 := wIn s pos h
      have HF := form_any s pos hs h w
      unfold formV at HF
      by_cases hb : bad s pos = true
      · rw [if_pos hb] at HF
        have E := Lib.hid (HB.out.trans (brk_bad s pos h hb))
        clear hb
        go_wp2_with (go_at_call 44; refine HF.mono ?_; rintro e w' ⟨rfl, rfl⟩)
        go_ret
        exact ⟨by rw [brkI_some E.out]; rfl, rfl⟩
      · rw [if_neg hb] at HF
        have E := Lib.hid (HB.out.trans (brk_step s pos h (by simpa using hb)))
        clear hb
        go_wp2_with (go_at_call 44; refine HF.mono ?_; rintro e w' ⟨rfl, rfl⟩)
        go_round
        case rel => exact ⟨pos + (Utf8.decode s pos).2, by go_num, w2, E.out⟩
        case measure => simp [intOf]; omega
    · have E := Lib.hid (HB.out.trans (brk_end s pos h))
      go_wp2_with fail
      go_ret
      exact ⟨by rw [brkI_none E.out]; rfl, rfl⟩
theorem right_any (s : ByteArray) (hs : s.size ≤ 281474976710656) (b : Bool) (hb : (brk s 0).isNone = b) (w : World) :
    Calls Tryd.prog 42 #[.string s] w fun e w' => e = .returned (.bool b) ∧ w = w' := by
  have HF := broken_any s hs w
  cases h : brk s 0 with
  | none =>
    rw [brkI_none h] at HF
    rw [h] at hb
    subst hb
    clear h
    go_enter Tryd.func42, Tryd.ntmps42
    go_wp2_with (go_at_call 27; refine HF.mono ?_; rintro e w' ⟨rfl, rfl⟩)
    go_ret
    exact ⟨rfl, rfl⟩
  | some k =>
    rw [brkI_some h] at HF
    rw [h] at hb
    subst hb
    clear h
    go_enter Tryd.func42, Tryd.ntmps42
    go_wp2_with (go_at_call 27; refine HF.mono ?_; rintro e w' ⟨rfl, rfl⟩)
    go_ret
    exact ⟨ret_bool (by simp), rfl⟩
end Go.Proofs.YtbgcngkofbelmaaDoor
