/-
  Contract of utf.Check: it tells the first broken byte of a text. Condition: the text's length fits an int.
-/
import Derived.Test.YtbgcngkofbelmaaDoorRows
import Derived.Test.YtbgcngkofbelmaaDoorUa
import Derived.Test.YtbgcngkofbelmaaDoorUc
import Derived.WalkKit
import Derived.ProofKit
import Derived.Laws.RangeAny
import Derived.Lib.OthersKept
import Derived.Lib.Hide
import Derived.Outline
namespace Go.Proofs.YtbgcngkofbelmaaDoor
open Go.RowKit
open Ph
def spotV : Option Nat → Value
  | some k => .agg #[.int .i64 6, .int .i64 k]
  | none => .agg #[.int .i64 0, .int .i64 0]
theorem bad_of {s : ByteArray} {i : Nat} (h : (Utf8.decode s i).1 = 65533) (w : (Utf8.decode s i).2 = 1) : bad s i = true := by unfold bad; simp [h, w]
theorem bad_not {s : ByteArray} {i : Nat} (h : ¬ ((Utf8.decode s i).1 = 65533 ∧ (Utf8.decode s i).2 = 1)) : bad s i = false := by unfold bad; simp [h]
theorem bne65 (n : Nat) : ((n : Int) == 65533) = decide (n = 65533) := by
  rw [Bool.eq_iff_iff]; simp; omega
theorem next_brk {s : ByteArray} {pos : Nat} {o : Option Nat} (hp : pos < s.size) (h : o = brk s pos) : o = if ((Utf8.decode s pos).1 : Int) == 65533 then brk s pos else brk s (pos + (Utf8.decode s pos).2) := by
  rw [h, bne65]
  by_cases e : (Utf8.decode s pos).1 = 65533
  · simp [e]
  · simp only [e, decide_false, Bool.false_eq_true, if_false]
    exact brk_step s pos hp (bad_not (fun g => e g.1))
set_option maxHeartbeats 1000000 in
theorem utfCheck (s : ByteArray) (hs : s.size ≤ 9223372036854775807) (w : World) :
    Calls Tryd.prog 30 #[.string s] w fun e w' => e = .returned (spotV (brk s 0)) ∧ Below w.heap.size w w' := by
  go_enter Tryd.func30, Tryd.ntmps30
  go_wp2_with fail
  go_loopw [3, 4] (fun u v wr => ∃ (pos last : Nat) (br : Bool), u = .int .i64 last ∧ v = .bool br ∧ wr.heap[w.heap.size + 1]? = some (.stringIter s pos) ∧ Blk wr w.heap.size 26 #[.int .i64 0, .int .i64 0] ∧ Below w.heap.size w wr ∧ pos ≤ s.size ∧ last ≤ pos ∧ brk s 0 = (if br then brk s last else brk s pos) ∧ (br = true → (Utf8.decode s last).1 = 65533 ∧ last + (Utf8.decode s last).2 = pos ∧ last < s.size)) (fun _ _ wr => s.size - wr.iterPos (w.heap.size + 1))
  case atStart =>
    refine ⟨0, 0, false, rfl, rfl, ?_, (Blk.new _ _ _).alloc _, ((Below.refl _ w).alloc (Nat.le_refl _) _).alloc (by simp) _, by omega, by omega, rfl, fun h => by cases h⟩
    have := World.iter_heap (w.alloc (.cells #[.int .i64 0, .int .i64 0] 26)) s 0
    simpa using this
  case round =>
    obtain ⟨pos, last, br, rfl, rfl, hit, hB, hbw, hp1, hp2, hbrk, hbr⟩ := hrel
    have hsz : w.heap.size + 1 < wr.heap.size := (Array.getElem?_eq_some_iff.1 hit).1
    by_cases hp : pos < s.size
    · have hnx : ∀ ty, (Instr.next (.pointer (some ⟨w.heap.size + 1, 0, none⟩)) true ty).run Tryd.prog wr = _ := fun ty => Lib.run_next_any_at wr (w.heap.size + 1) s pos ty hit hp
      have hwd := w1 s pos
      have hwi := wIn s pos hp
      have hd1 := decode_le s pos
      have hit2 := Lib.iterAt_heap wr (w.heap.size + 1) s pos (pos + (Utf8.decode s pos).2) hit
      have hbw2 := Lib.below_iterAt hbw (k := w.heap.size + 1) (by omega) s (pos + (Utf8.decode s pos).2)
      have hB2 := hB.iterAt hit (pos + (Utf8.decode s pos).2)
      have HB := Lib.hid hbrk
      have HR := Lib.hid hbr
      clear hbrk hbr
      cases br
      · have e0 := HB.out
        simp only [Bool.false_eq_true, if_false] at e0
        have E0 := Lib.hid e0
        clear e0
        go_wp2_with fail
        go_roundw
        case rel => exact ⟨pos + (Utf8.decode s pos).2, pos, ((Utf8.decode s pos).1 : Int) == 65533, by trivial, by trivial, hit2, hB2, hbw2, hwi, by omega, next_brk hp E0.out, fun h => ⟨by rw [bne65] at h; simpa using h, rfl, hp⟩⟩
        case measure =>
          simp only [World.iterPos, hit2, hit]
          omega
      · obtain ⟨r1, r2, r3⟩ := HR.out rfl
        have e0 := HB.out
        simp only [if_true] at e0
        by_cases h1 : pos = last + 1
        · have e1 : brk s 0 = some last := by rw [e0]; exact brk_bad s last r3 (bad_of r1 (by omega))
          have E0 := Lib.hid e1
          have h2 : ((pos : Int) - last == 1) = true := beq_iff_eq.2 (by omega)
          clear e0 e1 r1 r2 h1
          have hc0 := hB2.at_ 0 (v := .int .i64 0) rfl
          have hc1 := hB2.at_ 1 (v := .int .i64 0) rfl
          have hf := hB2.frozen
          go_wp2_with fail
          refine bodyPost_ret (v := spotV (some last)) ?_ rfl ⟨by rw [E0.out], ?_⟩
          · simp [spotV, results, Tryd.results30, go_sem, hc0, hc1]
          · exact (hbw2.setCell (by simp) _).setCell (by simp) _
        · have e1 : brk s 0 = brk s pos := by
            rw [e0, ← r2]; exact brk_step s last r3 (bad_not (fun g => h1 (by omega)))
          have E0 := Lib.hid e1
          clear e0 e1 r1 r2
          have h2 : ((pos : Int) - last == 1) = false := beq_eq_false_iff_ne.2 (by omega)
          go_wp2_with fail
          go_roundw
          case rel => exact ⟨pos + (Utf8.decode s pos).2, pos, ((Utf8.decode s pos).1 : Int) == 65533, by trivial, by trivial, hit2, hB2, hbw2, hwi, by omega, next_brk hp E0.out, fun h => ⟨by rw [bne65] at h; simpa using h, rfl, hp⟩⟩
          case measure =>
            simp only [World.iterPos, hit2, hit]
            omega
    · have hnx : ∀ ty, (Instr.next (.pointer (some ⟨w.heap.size + 1, 0, none⟩)) true ty).run Tryd.prog wr = _ := fun ty => Lib.run_next_end_at wr (w.heap.size + 1) s pos ty hit hp
      have hc0 := hB.at_ 0 (v := .int .i64 0) rfl
      have hc1 := hB.at_ 1 (v := .int .i64 0) rfl
      have hf := hB.frozen
      have hend := brk_end s pos hp
      have HB := Lib.hid hbrk
      have HR := Lib.hid hbr
      have HE := Lib.hid hend
      clear hbrk hbr hend
      cases br
      · have E0 := Lib.hid (HB.out.trans (by simp only [Bool.false_eq_true, if_false]; exact HE.out))
        go_wp2_with fail
        refine bodyPost_ret (v := spotV none) ?_ rfl ⟨by rw [E0.out], ?_⟩
        · simp [spotV, results, Tryd.results30, go_sem, hc0, hc1]
        · exact (hbw.setCell (by simp) _).setCell (by simp) _
      · obtain ⟨r1, r2, r3⟩ := HR.out rfl
        have e0 := HB.out
        simp only [if_true] at e0
        by_cases h1 : s.size = last + 1
        · have e1 : brk s 0 = some last := by rw [e0]; exact brk_bad s last r3 (bad_of r1 (by omega))
          have E0 := Lib.hid e1
          have h2 : ((s.size : Int) - last == 1) = true := beq_iff_eq.2 (by omega)
          clear e0 e1 r1 r2 h1
          go_wp2_with fail
          refine bodyPost_ret (v := spotV (some last)) ?_ rfl ⟨by rw [E0.out], ?_⟩
          · simp [spotV, results, Tryd.results30, go_sem, hc0, hc1]
          · exact (hbw.setCell (by simp) _).setCell (by simp) _
        · have e1 : brk s 0 = none := by
            rw [e0, brk_step s last r3 (bad_not (fun g => h1 (by omega))), r2]; exact HE.out
          have E0 := Lib.hid e1
          have h2 : ((s.size : Int) - last == 1) = false := beq_eq_false_iff_ne.2 (by omega)
          clear e0 e1 r1 r2 h1
          go_wp2_with fail
          refine bodyPost_ret (v := spotV none) ?_ rfl ⟨by rw [E0.out], ?_⟩
          · simp [spotV, results, Tryd.results30, go_sem, hc0, hc1]
          · exact (hbw.setCell (by simp) _).setCell (by simp) _
end Go.Proofs.YtbgcngkofbelmaaDoor
