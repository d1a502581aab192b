/-
  The reference's Print at a skeleton's fields: their one form. Condition: the slice reads as a skeleton's fields.
-/
import Derived.Test.YtdkekhaamhphcaaGreatDoorFm
set_option linter.unusedVariables false
set_option linter.unusedSimpArgs false
namespace Go.Proofs.YtdkekhaamhphcaaGreatDoor
open Go.RowKit
theorem ba_nil (a : ByteArray) : a ++ ⟨#[]⟩ = a := by
  apply ByteArray.ext
  simp [ByteArray.data_append]
set_option maxRecDepth 100000 in
set_option maxHeartbeats 4000000 in
theorem double_empty (w : World) : Calls Tryz.prog 42 #[.string ⟨#[]⟩] w fun e w' => e = .returned (.string ⟨#[]⟩) ∧ w' = w := by
  have hsz : (⟨#[]⟩ : ByteArray).size = 0 := rfl
  go_enter Tryz.func42, Tryz.ntmps42
  go_wp2_with fail
  go_loopw [3, 4] (fun x u wr => x = .string ⟨#[]⟩ ∧ u = .int .i64 0 ∧ wr = w) (fun _ _ _ => 0)
  case atStart => exact ⟨rfl, rfl, rfl⟩
  case round =>
    obtain ⟨rfl, rfl, rfl⟩ := hrel
    go_wp2_with fail
    refine bodyPost_ret (v := .string ⟨#[]⟩) ?_ rfl ⟨rfl, rfl⟩
    simp [results, Tryz.results42, go_sem]
set_option maxRecDepth 100000 in
set_option maxHeartbeats 4000000 in
theorem refPrint_sk (A : Option Addr) (l : List Fd) (c B : Nat) (hok : SkOk l) (hn : l.length ≤ 13) (w : World) (hL : Flds w B A l) :
    Calls Tryz.prog 17 #[.slice A l.length c] w fun e w' => e = .returned (.string (formT l)) ∧ w' = w := by
  have HD := double_empty
  have hsz : (⟨#[]⟩ : ByteArray).size = 0 := rfl
  go_enter Tryz.func17, Tryz.ntmps17
  go_wp2_with fail
  go_loopw [4, 3] (fun u v wr => ∃ i : Nat, u = .int .i64 i ∧ v = .string (formT (l.take i)) ∧ i ≤ l.length ∧ wr = w) (fun u _ _ => l.length - (intOf u).toNat)
  case atStart => exact ⟨0, rfl, rfl, by omega, rfl⟩
  case round =>
    obtain ⟨i, rfl, rfl, hi, rfl⟩ := hrel
    obtain ⟨wo, hwo⟩ : ∃ x, x = wr := ⟨_, rfl⟩
    subst hwo
    by_cases h : i < l.length
    · obtain ⟨ad, rfl, b0, c0, c1, c2⟩ := hL.fd h
      obtain ⟨hk1, hk2, hk3⟩ := hok l[i] (List.getElem_mem h)
      rw [hk3] at c2
      have hft := formT_take h
      have hfs := form_size hok i hi
      obtain ⟨acc, hacc⟩ : ∃ acc, formT (l.take i) = acc := ⟨_, rfl⟩
      rw [hacc] at hft hfs ⊢
      obtain ⟨n, hn2⟩ : ∃ n : Nat, l[i].n = n := ⟨l[i].n.toNat, by omega⟩
      have HFT := Lib.hid hft
      clear hft hacc
      obtain ⟨x, hx⟩ : ∃ x, l[i] = x := ⟨_, rfl⟩
      rw [hx] at HFT hk1 hk2 hk3 c0 c1 hn2
      rw [hn2] at c1 hk2
      have HN2 := Lib.hid hn2
      clear hx hn2 hk3
      have hcv : ∀ w1 : World, (convert 21 9 (.int .i32 x.b.toNat)).run Tryz.prog w1 = .ok (.string ⟨#[x.b]⟩) w1 := fun w1 => by
        rw [run_convert_int_string w1 21 9 .i32 x.b.toNat (by rw [Tryz.underlying21]; rfl) Tryz.underlying9, enc_ascii _ (by omega), UInt8.ofNat_toNat]
      go_wp2_with fail
      go_loopw [5, 3] (fun u v wr => ∃ k : Nat, u = .int .i64 k ∧ v = .string (acc ++ repB x.b k) ∧ k ≤ n ∧ wr = wo) (fun u _ _ => n - (intOf u).toNat)
      case atStart => exact ⟨0, rfl, by rw [repB_zero], by omega, rfl⟩
      case round =>
        obtain ⟨k, rfl, rfl, hk, rfl⟩ := hrel
        by_cases hkn : k < n
        · have hs := repB_succ x.b k acc
          have hz2 : (acc ++ repB x.b k).size ≤ 1000 := by rw [ByteArray.size_append, repB_size]; omega
          obtain ⟨ac2, hac2⟩ : ∃ ac2, acc ++ repB x.b k = ac2 := ⟨_, rfl⟩
          rw [hac2] at hs hz2 ⊢
          have HS := Lib.hid hs
          clear hs hac2
          go_wp2_with fail
          go_roundw
          case rel => exact ⟨k + 1, by go_num, by rw [← HS.out], by omega, by trivial⟩
          case measure => simp [intOf]; omega
        · obtain rfl : k = n := by omega
          have hz2 : (acc ++ repB x.b k).size ≤ 1000 := by rw [ByteArray.size_append, repB_size]; omega
          obtain ⟨ac2, hac2⟩ : ∃ ac2, acc ++ repB x.b k = ac2 := ⟨_, rfl⟩
          rw [hac2] at hz2 ⊢
          have HA := Lib.hid hac2
          clear hac2
          go_wp2_with fail
          obtain ⟨wp, hwp⟩ : ∃ x, x = wr := ⟨_, rfl⟩
          subst hwp
          go_loopw [7, 9] (fun x u wr => x = .int .i64 (-1) ∧ u = .int .i64 0 ∧ wr = wp) (fun _ _ _ => 0)
          case atStart => exact ⟨rfl, rfl, rfl⟩
          case round =>
            obtain ⟨rfl, rfl, rfl⟩ := hrel
            go_wp2_with (go_at_call 42; refine (HD _).mono ?_; rintro e w1 ⟨rfl, rfl⟩)
            go_roundw
            case rel => exact ⟨i + 1, by go_num, by rw [HFT.out, HN2.out, Int.toNat_natCast, HA.out, ba_nil], by omega, by trivial⟩
            case measure => simp [intOf]; omega
    · obtain rfl : i = l.length := by omega
      rw [List.take_length]
      go_wp2_with fail
      refine bodyPost_ret (v := .string (formT l)) ?_ rfl ⟨rfl, rfl⟩
      simp [results, Tryz.results17, go_sem]
end Go.Proofs.YtdkekhaamhphcaaGreatDoor
