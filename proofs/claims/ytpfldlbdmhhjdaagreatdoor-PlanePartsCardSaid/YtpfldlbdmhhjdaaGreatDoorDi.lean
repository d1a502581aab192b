/-
  dec.Float. Conditions: sizes, the table of powers.
-/
import Derived.Test.YtpfldlbdmhhjdaaGreatDoorDh
set_option linter.unusedVariables false
namespace Go.Proofs.YtpfldlbdmhhjdaaGreatDoor
open Go.RowKit Go.Fl Go.Sort
theorem RowAt.conv (w : World) (s : ByteArray) (N : Nat) (t : TypeId) (fr : Nat × Nat) : RowAt (w.alloc (.cells (bytesRow s N) t fr)) ⟨w.heap.size, 0, none⟩ s.data.toList := fun j hj => by
  rw [Lib.add_plain, Nat.zero_add, World.cell?_alloc_mark, bytesRow_at s N j (by simpa using hj)]
  simp
theorem Float_scale (x : Int) (a : Nat) (hx : x < 0 ∨ 40 < x) (w : World) : Calls Tryz.prog 13 #[.float .f64 a, .int .i64 x] w fun e w' => e = .returned (.tuple #[.agg #[.bool false, .string ⟨#[]⟩, .int .i64 0], .int .i64 2]) ∧ Below w.heap.size w w' := by
  have hb1 := (Below.refl w.heap.size w).alloc (Nat.le_refl _) (.cells #[.bool false, .string ⟨#[]⟩, .int .i64 0] 27)
  have key : x < 0 ∨ ¬ x < 0 ∧ 40 < x := by omega
  rcases key with h1 | ⟨h1, h2⟩
  · go_enter Tryz.func13, Tryz.ntmps13
    go_wp2_with fail
    refine bodyPost_ret (v := .tuple #[.agg #[.bool false, .string ⟨#[]⟩, .int .i64 0], .int .i64 2]) ?_ rfl ⟨rfl, ?_⟩
    · simp [results, Tryz.results13, go_sem]
    · go_grown
  · go_enter Tryz.func13, Tryz.ntmps13
    go_wp2_with fail
    refine bodyPost_ret (v := .tuple #[.agg #[.bool false, .string ⟨#[]⟩, .int .i64 0], .int .i64 2]) ?_ rfl ⟨rfl, ?_⟩
    · simp [results, Tryz.results13, go_sem]
    · go_grown
theorem Float_bad (a : Nat) (ha : a < 18446744073709551616) (hf : finW a = false) (x : Nat) (hx : x ≤ 40) (w : World) : Calls Tryz.prog 13 #[.float .f64 a, .int .i64 x] w fun e w' => e = .returned (.tuple #[.agg #[.bool false, .string ⟨#[]⟩, .int .i64 0], .int .i64 7]) ∧ Below w.heap.size w w' := by
  have h1 : ¬ (x : Int) < 0 := by omega
  have h2 : ¬ 40 < (x : Int) := by omega
  have HN := fun w : World => IsNaN_any a w
  cases hn : nanW a with
  | true =>
    rw [hn] at HN
    go_enter Tryz.func13, Tryz.ntmps13
    go_wp2_with (go_at_call 23; refine (HN _).mono ?_; rintro e w1 ⟨rfl, rfl⟩)
    refine bodyPost_ret (v := .tuple #[.agg #[.bool false, .string ⟨#[]⟩, .int .i64 0], .int .i64 7]) ?_ rfl ⟨rfl, ?_⟩
    · simp [results, Tryz.results13, go_sem]
    · go_grown
  | false =>
    rw [hn] at HN
    have HI := fun w : World => IsInf_any a ha hn w
    rw [hf, Bool.not_false] at HI
    go_enter Tryz.func13, Tryz.ntmps13
    go_wp2_with (first | (go_at_call 23; refine (HN _).mono ?_; rintro e w1 ⟨rfl, rfl⟩) | (go_at_call 24; refine (HI _).mono ?_; rintro e w2 ⟨rfl, rfl⟩))
    refine bodyPost_ret (v := .tuple #[.agg #[.bool false, .string ⟨#[]⟩, .int .i64 0], .int .i64 7]) ?_ rfl ⟨rfl, ?_⟩
    · simp [results, Tryz.results13, go_sem]
    · go_grown
end Go.Proofs.YtpfldlbdmhhjdaaGreatDoor
