/-
  dec.Neg at decimals as the program makes them. Conditions: sizes.
-/
import Derived.Test.YtpfldlbdmhhjdaaGreatDoorDl
set_option linter.unusedVariables false
namespace Go.Proofs.YtpfldlbdmhhjdaaGreatDoor
open Go.RowKit Go.Fl Go.Sort
theorem digs0 (n : Nat) (h : n ≠ 0) : ∃ (D : List Nat) (d : Nat), Dig (d :: D) ∧ Lib.decDigits n = chM (d :: D) ∧ d ≠ 0 := by
  revert h
  induction n using Nat.strongRecOn with
  | ind n ih =>
    intro h0
    by_cases h1 : n < 10
    · refine ⟨[], n, dig_cons.2 ⟨h1, dig_nil⟩, ?_, h0⟩
      rw [Lib.decDigits_one h1]
      simp [chM, chr]
    · obtain ⟨D, d, h2, h3, h4⟩ := ih (n / 10) (by omega) (by omega)
      refine ⟨D ++ [n % 10], d, dig_app (l := d :: D).2 ⟨h2, dig_cons.2 ⟨by omega, dig_nil⟩⟩, ?_, h4⟩
      have := dec_cons (d := n % 10) (v := n / 10) (by omega) (by omega)
      rw [show n % 10 + 10 * (n / 10) = n by omega] at this
      rw [this, h3]
      exact (chM_app (d :: D) [n % 10]).symm
set_option maxRecDepth 100000 in
set_option maxHeartbeats 1500000 in
theorem Neg_any (nb : Bool) (v : Nat) (hv : v < 10 ^ 400) (sc : Nat) (hsc : sc ≤ 400) (w : World) :
    Calls Tryz.prog 11 #[decV nb v sc] w fun e w' => e = .returned (.tuple #[decV (!nb) v sc, .int .i64 0]) ∧ Below w.heap.size w w' := by
  have hlen := dec_len 400 (by decide) hv
  by_cases h0 : v = 0
  · have HC := fun w : World => Check_any false ⟨(chM [0]).toArray⟩ [0] (dig_cons.2 ⟨by decide, dig_nil⟩) rfl (by decide) (by decide) (fun _ => ⟨rfl, rfl⟩) sc hsc w
    have e1 : ∀ b, decV b v sc = .agg #[.bool false, .string ⟨#[48]⟩, .int .i64 (sc : Int)] := fun b => by
      rw [h0]
      unfold decV
      rw [Lib.decDigits_one (by decide)]
      simp
    rw [e1, e1]
    have e2 : (⟨(chM [0]).toArray⟩ : ByteArray) = ⟨#[48]⟩ := rfl
    rw [e2] at HC
    clear hlen hv h0 e1 e2
    go_enter Tryz.func11, Tryz.ntmps11
    go_wp2_with (go_at_call 18; refine (HC _).mono ?_; rintro e w1 ⟨rfl, rfl⟩)
    refine bodyPost_ret (v := .tuple #[.agg #[.bool false, .string ⟨#[48]⟩, .int .i64 (sc : Int)], .int .i64 0]) ?_ rfl ⟨rfl, ?_⟩
    · simp [results, Tryz.results11, go_sem]
    · go_grown
  · obtain ⟨D, d, h2, h3, h4⟩ := digs0 v h0
    have e1 : ∀ b, decV b v sc = .agg #[.bool b, .string ⟨(chM (d :: D)).toArray⟩, .int .i64 (sc : Int)] := fun b => by
      unfold decV
      rw [h3, decide_eq_true h0, Bool.and_true]
    rw [e1, e1]
    rw [h3, chM_len] at hlen
    have HC := fun w : World => Check_any nb ⟨(chM (d :: D)).toArray⟩ (d :: D) h2 rfl (by simp) hlen (fun c => absurd c h4) sc hsc w
    have hne : (⟨(chM (d :: D)).toArray⟩ : ByteArray) ≠ ⟨#[48]⟩ := fun c => by
      have c2 : chM (d :: D) = [48] := by
        have := congrArg (fun x : ByteArray => x.data.toList) c
        simpa using this
      have c3 : chr d = 48 := by
        have := congrArg List.head? c2
        simpa [chM] using this
      have := chr_eq (dig_cons.1 h2).1
      rw [c3] at this
      simp at this
      exact h4 this
    generalize (⟨(chM (d :: D)).toArray⟩ : ByteArray) = s at *
    have hne2 : ¬ s.toList = [48] := fun c => hne (bytes_of (by rw [Go.Lib.toList_data] at c; exact c))
    clear hlen hv h0 e1 h2 h3 h4
    cases nb
    all_goals
      go_enter Tryz.func11, Tryz.ntmps11
      go_wp2_with (go_at_call 18; refine (HC _).mono ?_; rintro e w1 ⟨rfl, rfl⟩)
    · refine bodyPost_ret (v := .tuple #[.agg #[.bool true, .string s, .int .i64 (sc : Int)], .int .i64 0]) ?_ rfl ⟨rfl, ?_⟩
      · simp [results, Tryz.results11, go_sem, hne2]
      · go_grown
    · refine bodyPost_ret (v := .tuple #[.agg #[.bool false, .string s, .int .i64 (sc : Int)], .int .i64 0]) ?_ rfl ⟨rfl, ?_⟩
      · simp [results, Tryz.results11, go_sem]
      · go_grown
end Go.Proofs.YtpfldlbdmhhjdaaGreatDoor
