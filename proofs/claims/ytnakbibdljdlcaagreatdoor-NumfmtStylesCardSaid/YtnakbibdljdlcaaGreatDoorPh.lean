/-
  The five fixed texts, told in advance; the law's walk where both answers are known. Conditions: what the listed variables hold.
-/
import Derived.Test.YtnakbibdljdlcaaGreatDoorPg
import Derived.KernelRfl
set_option linter.unusedVariables false
namespace Go.Proofs.YtnakbibdljdlcaaGreatDoor
open Go.RowKit Go.Vx
set_option maxRecDepth 1000000
theorem st0 : Tells Tryz.prog 11 [] 5 [.str []] (.tup [(.agg [(.int .i64 (.ofNat 1)), (.str []), (.str []), (.bool false), (.int .i64 (.ofNat 0))]), (.int .i64 (.ofNat 0))]) := tells env_ok 39 100000 rfl (by kernel_rfl) (fn := Tryz.f5) (by kernel_rfl) rfl (by kernel_rfl) (bndL0 (by kernel_rfl))
theorem rf0 : Tells Tryz.prog 11 [] 6 [.str []] (.tup [(.agg [(.int .i64 (.ofNat 1)), (.str []), (.str []), (.bool false), (.int .i64 (.ofNat 0))]), (.bool true)]) := tells env_ok 39 100000 rfl (by kernel_rfl) (fn := Tryz.f6) (by kernel_rfl) rfl (by kernel_rfl) (bndL0 (by kernel_rfl))
theorem stC0 (w : World) : Calls Tryz.prog 5 #[.string ⟨#[]⟩] w fun e w' => e = .returned (.tuple #[nv 1 ⟨#[]⟩ false 0, .int .i64 0]) ∧ Below w.heap.size w w' := st0 (renOf [] (by simp)) w (fun t ht => by cases ht) (fun _ _ => rfl)
theorem rfC0 (w : World) : Calls Tryz.prog 6 #[.string ⟨#[]⟩] w fun e w' => e = .returned (.tuple #[nv 1 ⟨#[]⟩ false 0, .bool true]) ∧ Below w.heap.size w w' := rf0 (renOf [] (by simp)) w (fun t ht => by cases ht) (fun _ _ => rfl)
theorem st1 : Tells Tryz.prog 11 [] 5 [.str [105, 110, 116, 101, 103, 101, 114]] (.tup [(.agg [(.int .i64 (.ofNat 1)), (.str []), (.str []), (.bool true), (.int .i64 (.ofNat 0))]), (.int .i64 (.ofNat 0))]) := tells env_ok 39 100000 rfl (by kernel_rfl) (fn := Tryz.f5) (by kernel_rfl) rfl (by kernel_rfl) (bndL0 (by kernel_rfl))
theorem rf1 : Tells Tryz.prog 11 [] 6 [.str [105, 110, 116, 101, 103, 101, 114]] (.tup [(.agg [(.int .i64 (.ofNat 1)), (.str []), (.str []), (.bool true), (.int .i64 (.ofNat 0))]), (.bool true)]) := tells env_ok 39 100000 rfl (by kernel_rfl) (fn := Tryz.f6) (by kernel_rfl) rfl (by kernel_rfl) (bndL0 (by kernel_rfl))
theorem stC1 (w : World) : Calls Tryz.prog 5 #[.string ⟨#[105, 110, 116, 101, 103, 101, 114]⟩] w fun e w' => e = .returned (.tuple #[nv 1 ⟨#[]⟩ true 0, .int .i64 0]) ∧ Below w.heap.size w w' := st1 (renOf [] (by simp)) w (fun t ht => by cases ht) (fun _ _ => rfl)
theorem rfC1 (w : World) : Calls Tryz.prog 6 #[.string ⟨#[105, 110, 116, 101, 103, 101, 114]⟩] w fun e w' => e = .returned (.tuple #[nv 1 ⟨#[]⟩ true 0, .bool true]) ∧ Below w.heap.size w w' := rf1 (renOf [] (by simp)) w (fun t ht => by cases ht) (fun _ _ => rfl)
theorem st2 : Tells Tryz.prog 11 [] 5 [.str [112, 101, 114, 99, 101, 110, 116]] (.tup [(.agg [(.int .i64 (.ofNat 2)), (.str []), (.str []), (.bool false), (.int .i64 (.ofNat 0))]), (.int .i64 (.ofNat 0))]) := tells env_ok 39 100000 rfl (by kernel_rfl) (fn := Tryz.f5) (by kernel_rfl) rfl (by kernel_rfl) (bndL0 (by kernel_rfl))
theorem rf2 : Tells Tryz.prog 11 [] 6 [.str [112, 101, 114, 99, 101, 110, 116]] (.tup [(.agg [(.int .i64 (.ofNat 2)), (.str []), (.str []), (.bool false), (.int .i64 (.ofNat 0))]), (.bool true)]) := tells env_ok 39 100000 rfl (by kernel_rfl) (fn := Tryz.f6) (by kernel_rfl) rfl (by kernel_rfl) (bndL0 (by kernel_rfl))
theorem stC2 (w : World) : Calls Tryz.prog 5 #[.string ⟨#[112, 101, 114, 99, 101, 110, 116]⟩] w fun e w' => e = .returned (.tuple #[nv 2 ⟨#[]⟩ false 0, .int .i64 0]) ∧ Below w.heap.size w w' := st2 (renOf [] (by simp)) w (fun t ht => by cases ht) (fun _ _ => rfl)
theorem rfC2 (w : World) : Calls Tryz.prog 6 #[.string ⟨#[112, 101, 114, 99, 101, 110, 116]⟩] w fun e w' => e = .returned (.tuple #[nv 2 ⟨#[]⟩ false 0, .bool true]) ∧ Below w.heap.size w w' := rf2 (renOf [] (by simp)) w (fun t ht => by cases ht) (fun _ _ => rfl)
theorem st3 : Tells Tryz.prog 11 [] 5 [.str [115, 104, 111, 114, 116]] (.tup [(.agg [(.int .i64 (.ofNat 4)), (.str []), (.str []), (.bool false), (.int .i64 (.ofNat 0))]), (.int .i64 (.ofNat 0))]) := tells env_ok 39 100000 rfl (by kernel_rfl) (fn := Tryz.f5) (by kernel_rfl) rfl (by kernel_rfl) (bndL0 (by kernel_rfl))
theorem rf3 : Tells Tryz.prog 11 [] 6 [.str [115, 104, 111, 114, 116]] (.tup [(.agg [(.int .i64 (.ofNat 4)), (.str []), (.str []), (.bool false), (.int .i64 (.ofNat 0))]), (.bool true)]) := tells env_ok 39 100000 rfl (by kernel_rfl) (fn := Tryz.f6) (by kernel_rfl) rfl (by kernel_rfl) (bndL0 (by kernel_rfl))
theorem stC3 (w : World) : Calls Tryz.prog 5 #[.string ⟨#[115, 104, 111, 114, 116]⟩] w fun e w' => e = .returned (.tuple #[nv 4 ⟨#[]⟩ false 0, .int .i64 0]) ∧ Below w.heap.size w w' := st3 (renOf [] (by simp)) w (fun t ht => by cases ht) (fun _ _ => rfl)
theorem rfC3 (w : World) : Calls Tryz.prog 6 #[.string ⟨#[115, 104, 111, 114, 116]⟩] w fun e w' => e = .returned (.tuple #[nv 4 ⟨#[]⟩ false 0, .bool true]) ∧ Below w.heap.size w w' := rf3 (renOf [] (by simp)) w (fun t ht => by cases ht) (fun _ _ => rfl)
theorem st4 : Tells Tryz.prog 11 [] 5 [.str [108, 111, 110, 103]] (.tup [(.agg [(.int .i64 (.ofNat 5)), (.str []), (.str []), (.bool false), (.int .i64 (.ofNat 0))]), (.int .i64 (.ofNat 0))]) := tells env_ok 39 100000 rfl (by kernel_rfl) (fn := Tryz.f5) (by kernel_rfl) rfl (by kernel_rfl) (bndL0 (by kernel_rfl))
theorem rf4 : Tells Tryz.prog 11 [] 6 [.str [108, 111, 110, 103]] (.tup [(.agg [(.int .i64 (.ofNat 5)), (.str []), (.str []), (.bool false), (.int .i64 (.ofNat 0))]), (.bool true)]) := tells env_ok 39 100000 rfl (by kernel_rfl) (fn := Tryz.f6) (by kernel_rfl) rfl (by kernel_rfl) (bndL0 (by kernel_rfl))
theorem stC4 (w : World) : Calls Tryz.prog 5 #[.string ⟨#[108, 111, 110, 103]⟩] w fun e w' => e = .returned (.tuple #[nv 5 ⟨#[]⟩ false 0, .int .i64 0]) ∧ Below w.heap.size w w' := st4 (renOf [] (by simp)) w (fun t ht => by cases ht) (fun _ _ => rfl)
theorem rfC4 (w : World) : Calls Tryz.prog 6 #[.string ⟨#[108, 111, 110, 103]⟩] w fun e w' => e = .returned (.tuple #[nv 5 ⟨#[]⟩ false 0, .bool true]) ∧ Below w.heap.size w w' := rf4 (renOf [] (by simp)) w (fun t ht => by cases ht) (fun _ _ => rfl)
set_option maxHeartbeats 4000000 in
theorem law_ok (s : ByteArray) (k : Int) (c : ByteArray) (f : Bool) (n : Int) (HS : ∀ w, Glob w → Calls Tryz.prog 5 #[.string s] w fun e w' => e = .returned (.tuple #[nv k c f n, .int .i64 0]) ∧ Below w.heap.size w w') (HR : ∀ w, Calls Tryz.prog 6 #[.string s] w fun e w' => e = .returned (.tuple #[nv k c f n, .bool true]) ∧ Below w.heap.size w w') (w : World) (hg : Glob w) :
    Calls Tryz.prog 3 #[.string s] w fun e w' => e = .returned (.bool true) ∧ Below w.heap.size w w' := by
  have HK := fun (w : World) (hg : Glob w) => wakes_yes hg
  unfold nv at HS HR
  go_enter Tryz.func3, Tryz.ntmps3
  go_wp2_with fail
  refine (HK _ hg).mono ?_
  rintro e w1 ⟨rfl, hb1⟩
  have hg1 := hg.below hb1
  go_wp2_with fail
  refine (HS _ hg1).mono ?_
  rintro e w2 ⟨rfl, hb2⟩
  have B2 := hb1.trans (hb2.mono hb1.size)
  clear hb1 hb2 hg1 hg HS HK
  have S := Blk5.new w2 (.int .i64 k) (.string c) (.string ⟨#[]⟩) (.bool f) (.int .i64 n) 24
  have B3 := B2.alloc B2.size (.cells #[.int .i64 k, .string c, .string ⟨#[]⟩, .bool f, .int .i64 n] 24)
  go_wp2_with fail
  generalize w2.alloc (.cells #[.int .i64 k, .string c, .string ⟨#[]⟩, .bool f, .int .i64 n] 24) = w3 at *
  refine (HR _).mono ?_
  rintro e w4 ⟨rfl, hb4⟩
  have S4 := S.below hb4
  have B4 := B3.trans (hb4.mono B3.size)
  have B5 := B4.alloc B4.size (.cells #[.int .i64 k, .string c, .string ⟨#[]⟩, .bool f, .int .i64 n] 24)
  clear S B2 B3 B4 hb4 HR
  obtain ⟨sl, s0, s1, s2, s3, s4, sf⟩ := S4
  have ne : w2.heap.size ≠ w4.heap.size := Nat.ne_of_lt sl
  go_wp2_with fail
  refine bodyPost_ret (v := .bool true) ?_ rfl ⟨rfl, B5⟩
  simp [results, Tryz.results3, go_sem]
set_option maxHeartbeats 4000000 in
theorem law_err (s : ByteArray) (HS : ∀ w, Glob w → Calls Tryz.prog 5 #[.string s] w fun e w' => e = .returned (.tuple #[nv 0 ⟨#[]⟩ false 0, .int .i64 2]) ∧ Below w.heap.size w w') (HR : ∀ w, Calls Tryz.prog 6 #[.string s] w fun e w' => e = .returned (.tuple #[nv 0 ⟨#[]⟩ false 0, .bool false]) ∧ Below w.heap.size w w') (w : World) (hg : Glob w) :
    Calls Tryz.prog 3 #[.string s] w fun e w' => e = .returned (.bool true) ∧ Below w.heap.size w w' := by
  have HK := fun (w : World) (hg : Glob w) => wakes_yes hg
  unfold nv at HS HR
  go_enter Tryz.func3, Tryz.ntmps3
  go_wp2_with fail
  refine (HK _ hg).mono ?_
  rintro e w1 ⟨rfl, hb1⟩
  have hg1 := hg.below hb1
  go_wp2_with fail
  refine (HS _ hg1).mono ?_
  rintro e w2 ⟨rfl, hb2⟩
  have B2 := hb1.trans (hb2.mono hb1.size)
  clear hb1 hb2 hg1 hg HS HK
  have S := Blk5.new w2 (.int .i64 0) (.string ⟨#[]⟩) (.string ⟨#[]⟩) (.bool false) (.int .i64 0) 24
  have B3 := B2.alloc B2.size (.cells #[.int .i64 0, .string ⟨#[]⟩, .string ⟨#[]⟩, .bool false, .int .i64 0] 24)
  go_wp2_with fail
  generalize w2.alloc (.cells #[.int .i64 0, .string ⟨#[]⟩, .string ⟨#[]⟩, .bool false, .int .i64 0] 24) = w3 at *
  refine (HR _).mono ?_
  rintro e w4 ⟨rfl, hb4⟩
  have S4 := S.below hb4
  have B4 := B3.trans (hb4.mono B3.size)
  have B5 := B4.alloc B4.size (.cells #[.int .i64 0, .string ⟨#[]⟩, .string ⟨#[]⟩, .bool false, .int .i64 0] 24)
  clear S B2 B3 B4 hb4 HR
  obtain ⟨sl, s0, s1, s2, s3, s4, sf⟩ := S4
  have ne : w2.heap.size ≠ w4.heap.size := Nat.ne_of_lt sl
  go_wp2_with fail
  refine bodyPost_ret (v := .bool true) ?_ rfl ⟨rfl, B5⟩
  simp [results, Tryz.results3, go_sem]
end Go.Proofs.YtnakbibdljdlcaaGreatDoor
