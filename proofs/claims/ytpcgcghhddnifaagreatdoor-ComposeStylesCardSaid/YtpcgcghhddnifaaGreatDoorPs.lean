/-
  ComposeStyles: the law's walk. Conditions: what the listed variables hold, the text's size.
-/
import Derived.Test.YtpcgcghhddnifaaGreatDoorCc
import Derived.Test.YtpcgcghhddnifaaGreatDoorNn
set_option linter.unusedVariables false
namespace Go.Proofs.YtpcgcghhddnifaaGreatDoor
open Go.RowKit Go.Vx
theorem wakes_yes {w : World} (hg : Glob w) : Calls Tryz.prog 8 #[] w fun e w' => e = .returned (.bool true) ∧ Below w.heap.size w w' := by
  obtain ⟨te, pe, h0⟩ := hg.g0
  exact wakes_told (renOf [.iface te pe] (by simp [isCell])) w (laid_of hg _ h0) (fun _ _ => rfl)
set_option maxHeartbeats 4000000 in
set_option maxRecDepth 100000 in
theorem law_eyy (s t a b k : ByteArray) (f : Bool) (ht : s.extract 0 (min (s.size : Int) 200).toNat = t) (hz : t.toList.isEmpty = true)
    (HL : ∀ w : World, Calls Tryz.prog 20 #[.string t] w fun e w' => e = .returned (.tuple #[.string ⟨#[115, 116, 97, 110, 100, 97, 114, 100]⟩, .int .i64 0]) ∧ w' = w)
    
    (HU : ∀ w : World, Calls Tryz.prog 21 #[.string t] w fun e w' => e = .returned (.tuple #[.agg #[.string a, .string b], .int .i64 0]) ∧ Below w.heap.size w w')
    (HV : ∀ w : World, Calls Tryz.prog 22 #[.string t] w fun e w' => e = .returned (.tuple #[.agg #[.string a, .string b], .bool true]) ∧ Below w.heap.size w w')
    (HR : ∀ w : World, Calls Tryz.prog 23 #[.string t] w fun e w' => e = .returned (.tuple #[.agg #[.string k, .bool f], .int .i64 0]) ∧ Below w.heap.size w w')
    (HS : ∀ w : World, Calls Tryz.prog 24 #[.string t] w fun e w' => e = .returned (.tuple #[.agg #[.string k, .bool f], .bool true]) ∧ Below w.heap.size w w') (w : World) (hg : Glob w) : Calls Tryz.prog 6 #[.string s] w fun e w' => e = .returned (.bool true) ∧ Below w.heap.size w w' := by
  have HK := fun (w : World) (hg : Glob w) => wakes_yes hg
  go_enter Tryz.func6, Tryz.ntmps6
  go_wp2_with fail
  refine (HK _ hg).mono ?_
  rintro e w1 ⟨rfl, hb1⟩
  clear HK hg
  go_wp2_with fail
  try simp only [ht]
  clear ht
  go_wp2_with (first | (go_at_call 20; refine (HL _).mono ?_; rintro e wl ⟨rfl, rfl⟩))
  refine (HU _).mono ?_
  rintro e w2 ⟨rfl, hb2⟩
  have B2 := hb1.trans (hb2.mono hb1.size)
  clear hb1 hb2 HU HL  hz
  have S := Blk2.new w2 (.string a) (.string b) 48
  have B3 := B2.alloc B2.size (.cells #[.string a, .string b] 48)
  go_wp2_with fail
  generalize w2.alloc (.cells #[.string a, .string b] 48) = w3 at *
  refine (HV _).mono ?_
  rintro e w4 ⟨rfl, hb4⟩
  have S4 := S.below hb4
  have B4 := B3.trans (hb4.mono B3.size)
  have B5 := B4.alloc B4.size (.cells #[.string a, .string b] 48)
  clear S B2 B3 B4 hb4 HV
  obtain ⟨sl, s0, s1, sf⟩ := S4
  have ne : w2.heap.size ≠ w4.heap.size := Nat.ne_of_lt sl
  go_wp2_with fail
  clear sl s0 s1 sf
  generalize w4.alloc (.cells #[.string a, .string b] 48) = w5 at *
  refine (HR _).mono ?_
  rintro e w6 ⟨rfl, hb6⟩
  have B6 := B5.trans (hb6.mono B5.size)
  clear hb6 B5 HR
  have S := Blk2.new w6 (.string k) (.bool f) 54
  have B7 := B6.alloc B6.size (.cells #[.string k, .bool f] 54)
  go_wp2_with fail
  generalize w6.alloc (.cells #[.string k, .bool f] 54) = w7 at *
  refine (HS _).mono ?_
  rintro e w8 ⟨rfl, hb8⟩
  have S8 := S.below hb8
  have B8 := B7.trans (hb8.mono B7.size)
  have B9 := B8.alloc B8.size (.cells #[.string k, .bool f] 54)
  clear S B6 B7 B8 hb8 HS
  obtain ⟨sl, s0, s1, sf⟩ := S8
  have ne2 : w6.heap.size ≠ w8.heap.size := Nat.ne_of_lt sl
  go_wp2_with fail
  refine bodyPost_ret (v := .bool true) ?_ rfl ⟨rfl, B9⟩
  simp [results, Tryz.results6, go_sem]
set_option maxHeartbeats 4000000 in
set_option maxRecDepth 100000 in
theorem law_eyn (s t a b k : ByteArray) (f : Bool) (ht : s.extract 0 (min (s.size : Int) 200).toNat = t) (hz : t.toList.isEmpty = true)
    (HL : ∀ w : World, Calls Tryz.prog 20 #[.string t] w fun e w' => e = .returned (.tuple #[.string ⟨#[115, 116, 97, 110, 100, 97, 114, 100]⟩, .int .i64 0]) ∧ w' = w)
    
    (HU : ∀ w : World, Calls Tryz.prog 21 #[.string t] w fun e w' => e = .returned (.tuple #[.agg #[.string a, .string b], .int .i64 0]) ∧ Below w.heap.size w w')
    (HV : ∀ w : World, Calls Tryz.prog 22 #[.string t] w fun e w' => e = .returned (.tuple #[.agg #[.string a, .string b], .bool true]) ∧ Below w.heap.size w w')
    (HR : ∀ w : World, Calls Tryz.prog 23 #[.string t] w fun e w' => e = .returned (.tuple #[.agg #[.string ⟨#[]⟩, .bool false], .int .i64 2]) ∧ Below w.heap.size w w')
    (HS : ∀ w : World, Calls Tryz.prog 24 #[.string t] w fun e w' => e = .returned (.tuple #[.agg #[.string k, .bool f], .bool false]) ∧ Below w.heap.size w w') (w : World) (hg : Glob w) : Calls Tryz.prog 6 #[.string s] w fun e w' => e = .returned (.bool true) ∧ Below w.heap.size w w' := by
  have HK := fun (w : World) (hg : Glob w) => wakes_yes hg
  go_enter Tryz.func6, Tryz.ntmps6
  go_wp2_with fail
  refine (HK _ hg).mono ?_
  rintro e w1 ⟨rfl, hb1⟩
  clear HK hg
  go_wp2_with fail
  try simp only [ht]
  clear ht
  go_wp2_with (first | (go_at_call 20; refine (HL _).mono ?_; rintro e wl ⟨rfl, rfl⟩))
  refine (HU _).mono ?_
  rintro e w2 ⟨rfl, hb2⟩
  have B2 := hb1.trans (hb2.mono hb1.size)
  clear hb1 hb2 HU HL  hz
  have S := Blk2.new w2 (.string a) (.string b) 48
  have B3 := B2.alloc B2.size (.cells #[.string a, .string b] 48)
  go_wp2_with fail
  generalize w2.alloc (.cells #[.string a, .string b] 48) = w3 at *
  refine (HV _).mono ?_
  rintro e w4 ⟨rfl, hb4⟩
  have S4 := S.below hb4
  have B4 := B3.trans (hb4.mono B3.size)
  have B5 := B4.alloc B4.size (.cells #[.string a, .string b] 48)
  clear S B2 B3 B4 hb4 HV
  obtain ⟨sl, s0, s1, sf⟩ := S4
  have ne : w2.heap.size ≠ w4.heap.size := Nat.ne_of_lt sl
  go_wp2_with fail
  clear sl s0 s1 sf
  generalize w4.alloc (.cells #[.string a, .string b] 48) = w5 at *
  refine (HR _).mono ?_
  rintro e w6 ⟨rfl, hb6⟩
  have B6 := B5.trans (hb6.mono B5.size)
  clear hb6 B5 HR
  have S := Blk2.new w6 (.string ⟨#[]⟩) (.bool false) 54
  have B7 := B6.alloc B6.size (.cells #[.string ⟨#[]⟩, .bool false] 54)
  go_wp2_with fail
  generalize w6.alloc (.cells #[.string ⟨#[]⟩, .bool false] 54) = w7 at *
  refine (HS _).mono ?_
  rintro e w8 ⟨rfl, hb8⟩
  have S8 := S.below hb8
  have B8 := B7.trans (hb8.mono B7.size)
  have B9 := B8.alloc B8.size (.cells #[.string k, .bool f] 54)
  clear S B6 B7 B8 hb8 HS
  obtain ⟨sl, s0, s1, sf⟩ := S8
  have ne2 : w6.heap.size ≠ w8.heap.size := Nat.ne_of_lt sl
  go_wp2_with fail
  refine bodyPost_ret (v := .bool true) ?_ rfl ⟨rfl, B9⟩
  simp [results, Tryz.results6, go_sem]
set_option maxHeartbeats 4000000 in
set_option maxRecDepth 100000 in
theorem law_eny (s t a b k : ByteArray) (f : Bool) (ht : s.extract 0 (min (s.size : Int) 200).toNat = t) (hz : t.toList.isEmpty = true)
    (HL : ∀ w : World, Calls Tryz.prog 20 #[.string t] w fun e w' => e = .returned (.tuple #[.string ⟨#[115, 116, 97, 110, 100, 97, 114, 100]⟩, .int .i64 0]) ∧ w' = w)
    
    (HU : ∀ w : World, Calls Tryz.prog 21 #[.string t] w fun e w' => e = .returned (.tuple #[.agg #[.string ⟨#[]⟩, .string ⟨#[]⟩], .int .i64 2]) ∧ Below w.heap.size w w')
    (HV : ∀ w : World, Calls Tryz.prog 22 #[.string t] w fun e w' => e = .returned (.tuple #[.agg #[.string a, .string b], .bool false]) ∧ Below w.heap.size w w')
    (HR : ∀ w : World, Calls Tryz.prog 23 #[.string t] w fun e w' => e = .returned (.tuple #[.agg #[.string k, .bool f], .int .i64 0]) ∧ Below w.heap.size w w')
    (HS : ∀ w : World, Calls Tryz.prog 24 #[.string t] w fun e w' => e = .returned (.tuple #[.agg #[.string k, .bool f], .bool true]) ∧ Below w.heap.size w w') (w : World) (hg : Glob w) : Calls Tryz.prog 6 #[.string s] w fun e w' => e = .returned (.bool true) ∧ Below w.heap.size w w' := by
  have HK := fun (w : World) (hg : Glob w) => wakes_yes hg
  go_enter Tryz.func6, Tryz.ntmps6
  go_wp2_with fail
  refine (HK _ hg).mono ?_
  rintro e w1 ⟨rfl, hb1⟩
  clear HK hg
  go_wp2_with fail
  try simp only [ht]
  clear ht
  go_wp2_with (first | (go_at_call 20; refine (HL _).mono ?_; rintro e wl ⟨rfl, rfl⟩))
  refine (HU _).mono ?_
  rintro e w2 ⟨rfl, hb2⟩
  have B2 := hb1.trans (hb2.mono hb1.size)
  clear hb1 hb2 HU HL  hz
  have S := Blk2.new w2 (.string ⟨#[]⟩) (.string ⟨#[]⟩) 48
  have B3 := B2.alloc B2.size (.cells #[.string ⟨#[]⟩, .string ⟨#[]⟩] 48)
  go_wp2_with fail
  generalize w2.alloc (.cells #[.string ⟨#[]⟩, .string ⟨#[]⟩] 48) = w3 at *
  refine (HV _).mono ?_
  rintro e w4 ⟨rfl, hb4⟩
  have S4 := S.below hb4
  have B4 := B3.trans (hb4.mono B3.size)
  have B5 := B4.alloc B4.size (.cells #[.string a, .string b] 48)
  clear S B2 B3 B4 hb4 HV
  obtain ⟨sl, s0, s1, sf⟩ := S4
  have ne : w2.heap.size ≠ w4.heap.size := Nat.ne_of_lt sl
  go_wp2_with fail
  clear sl s0 s1 sf
  generalize w4.alloc (.cells #[.string a, .string b] 48) = w5 at *
  refine (HR _).mono ?_
  rintro e w6 ⟨rfl, hb6⟩
  have B6 := B5.trans (hb6.mono B5.size)
  clear hb6 B5 HR
  have S := Blk2.new w6 (.string k) (.bool f) 54
  have B7 := B6.alloc B6.size (.cells #[.string k, .bool f] 54)
  go_wp2_with fail
  generalize w6.alloc (.cells #[.string k, .bool f] 54) = w7 at *
  refine (HS _).mono ?_
  rintro e w8 ⟨rfl, hb8⟩
  have S8 := S.below hb8
  have B8 := B7.trans (hb8.mono B7.size)
  have B9 := B8.alloc B8.size (.cells #[.string k, .bool f] 54)
  clear S B6 B7 B8 hb8 HS
  obtain ⟨sl, s0, s1, sf⟩ := S8
  have ne2 : w6.heap.size ≠ w8.heap.size := Nat.ne_of_lt sl
  go_wp2_with fail
  refine bodyPost_ret (v := .bool true) ?_ rfl ⟨rfl, B9⟩
  simp [results, Tryz.results6, go_sem]
set_option maxHeartbeats 4000000 in
set_option maxRecDepth 100000 in
theorem law_enn (s t a b k : ByteArray) (f : Bool) (ht : s.extract 0 (min (s.size : Int) 200).toNat = t) (hz : t.toList.isEmpty = true)
    (HL : ∀ w : World, Calls Tryz.prog 20 #[.string t] w fun e w' => e = .returned (.tuple #[.string ⟨#[115, 116, 97, 110, 100, 97, 114, 100]⟩, .int .i64 0]) ∧ w' = w)
    
    (HU : ∀ w : World, Calls Tryz.prog 21 #[.string t] w fun e w' => e = .returned (.tuple #[.agg #[.string ⟨#[]⟩, .string ⟨#[]⟩], .int .i64 2]) ∧ Below w.heap.size w w')
    (HV : ∀ w : World, Calls Tryz.prog 22 #[.string t] w fun e w' => e = .returned (.tuple #[.agg #[.string a, .string b], .bool false]) ∧ Below w.heap.size w w')
    (HR : ∀ w : World, Calls Tryz.prog 23 #[.string t] w fun e w' => e = .returned (.tuple #[.agg #[.string ⟨#[]⟩, .bool false], .int .i64 2]) ∧ Below w.heap.size w w')
    (HS : ∀ w : World, Calls Tryz.prog 24 #[.string t] w fun e w' => e = .returned (.tuple #[.agg #[.string k, .bool f], .bool false]) ∧ Below w.heap.size w w') (w : World) (hg : Glob w) : Calls Tryz.prog 6 #[.string s] w fun e w' => e = .returned (.bool true) ∧ Below w.heap.size w w' := by
  have HK := fun (w : World) (hg : Glob w) => wakes_yes hg
  go_enter Tryz.func6, Tryz.ntmps6
  go_wp2_with fail
  refine (HK _ hg).mono ?_
  rintro e w1 ⟨rfl, hb1⟩
  clear HK hg
  go_wp2_with fail
  try simp only [ht]
  clear ht
  go_wp2_with (first | (go_at_call 20; refine (HL _).mono ?_; rintro e wl ⟨rfl, rfl⟩))
  refine (HU _).mono ?_
  rintro e w2 ⟨rfl, hb2⟩
  have B2 := hb1.trans (hb2.mono hb1.size)
  clear hb1 hb2 HU HL  hz
  have S := Blk2.new w2 (.string ⟨#[]⟩) (.string ⟨#[]⟩) 48
  have B3 := B2.alloc B2.size (.cells #[.string ⟨#[]⟩, .string ⟨#[]⟩] 48)
  go_wp2_with fail
  generalize w2.alloc (.cells #[.string ⟨#[]⟩, .string ⟨#[]⟩] 48) = w3 at *
  refine (HV _).mono ?_
  rintro e w4 ⟨rfl, hb4⟩
  have S4 := S.below hb4
  have B4 := B3.trans (hb4.mono B3.size)
  have B5 := B4.alloc B4.size (.cells #[.string a, .string b] 48)
  clear S B2 B3 B4 hb4 HV
  obtain ⟨sl, s0, s1, sf⟩ := S4
  have ne : w2.heap.size ≠ w4.heap.size := Nat.ne_of_lt sl
  go_wp2_with fail
  clear sl s0 s1 sf
  generalize w4.alloc (.cells #[.string a, .string b] 48) = w5 at *
  refine (HR _).mono ?_
  rintro e w6 ⟨rfl, hb6⟩
  have B6 := B5.trans (hb6.mono B5.size)
  clear hb6 B5 HR
  have S := Blk2.new w6 (.string ⟨#[]⟩) (.bool false) 54
  have B7 := B6.alloc B6.size (.cells #[.string ⟨#[]⟩, .bool false] 54)
  go_wp2_with fail
  generalize w6.alloc (.cells #[.string ⟨#[]⟩, .bool false] 54) = w7 at *
  refine (HS _).mono ?_
  rintro e w8 ⟨rfl, hb8⟩
  have S8 := S.below hb8
  have B8 := B7.trans (hb8.mono B7.size)
  have B9 := B8.alloc B8.size (.cells #[.string k, .bool f] 54)
  clear S B6 B7 B8 hb8 HS
  obtain ⟨sl, s0, s1, sf⟩ := S8
  have ne2 : w6.heap.size ≠ w8.heap.size := Nat.ne_of_lt sl
  go_wp2_with fail
  refine bodyPost_ret (v := .bool true) ?_ rfl ⟨rfl, B9⟩
  simp [results, Tryz.results6, go_sem]
set_option maxHeartbeats 4000000 in
set_option maxRecDepth 100000 in
theorem law_yyy (s t a b k : ByteArray) (f : Bool) (ht : s.extract 0 (min (s.size : Int) 200).toNat = t) (hz : t.toList.isEmpty = false)
    (HL : ∀ w : World, Calls Tryz.prog 20 #[.string t] w fun e w' => e = .returned (.tuple #[.string t, .int .i64 0]) ∧ w' = w)
    (HN : ∀ w : World, Calls Tryz.prog 11 #[.string t] w fun e w' => e = .returned (.bool true) ∧ w' = w)
    (HU : ∀ w : World, Calls Tryz.prog 21 #[.string t] w fun e w' => e = .returned (.tuple #[.agg #[.string a, .string b], .int .i64 0]) ∧ Below w.heap.size w w')
    (HV : ∀ w : World, Calls Tryz.prog 22 #[.string t] w fun e w' => e = .returned (.tuple #[.agg #[.string a, .string b], .bool true]) ∧ Below w.heap.size w w')
    (HR : ∀ w : World, Calls Tryz.prog 23 #[.string t] w fun e w' => e = .returned (.tuple #[.agg #[.string k, .bool f], .int .i64 0]) ∧ Below w.heap.size w w')
    (HS : ∀ w : World, Calls Tryz.prog 24 #[.string t] w fun e w' => e = .returned (.tuple #[.agg #[.string k, .bool f], .bool true]) ∧ Below w.heap.size w w') (w : World) (hg : Glob w) : Calls Tryz.prog 6 #[.string s] w fun e w' => e = .returned (.bool true) ∧ Below w.heap.size w w' := by
  have HK := fun (w : World) (hg : Glob w) => wakes_yes hg
  go_enter Tryz.func6, Tryz.ntmps6
  go_wp2_with fail
  refine (HK _ hg).mono ?_
  rintro e w1 ⟨rfl, hb1⟩
  clear HK hg
  go_wp2_with fail
  try simp only [ht]
  clear ht
  go_wp2_with (first | (go_at_call 20; refine (HL _).mono ?_; rintro e wl ⟨rfl, rfl⟩) | (go_at_call 11; refine (HN _).mono ?_; rintro e wl ⟨rfl, rfl⟩))
  refine (HU _).mono ?_
  rintro e w2 ⟨rfl, hb2⟩
  have B2 := hb1.trans (hb2.mono hb1.size)
  clear hb1 hb2 HU HL HN hz
  have S := Blk2.new w2 (.string a) (.string b) 48
  have B3 := B2.alloc B2.size (.cells #[.string a, .string b] 48)
  go_wp2_with fail
  generalize w2.alloc (.cells #[.string a, .string b] 48) = w3 at *
  refine (HV _).mono ?_
  rintro e w4 ⟨rfl, hb4⟩
  have S4 := S.below hb4
  have B4 := B3.trans (hb4.mono B3.size)
  have B5 := B4.alloc B4.size (.cells #[.string a, .string b] 48)
  clear S B2 B3 B4 hb4 HV
  obtain ⟨sl, s0, s1, sf⟩ := S4
  have ne : w2.heap.size ≠ w4.heap.size := Nat.ne_of_lt sl
  go_wp2_with fail
  clear sl s0 s1 sf
  generalize w4.alloc (.cells #[.string a, .string b] 48) = w5 at *
  refine (HR _).mono ?_
  rintro e w6 ⟨rfl, hb6⟩
  have B6 := B5.trans (hb6.mono B5.size)
  clear hb6 B5 HR
  have S := Blk2.new w6 (.string k) (.bool f) 54
  have B7 := B6.alloc B6.size (.cells #[.string k, .bool f] 54)
  go_wp2_with fail
  generalize w6.alloc (.cells #[.string k, .bool f] 54) = w7 at *
  refine (HS _).mono ?_
  rintro e w8 ⟨rfl, hb8⟩
  have S8 := S.below hb8
  have B8 := B7.trans (hb8.mono B7.size)
  have B9 := B8.alloc B8.size (.cells #[.string k, .bool f] 54)
  clear S B6 B7 B8 hb8 HS
  obtain ⟨sl, s0, s1, sf⟩ := S8
  have ne2 : w6.heap.size ≠ w8.heap.size := Nat.ne_of_lt sl
  go_wp2_with fail
  refine bodyPost_ret (v := .bool true) ?_ rfl ⟨rfl, B9⟩
  simp [results, Tryz.results6, go_sem]
set_option maxHeartbeats 4000000 in
set_option maxRecDepth 100000 in
theorem law_yyn (s t a b k : ByteArray) (f : Bool) (ht : s.extract 0 (min (s.size : Int) 200).toNat = t) (hz : t.toList.isEmpty = false)
    (HL : ∀ w : World, Calls Tryz.prog 20 #[.string t] w fun e w' => e = .returned (.tuple #[.string t, .int .i64 0]) ∧ w' = w)
    (HN : ∀ w : World, Calls Tryz.prog 11 #[.string t] w fun e w' => e = .returned (.bool true) ∧ w' = w)
    (HU : ∀ w : World, Calls Tryz.prog 21 #[.string t] w fun e w' => e = .returned (.tuple #[.agg #[.string a, .string b], .int .i64 0]) ∧ Below w.heap.size w w')
    (HV : ∀ w : World, Calls Tryz.prog 22 #[.string t] w fun e w' => e = .returned (.tuple #[.agg #[.string a, .string b], .bool true]) ∧ Below w.heap.size w w')
    (HR : ∀ w : World, Calls Tryz.prog 23 #[.string t] w fun e w' => e = .returned (.tuple #[.agg #[.string ⟨#[]⟩, .bool false], .int .i64 2]) ∧ Below w.heap.size w w')
    (HS : ∀ w : World, Calls Tryz.prog 24 #[.string t] w fun e w' => e = .returned (.tuple #[.agg #[.string k, .bool f], .bool false]) ∧ Below w.heap.size w w') (w : World) (hg : Glob w) : Calls Tryz.prog 6 #[.string s] w fun e w' => e = .returned (.bool true) ∧ Below w.heap.size w w' := by
  have HK := fun (w : World) (hg : Glob w) => wakes_yes hg
  go_enter Tryz.func6, Tryz.ntmps6
  go_wp2_with fail
  refine (HK _ hg).mono ?_
  rintro e w1 ⟨rfl, hb1⟩
  clear HK hg
  go_wp2_with fail
  try simp only [ht]
  clear ht
  go_wp2_with (first | (go_at_call 20; refine (HL _).mono ?_; rintro e wl ⟨rfl, rfl⟩) | (go_at_call 11; refine (HN _).mono ?_; rintro e wl ⟨rfl, rfl⟩))
  refine (HU _).mono ?_
  rintro e w2 ⟨rfl, hb2⟩
  have B2 := hb1.trans (hb2.mono hb1.size)
  clear hb1 hb2 HU HL HN hz
  have S := Blk2.new w2 (.string a) (.string b) 48
  have B3 := B2.alloc B2.size (.cells #[.string a, .string b] 48)
  go_wp2_with fail
  generalize w2.alloc (.cells #[.string a, .string b] 48) = w3 at *
  refine (HV _).mono ?_
  rintro e w4 ⟨rfl, hb4⟩
  have S4 := S.below hb4
  have B4 := B3.trans (hb4.mono B3.size)
  have B5 := B4.alloc B4.size (.cells #[.string a, .string b] 48)
  clear S B2 B3 B4 hb4 HV
  obtain ⟨sl, s0, s1, sf⟩ := S4
  have ne : w2.heap.size ≠ w4.heap.size := Nat.ne_of_lt sl
  go_wp2_with fail
  clear sl s0 s1 sf
  generalize w4.alloc (.cells #[.string a, .string b] 48) = w5 at *
  refine (HR _).mono ?_
  rintro e w6 ⟨rfl, hb6⟩
  have B6 := B5.trans (hb6.mono B5.size)
  clear hb6 B5 HR
  have S := Blk2.new w6 (.string ⟨#[]⟩) (.bool false) 54
  have B7 := B6.alloc B6.size (.cells #[.string ⟨#[]⟩, .bool false] 54)
  go_wp2_with fail
  generalize w6.alloc (.cells #[.string ⟨#[]⟩, .bool false] 54) = w7 at *
  refine (HS _).mono ?_
  rintro e w8 ⟨rfl, hb8⟩
  have S8 := S.below hb8
  have B8 := B7.trans (hb8.mono B7.size)
  have B9 := B8.alloc B8.size (.cells #[.string k, .bool f] 54)
  clear S B6 B7 B8 hb8 HS
  obtain ⟨sl, s0, s1, sf⟩ := S8
  have ne2 : w6.heap.size ≠ w8.heap.size := Nat.ne_of_lt sl
  go_wp2_with fail
  refine bodyPost_ret (v := .bool true) ?_ rfl ⟨rfl, B9⟩
  simp [results, Tryz.results6, go_sem]
set_option maxHeartbeats 4000000 in
set_option maxRecDepth 100000 in
theorem law_yny (s t a b k : ByteArray) (f : Bool) (ht : s.extract 0 (min (s.size : Int) 200).toNat = t) (hz : t.toList.isEmpty = false)
    (HL : ∀ w : World, Calls Tryz.prog 20 #[.string t] w fun e w' => e = .returned (.tuple #[.string t, .int .i64 0]) ∧ w' = w)
    (HN : ∀ w : World, Calls Tryz.prog 11 #[.string t] w fun e w' => e = .returned (.bool true) ∧ w' = w)
    (HU : ∀ w : World, Calls Tryz.prog 21 #[.string t] w fun e w' => e = .returned (.tuple #[.agg #[.string ⟨#[]⟩, .string ⟨#[]⟩], .int .i64 2]) ∧ Below w.heap.size w w')
    (HV : ∀ w : World, Calls Tryz.prog 22 #[.string t] w fun e w' => e = .returned (.tuple #[.agg #[.string a, .string b], .bool false]) ∧ Below w.heap.size w w')
    (HR : ∀ w : World, Calls Tryz.prog 23 #[.string t] w fun e w' => e = .returned (.tuple #[.agg #[.string k, .bool f], .int .i64 0]) ∧ Below w.heap.size w w')
    (HS : ∀ w : World, Calls Tryz.prog 24 #[.string t] w fun e w' => e = .returned (.tuple #[.agg #[.string k, .bool f], .bool true]) ∧ Below w.heap.size w w') (w : World) (hg : Glob w) : Calls Tryz.prog 6 #[.string s] w fun e w' => e = .returned (.bool true) ∧ Below w.heap.size w w' := by
  have HK := fun (w : World) (hg : Glob w) => wakes_yes hg
  go_enter Tryz.func6, Tryz.ntmps6
  go_wp2_with fail
  refine (HK _ hg).mono ?_
  rintro e w1 ⟨rfl, hb1⟩
  clear HK hg
  go_wp2_with fail
  try simp only [ht]
  clear ht
  go_wp2_with (first | (go_at_call 20; refine (HL _).mono ?_; rintro e wl ⟨rfl, rfl⟩) | (go_at_call 11; refine (HN _).mono ?_; rintro e wl ⟨rfl, rfl⟩))
  refine (HU _).mono ?_
  rintro e w2 ⟨rfl, hb2⟩
  have B2 := hb1.trans (hb2.mono hb1.size)
  clear hb1 hb2 HU HL HN hz
  have S := Blk2.new w2 (.string ⟨#[]⟩) (.string ⟨#[]⟩) 48
  have B3 := B2.alloc B2.size (.cells #[.string ⟨#[]⟩, .string ⟨#[]⟩] 48)
  go_wp2_with fail
  generalize w2.alloc (.cells #[.string ⟨#[]⟩, .string ⟨#[]⟩] 48) = w3 at *
  refine (HV _).mono ?_
  rintro e w4 ⟨rfl, hb4⟩
  have S4 := S.below hb4
  have B4 := B3.trans (hb4.mono B3.size)
  have B5 := B4.alloc B4.size (.cells #[.string a, .string b] 48)
  clear S B2 B3 B4 hb4 HV
  obtain ⟨sl, s0, s1, sf⟩ := S4
  have ne : w2.heap.size ≠ w4.heap.size := Nat.ne_of_lt sl
  go_wp2_with fail
  clear sl s0 s1 sf
  generalize w4.alloc (.cells #[.string a, .string b] 48) = w5 at *
  refine (HR _).mono ?_
  rintro e w6 ⟨rfl, hb6⟩
  have B6 := B5.trans (hb6.mono B5.size)
  clear hb6 B5 HR
  have S := Blk2.new w6 (.string k) (.bool f) 54
  have B7 := B6.alloc B6.size (.cells #[.string k, .bool f] 54)
  go_wp2_with fail
  generalize w6.alloc (.cells #[.string k, .bool f] 54) = w7 at *
  refine (HS _).mono ?_
  rintro e w8 ⟨rfl, hb8⟩
  have S8 := S.below hb8
  have B8 := B7.trans (hb8.mono B7.size)
  have B9 := B8.alloc B8.size (.cells #[.string k, .bool f] 54)
  clear S B6 B7 B8 hb8 HS
  obtain ⟨sl, s0, s1, sf⟩ := S8
  have ne2 : w6.heap.size ≠ w8.heap.size := Nat.ne_of_lt sl
  go_wp2_with fail
  refine bodyPost_ret (v := .bool true) ?_ rfl ⟨rfl, B9⟩
  simp [results, Tryz.results6, go_sem]
set_option maxHeartbeats 4000000 in
set_option maxRecDepth 100000 in
theorem law_ynn (s t a b k : ByteArray) (f : Bool) (ht : s.extract 0 (min (s.size : Int) 200).toNat = t) (hz : t.toList.isEmpty = false)
    (HL : ∀ w : World, Calls Tryz.prog 20 #[.string t] w fun e w' => e = .returned (.tuple #[.string t, .int .i64 0]) ∧ w' = w)
    (HN : ∀ w : World, Calls Tryz.prog 11 #[.string t] w fun e w' => e = .returned (.bool true) ∧ w' = w)
    (HU : ∀ w : World, Calls Tryz.prog 21 #[.string t] w fun e w' => e = .returned (.tuple #[.agg #[.string ⟨#[]⟩, .string ⟨#[]⟩], .int .i64 2]) ∧ Below w.heap.size w w')
    (HV : ∀ w : World, Calls Tryz.prog 22 #[.string t] w fun e w' => e = .returned (.tuple #[.agg #[.string a, .string b], .bool false]) ∧ Below w.heap.size w w')
    (HR : ∀ w : World, Calls Tryz.prog 23 #[.string t] w fun e w' => e = .returned (.tuple #[.agg #[.string ⟨#[]⟩, .bool false], .int .i64 2]) ∧ Below w.heap.size w w')
    (HS : ∀ w : World, Calls Tryz.prog 24 #[.string t] w fun e w' => e = .returned (.tuple #[.agg #[.string k, .bool f], .bool false]) ∧ Below w.heap.size w w') (w : World) (hg : Glob w) : Calls Tryz.prog 6 #[.string s] w fun e w' => e = .returned (.bool true) ∧ Below w.heap.size w w' := by
  have HK := fun (w : World) (hg : Glob w) => wakes_yes hg
  go_enter Tryz.func6, Tryz.ntmps6
  go_wp2_with fail
  refine (HK _ hg).mono ?_
  rintro e w1 ⟨rfl, hb1⟩
  clear HK hg
  go_wp2_with fail
  try simp only [ht]
  clear ht
  go_wp2_with (first | (go_at_call 20; refine (HL _).mono ?_; rintro e wl ⟨rfl, rfl⟩) | (go_at_call 11; refine (HN _).mono ?_; rintro e wl ⟨rfl, rfl⟩))
  refine (HU _).mono ?_
  rintro e w2 ⟨rfl, hb2⟩
  have B2 := hb1.trans (hb2.mono hb1.size)
  clear hb1 hb2 HU HL HN hz
  have S := Blk2.new w2 (.string ⟨#[]⟩) (.string ⟨#[]⟩) 48
  have B3 := B2.alloc B2.size (.cells #[.string ⟨#[]⟩, .string ⟨#[]⟩] 48)
  go_wp2_with fail
  generalize w2.alloc (.cells #[.string ⟨#[]⟩, .string ⟨#[]⟩] 48) = w3 at *
  refine (HV _).mono ?_
  rintro e w4 ⟨rfl, hb4⟩
  have S4 := S.below hb4
  have B4 := B3.trans (hb4.mono B3.size)
  have B5 := B4.alloc B4.size (.cells #[.string a, .string b] 48)
  clear S B2 B3 B4 hb4 HV
  obtain ⟨sl, s0, s1, sf⟩ := S4
  have ne : w2.heap.size ≠ w4.heap.size := Nat.ne_of_lt sl
  go_wp2_with fail
  clear sl s0 s1 sf
  generalize w4.alloc (.cells #[.string a, .string b] 48) = w5 at *
  refine (HR _).mono ?_
  rintro e w6 ⟨rfl, hb6⟩
  have B6 := B5.trans (hb6.mono B5.size)
  clear hb6 B5 HR
  have S := Blk2.new w6 (.string ⟨#[]⟩) (.bool false) 54
  have B7 := B6.alloc B6.size (.cells #[.string ⟨#[]⟩, .bool false] 54)
  go_wp2_with fail
  generalize w6.alloc (.cells #[.string ⟨#[]⟩, .bool false] 54) = w7 at *
  refine (HS _).mono ?_
  rintro e w8 ⟨rfl, hb8⟩
  have S8 := S.below hb8
  have B8 := B7.trans (hb8.mono B7.size)
  have B9 := B8.alloc B8.size (.cells #[.string k, .bool f] 54)
  clear S B6 B7 B8 hb8 HS
  obtain ⟨sl, s0, s1, sf⟩ := S8
  have ne2 : w6.heap.size ≠ w8.heap.size := Nat.ne_of_lt sl
  go_wp2_with fail
  refine bodyPost_ret (v := .bool true) ?_ rfl ⟨rfl, B9⟩
  simp [results, Tryz.results6, go_sem]
set_option maxHeartbeats 4000000 in
set_option maxRecDepth 100000 in
theorem law_nyy (s t a b k : ByteArray) (f : Bool) (ht : s.extract 0 (min (s.size : Int) 200).toNat = t) (hz : t.toList.isEmpty = false)
    (HL : ∀ w : World, Calls Tryz.prog 20 #[.string t] w fun e w' => e = .returned (.tuple #[.string ⟨#[]⟩, .int .i64 2]) ∧ w' = w)
    (HN : ∀ w : World, Calls Tryz.prog 11 #[.string t] w fun e w' => e = .returned (.bool false) ∧ w' = w)
    (HU : ∀ w : World, Calls Tryz.prog 21 #[.string t] w fun e w' => e = .returned (.tuple #[.agg #[.string a, .string b], .int .i64 0]) ∧ Below w.heap.size w w')
    (HV : ∀ w : World, Calls Tryz.prog 22 #[.string t] w fun e w' => e = .returned (.tuple #[.agg #[.string a, .string b], .bool true]) ∧ Below w.heap.size w w')
    (HR : ∀ w : World, Calls Tryz.prog 23 #[.string t] w fun e w' => e = .returned (.tuple #[.agg #[.string k, .bool f], .int .i64 0]) ∧ Below w.heap.size w w')
    (HS : ∀ w : World, Calls Tryz.prog 24 #[.string t] w fun e w' => e = .returned (.tuple #[.agg #[.string k, .bool f], .bool true]) ∧ Below w.heap.size w w') (w : World) (hg : Glob w) : Calls Tryz.prog 6 #[.string s] w fun e w' => e = .returned (.bool true) ∧ Below w.heap.size w w' := by
  have HK := fun (w : World) (hg : Glob w) => wakes_yes hg
  go_enter Tryz.func6, Tryz.ntmps6
  go_wp2_with fail
  refine (HK _ hg).mono ?_
  rintro e w1 ⟨rfl, hb1⟩
  clear HK hg
  go_wp2_with fail
  try simp only [ht]
  clear ht
  go_wp2_with (first | (go_at_call 20; refine (HL _).mono ?_; rintro e wl ⟨rfl, rfl⟩) | (go_at_call 11; refine (HN _).mono ?_; rintro e wl ⟨rfl, rfl⟩))
  refine (HU _).mono ?_
  rintro e w2 ⟨rfl, hb2⟩
  have B2 := hb1.trans (hb2.mono hb1.size)
  clear hb1 hb2 HU HL HN hz
  have S := Blk2.new w2 (.string a) (.string b) 48
  have B3 := B2.alloc B2.size (.cells #[.string a, .string b] 48)
  go_wp2_with fail
  generalize w2.alloc (.cells #[.string a, .string b] 48) = w3 at *
  refine (HV _).mono ?_
  rintro e w4 ⟨rfl, hb4⟩
  have S4 := S.below hb4
  have B4 := B3.trans (hb4.mono B3.size)
  have B5 := B4.alloc B4.size (.cells #[.string a, .string b] 48)
  clear S B2 B3 B4 hb4 HV
  obtain ⟨sl, s0, s1, sf⟩ := S4
  have ne : w2.heap.size ≠ w4.heap.size := Nat.ne_of_lt sl
  go_wp2_with fail
  clear sl s0 s1 sf
  generalize w4.alloc (.cells #[.string a, .string b] 48) = w5 at *
  refine (HR _).mono ?_
  rintro e w6 ⟨rfl, hb6⟩
  have B6 := B5.trans (hb6.mono B5.size)
  clear hb6 B5 HR
  have S := Blk2.new w6 (.string k) (.bool f) 54
  have B7 := B6.alloc B6.size (.cells #[.string k, .bool f] 54)
  go_wp2_with fail
  generalize w6.alloc (.cells #[.string k, .bool f] 54) = w7 at *
  refine (HS _).mono ?_
  rintro e w8 ⟨rfl, hb8⟩
  have S8 := S.below hb8
  have B8 := B7.trans (hb8.mono B7.size)
  have B9 := B8.alloc B8.size (.cells #[.string k, .bool f] 54)
  clear S B6 B7 B8 hb8 HS
  obtain ⟨sl, s0, s1, sf⟩ := S8
  have ne2 : w6.heap.size ≠ w8.heap.size := Nat.ne_of_lt sl
  go_wp2_with fail
  refine bodyPost_ret (v := .bool true) ?_ rfl ⟨rfl, B9⟩
  simp [results, Tryz.results6, go_sem]
set_option maxHeartbeats 4000000 in
set_option maxRecDepth 100000 in
theorem law_nyn (s t a b k : ByteArray) (f : Bool) (ht : s.extract 0 (min (s.size : Int) 200).toNat = t) (hz : t.toList.isEmpty = false)
    (HL : ∀ w : World, Calls Tryz.prog 20 #[.string t] w fun e w' => e = .returned (.tuple #[.string ⟨#[]⟩, .int .i64 2]) ∧ w' = w)
    (HN : ∀ w : World, Calls Tryz.prog 11 #[.string t] w fun e w' => e = .returned (.bool false) ∧ w' = w)
    (HU : ∀ w : World, Calls Tryz.prog 21 #[.string t] w fun e w' => e = .returned (.tuple #[.agg #[.string a, .string b], .int .i64 0]) ∧ Below w.heap.size w w')
    (HV : ∀ w : World, Calls Tryz.prog 22 #[.string t] w fun e w' => e = .returned (.tuple #[.agg #[.string a, .string b], .bool true]) ∧ Below w.heap.size w w')
    (HR : ∀ w : World, Calls Tryz.prog 23 #[.string t] w fun e w' => e = .returned (.tuple #[.agg #[.string ⟨#[]⟩, .bool false], .int .i64 2]) ∧ Below w.heap.size w w')
    (HS : ∀ w : World, Calls Tryz.prog 24 #[.string t] w fun e w' => e = .returned (.tuple #[.agg #[.string k, .bool f], .bool false]) ∧ Below w.heap.size w w') (w : World) (hg : Glob w) : Calls Tryz.prog 6 #[.string s] w fun e w' => e = .returned (.bool true) ∧ Below w.heap.size w w' := by
  have HK := fun (w : World) (hg : Glob w) => wakes_yes hg
  go_enter Tryz.func6, Tryz.ntmps6
  go_wp2_with fail
  refine (HK _ hg).mono ?_
  rintro e w1 ⟨rfl, hb1⟩
  clear HK hg
  go_wp2_with fail
  try simp only [ht]
  clear ht
  go_wp2_with (first | (go_at_call 20; refine (HL _).mono ?_; rintro e wl ⟨rfl, rfl⟩) | (go_at_call 11; refine (HN _).mono ?_; rintro e wl ⟨rfl, rfl⟩))
  refine (HU _).mono ?_
  rintro e w2 ⟨rfl, hb2⟩
  have B2 := hb1.trans (hb2.mono hb1.size)
  clear hb1 hb2 HU HL HN hz
  have S := Blk2.new w2 (.string a) (.string b) 48
  have B3 := B2.alloc B2.size (.cells #[.string a, .string b] 48)
  go_wp2_with fail
  generalize w2.alloc (.cells #[.string a, .string b] 48) = w3 at *
  refine (HV _).mono ?_
  rintro e w4 ⟨rfl, hb4⟩
  have S4 := S.below hb4
  have B4 := B3.trans (hb4.mono B3.size)
  have B5 := B4.alloc B4.size (.cells #[.string a, .string b] 48)
  clear S B2 B3 B4 hb4 HV
  obtain ⟨sl, s0, s1, sf⟩ := S4
  have ne : w2.heap.size ≠ w4.heap.size := Nat.ne_of_lt sl
  go_wp2_with fail
  clear sl s0 s1 sf
  generalize w4.alloc (.cells #[.string a, .string b] 48) = w5 at *
  refine (HR _).mono ?_
  rintro e w6 ⟨rfl, hb6⟩
  have B6 := B5.trans (hb6.mono B5.size)
  clear hb6 B5 HR
  have S := Blk2.new w6 (.string ⟨#[]⟩) (.bool false) 54
  have B7 := B6.alloc B6.size (.cells #[.string ⟨#[]⟩, .bool false] 54)
  go_wp2_with fail
  generalize w6.alloc (.cells #[.string ⟨#[]⟩, .bool false] 54) = w7 at *
  refine (HS _).mono ?_
  rintro e w8 ⟨rfl, hb8⟩
  have S8 := S.below hb8
  have B8 := B7.trans (hb8.mono B7.size)
  have B9 := B8.alloc B8.size (.cells #[.string k, .bool f] 54)
  clear S B6 B7 B8 hb8 HS
  obtain ⟨sl, s0, s1, sf⟩ := S8
  have ne2 : w6.heap.size ≠ w8.heap.size := Nat.ne_of_lt sl
  go_wp2_with fail
  refine bodyPost_ret (v := .bool true) ?_ rfl ⟨rfl, B9⟩
  simp [results, Tryz.results6, go_sem]
set_option maxHeartbeats 4000000 in
set_option maxRecDepth 100000 in
theorem law_nny (s t a b k : ByteArray) (f : Bool) (ht : s.extract 0 (min (s.size : Int) 200).toNat = t) (hz : t.toList.isEmpty = false)
    (HL : ∀ w : World, Calls Tryz.prog 20 #[.string t] w fun e w' => e = .returned (.tuple #[.string ⟨#[]⟩, .int .i64 2]) ∧ w' = w)
    (HN : ∀ w : World, Calls Tryz.prog 11 #[.string t] w fun e w' => e = .returned (.bool false) ∧ w' = w)
    (HU : ∀ w : World, Calls Tryz.prog 21 #[.string t] w fun e w' => e = .returned (.tuple #[.agg #[.string ⟨#[]⟩, .string ⟨#[]⟩], .int .i64 2]) ∧ Below w.heap.size w w')
    (HV : ∀ w : World, Calls Tryz.prog 22 #[.string t] w fun e w' => e = .returned (.tuple #[.agg #[.string a, .string b], .bool false]) ∧ Below w.heap.size w w')
    (HR : ∀ w : World, Calls Tryz.prog 23 #[.string t] w fun e w' => e = .returned (.tuple #[.agg #[.string k, .bool f], .int .i64 0]) ∧ Below w.heap.size w w')
    (HS : ∀ w : World, Calls Tryz.prog 24 #[.string t] w fun e w' => e = .returned (.tuple #[.agg #[.string k, .bool f], .bool true]) ∧ Below w.heap.size w w') (w : World) (hg : Glob w) : Calls Tryz.prog 6 #[.string s] w fun e w' => e = .returned (.bool true) ∧ Below w.heap.size w w' := by
  have HK := fun (w : World) (hg : Glob w) => wakes_yes hg
  go_enter Tryz.func6, Tryz.ntmps6
  go_wp2_with fail
  refine (HK _ hg).mono ?_
  rintro e w1 ⟨rfl, hb1⟩
  clear HK hg
  go_wp2_with fail
  try simp only [ht]
  clear ht
  go_wp2_with (first | (go_at_call 20; refine (HL _).mono ?_; rintro e wl ⟨rfl, rfl⟩) | (go_at_call 11; refine (HN _).mono ?_; rintro e wl ⟨rfl, rfl⟩))
  refine (HU _).mono ?_
  rintro e w2 ⟨rfl, hb2⟩
  have B2 := hb1.trans (hb2.mono hb1.size)
  clear hb1 hb2 HU HL HN hz
  have S := Blk2.new w2 (.string ⟨#[]⟩) (.string ⟨#[]⟩) 48
  have B3 := B2.alloc B2.size (.cells #[.string ⟨#[]⟩, .string ⟨#[]⟩] 48)
  go_wp2_with fail
  generalize w2.alloc (.cells #[.string ⟨#[]⟩, .string ⟨#[]⟩] 48) = w3 at *
  refine (HV _).mono ?_
  rintro e w4 ⟨rfl, hb4⟩
  have S4 := S.below hb4
  have B4 := B3.trans (hb4.mono B3.size)
  have B5 := B4.alloc B4.size (.cells #[.string a, .string b] 48)
  clear S B2 B3 B4 hb4 HV
  obtain ⟨sl, s0, s1, sf⟩ := S4
  have ne : w2.heap.size ≠ w4.heap.size := Nat.ne_of_lt sl
  go_wp2_with fail
  clear sl s0 s1 sf
  generalize w4.alloc (.cells #[.string a, .string b] 48) = w5 at *
  refine (HR _).mono ?_
  rintro e w6 ⟨rfl, hb6⟩
  have B6 := B5.trans (hb6.mono B5.size)
  clear hb6 B5 HR
  have S := Blk2.new w6 (.string k) (.bool f) 54
  have B7 := B6.alloc B6.size (.cells #[.string k, .bool f] 54)
  go_wp2_with fail
  generalize w6.alloc (.cells #[.string k, .bool f] 54) = w7 at *
  refine (HS _).mono ?_
  rintro e w8 ⟨rfl, hb8⟩
  have S8 := S.below hb8
  have B8 := B7.trans (hb8.mono B7.size)
  have B9 := B8.alloc B8.size (.cells #[.string k, .bool f] 54)
  clear S B6 B7 B8 hb8 HS
  obtain ⟨sl, s0, s1, sf⟩ := S8
  have ne2 : w6.heap.size ≠ w8.heap.size := Nat.ne_of_lt sl
  go_wp2_with fail
  refine bodyPost_ret (v := .bool true) ?_ rfl ⟨rfl, B9⟩
  simp [results, Tryz.results6, go_sem]
set_option maxHeartbeats 4000000 in
set_option maxRecDepth 100000 in
theorem law_nnn (s t a b k : ByteArray) (f : Bool) (ht : s.extract 0 (min (s.size : Int) 200).toNat = t) (hz : t.toList.isEmpty = false)
    (HL : ∀ w : World, Calls Tryz.prog 20 #[.string t] w fun e w' => e = .returned (.tuple #[.string ⟨#[]⟩, .int .i64 2]) ∧ w' = w)
    (HN : ∀ w : World, Calls Tryz.prog 11 #[.string t] w fun e w' => e = .returned (.bool false) ∧ w' = w)
    (HU : ∀ w : World, Calls Tryz.prog 21 #[.string t] w fun e w' => e = .returned (.tuple #[.agg #[.string ⟨#[]⟩, .string ⟨#[]⟩], .int .i64 2]) ∧ Below w.heap.size w w')
    (HV : ∀ w : World, Calls Tryz.prog 22 #[.string t] w fun e w' => e = .returned (.tuple #[.agg #[.string a, .string b], .bool false]) ∧ Below w.heap.size w w')
    (HR : ∀ w : World, Calls Tryz.prog 23 #[.string t] w fun e w' => e = .returned (.tuple #[.agg #[.string ⟨#[]⟩, .bool false], .int .i64 2]) ∧ Below w.heap.size w w')
    (HS : ∀ w : World, Calls Tryz.prog 24 #[.string t] w fun e w' => e = .returned (.tuple #[.agg #[.string k, .bool f], .bool false]) ∧ Below w.heap.size w w') (w : World) (hg : Glob w) : Calls Tryz.prog 6 #[.string s] w fun e w' => e = .returned (.bool true) ∧ Below w.heap.size w w' := by
  have HK := fun (w : World) (hg : Glob w) => wakes_yes hg
  go_enter Tryz.func6, Tryz.ntmps6
  go_wp2_with fail
  refine (HK _ hg).mono ?_
  rintro e w1 ⟨rfl, hb1⟩
  clear HK hg
  go_wp2_with fail
  try simp only [ht]
  clear ht
  go_wp2_with (first | (go_at_call 20; refine (HL _).mono ?_; rintro e wl ⟨rfl, rfl⟩) | (go_at_call 11; refine (HN _).mono ?_; rintro e wl ⟨rfl, rfl⟩))
  refine (HU _).mono ?_
  rintro e w2 ⟨rfl, hb2⟩
  have B2 := hb1.trans (hb2.mono hb1.size)
  clear hb1 hb2 HU HL HN hz
  have S := Blk2.new w2 (.string ⟨#[]⟩) (.string ⟨#[]⟩) 48
  have B3 := B2.alloc B2.size (.cells #[.string ⟨#[]⟩, .string ⟨#[]⟩] 48)
  go_wp2_with fail
  generalize w2.alloc (.cells #[.string ⟨#[]⟩, .string ⟨#[]⟩] 48) = w3 at *
  refine (HV _).mono ?_
  rintro e w4 ⟨rfl, hb4⟩
  have S4 := S.below hb4
  have B4 := B3.trans (hb4.mono B3.size)
  have B5 := B4.alloc B4.size (.cells #[.string a, .string b] 48)
  clear S B2 B3 B4 hb4 HV
  obtain ⟨sl, s0, s1, sf⟩ := S4
  have ne : w2.heap.size ≠ w4.heap.size := Nat.ne_of_lt sl
  go_wp2_with fail
  clear sl s0 s1 sf
  generalize w4.alloc (.cells #[.string a, .string b] 48) = w5 at *
  refine (HR _).mono ?_
  rintro e w6 ⟨rfl, hb6⟩
  have B6 := B5.trans (hb6.mono B5.size)
  clear hb6 B5 HR
  have S := Blk2.new w6 (.string ⟨#[]⟩) (.bool false) 54
  have B7 := B6.alloc B6.size (.cells #[.string ⟨#[]⟩, .bool false] 54)
  go_wp2_with fail
  generalize w6.alloc (.cells #[.string ⟨#[]⟩, .bool false] 54) = w7 at *
  refine (HS _).mono ?_
  rintro e w8 ⟨rfl, hb8⟩
  have S8 := S.below hb8
  have B8 := B7.trans (hb8.mono B7.size)
  have B9 := B8.alloc B8.size (.cells #[.string k, .bool f] 54)
  clear S B6 B7 B8 hb8 HS
  obtain ⟨sl, s0, s1, sf⟩ := S8
  have ne2 : w6.heap.size ≠ w8.heap.size := Nat.ne_of_lt sl
  go_wp2_with fail
  refine bodyPost_ret (v := .bool true) ?_ rfl ⟨rfl, B9⟩
  simp [results, Tryz.results6, go_sem]
theorem unit_any (t : ByteArray) (hs : t.size ≤ 281474976710656) : ∃ a b : ByteArray, ((∀ w : World, Calls Tryz.prog 21 #[.string t] w fun e w' => e = .returned (.tuple #[.agg #[.string a, .string b], .int .i64 0]) ∧ Below w.heap.size w w') ∧ (∀ w : World, Calls Tryz.prog 22 #[.string t] w fun e w' => e = .returned (.tuple #[.agg #[.string a, .string b], .bool true]) ∧ Below w.heap.size w w')) ∨ ((∀ w : World, Calls Tryz.prog 21 #[.string t] w fun e w' => e = .returned (.tuple #[.agg #[.string ⟨#[]⟩, .string ⟨#[]⟩], .int .i64 2]) ∧ Below w.heap.size w w') ∧ (∀ w : World, Calls Tryz.prog 22 #[.string t] w fun e w' => e = .returned (.tuple #[.agg #[.string a, .string b], .bool false]) ∧ Below w.heap.size w w')) := by
  have HC := cut_any t hs
  have hA := Nat.le_trans (cutA_size t) hs
  cases hf : cutF t with
  | true =>
    rw [hf] at HC
    have H1 := rightUnit_any (cutB t) (cutA t) hA
    have H2 := refRight_any (cutB t) (cutA t) hA
    refine ⟨cutB t, cutA t, ?_⟩
    cases hq : rightB (cutB t) (cutA t) with
    | true => rw [hq] at H1 H2; exact .inl ⟨unit_tt t _ _ HC H1, refUnit_tt t _ _ HC H2⟩
    | false => rw [hq] at H1 H2; exact .inr ⟨unit_tf t _ _ HC H1, refUnit_tf t _ _ HC H2⟩
  | false =>
    rw [hf] at HC
    have H1 := rightUnit_any ⟨#[108, 111, 110, 103]⟩ t hs
    have H2 := refRight_any ⟨#[108, 111, 110, 103]⟩ t hs
    refine ⟨⟨#[108, 111, 110, 103]⟩, t, ?_⟩
    cases hq : rightB ⟨#[108, 111, 110, 103]⟩ t with
    | true => rw [hq] at H1 H2; exact .inl ⟨unit_ft t _ _ HC H1, refUnit_ft t _ _ HC H2⟩
    | false => rw [hq] at H1 H2; exact .inr ⟨unit_ff t _ _ HC H1, refUnit_ff t _ _ HC H2⟩
theorem rel_any (t : ByteArray) (hs : t.size ≤ 281474976710656) : ∃ (k : ByteArray) (f : Bool), ((∀ w : World, Calls Tryz.prog 23 #[.string t] w fun e w' => e = .returned (.tuple #[.agg #[.string k, .bool f], .int .i64 0]) ∧ Below w.heap.size w w') ∧ (∀ w : World, Calls Tryz.prog 24 #[.string t] w fun e w' => e = .returned (.tuple #[.agg #[.string k, .bool f], .bool true]) ∧ Below w.heap.size w w')) ∨ ((∀ w : World, Calls Tryz.prog 23 #[.string t] w fun e w' => e = .returned (.tuple #[.agg #[.string ⟨#[]⟩, .bool false], .int .i64 2]) ∧ Below w.heap.size w w') ∧ (∀ w : World, Calls Tryz.prog 24 #[.string t] w fun e w' => e = .returned (.tuple #[.agg #[.string k, .bool f], .bool false]) ∧ Below w.heap.size w w')) := by
  have HC := cut_any t hs
  have hB := Nat.le_trans (cutB_size t) hs
  cases hf : cutF t with
  | true =>
    rw [hf] at HC
    have H1 := isName_any (cutB t) hB
    have H2 := refIsName_any (cutB t) hB
    cases ha : ((cutA t).toList == [97, 108, 119, 97, 121, 115]) with
    | true =>
      refine ⟨cutB t, true, ?_⟩
      cases hq : isNameB (cutB t) with
      | true => rw [hq] at H1 H2; exact .inl ⟨rel_two t _ _ HC H1 ha, refRel_tt t _ _ HC H2 ha⟩
      | false => rw [hq] at H1 H2; exact .inr ⟨rel_badT t _ _ HC H1, refRel_tf t _ _ HC H2 ha⟩
    | false =>
      refine ⟨⟨#[]⟩, false, .inr ⟨?_, refRel_no t _ _ HC ha⟩⟩
      cases hq : isNameB (cutB t) with
      | true => rw [hq] at H1; exact rel_three t _ _ HC H1 ha
      | false => rw [hq] at H1; exact rel_badT t _ _ HC H1
  | false =>
    have hb : cutB t = t := by unfold cutB; rw [hf]; rfl
    rw [hf, hb] at HC
    have H1 := isName_any t hs
    have H2 := refIsName_any t hs
    refine ⟨t, false, ?_⟩
    cases hq : isNameB t with
    | true => rw [hq] at H1 H2; exact .inl ⟨rel_one t _ _ HC H1, refRel_ft t _ _ HC H2⟩
    | false => rw [hq] at H1 H2; exact .inr ⟨rel_bad t _ _ HC H1, refRel_ff t _ _ HC H2⟩
theorem law_yes (s : ByteArray) (hs : s.size ≤ 281474976710656) (w : World) (hg : Glob w) : Calls Tryz.prog 6 #[.string s] w fun e w' => e = .returned (.bool true) ∧ Below w.heap.size w w' := by
  obtain ⟨t, ht⟩ : ∃ t, s.extract 0 (min (s.size : Int) 200).toNat = t := ⟨_, rfl⟩
  have hts : t.size ≤ 281474976710656 := by
    subst ht
    have : (s.extract 0 (min (s.size : Int) 200).toNat).size ≤ s.size := by simp; omega
    omega
  have H1 := isName_any t hts
  have H2 := refIsName_any t hts
  obtain ⟨a, b, hu⟩ := unit_any t hts
  obtain ⟨k, f, hr⟩ := rel_any t hts
  cases he : t.toList.isEmpty with
  | true =>
    have HL := list_empty t he
    rcases hu with ⟨u1, u2⟩ | ⟨u1, u2⟩
    · rcases hr with ⟨r1, r2⟩ | ⟨r1, r2⟩
      · exact law_eyy s t a b k f ht he HL u1 u2 r1 r2 w hg
      · exact law_eyn s t a b k f ht he HL u1 u2 r1 r2 w hg
    · rcases hr with ⟨r1, r2⟩ | ⟨r1, r2⟩
      · exact law_eny s t a b k f ht he HL u1 u2 r1 r2 w hg
      · exact law_enn s t a b k f ht he HL u1 u2 r1 r2 w hg
  | false =>
    cases hq : isNameB t with
    | true =>
      rw [hq] at H1 H2
      have HL := list_yes t he H1
      rcases hu with ⟨u1, u2⟩ | ⟨u1, u2⟩
      · rcases hr with ⟨r1, r2⟩ | ⟨r1, r2⟩
        · exact law_yyy s t a b k f ht he HL H2 u1 u2 r1 r2 w hg
        · exact law_yyn s t a b k f ht he HL H2 u1 u2 r1 r2 w hg
      · rcases hr with ⟨r1, r2⟩ | ⟨r1, r2⟩
        · exact law_yny s t a b k f ht he HL H2 u1 u2 r1 r2 w hg
        · exact law_ynn s t a b k f ht he HL H2 u1 u2 r1 r2 w hg
    | false =>
      rw [hq] at H1 H2
      have HL := list_no t he H1
      rcases hu with ⟨u1, u2⟩ | ⟨u1, u2⟩
      · rcases hr with ⟨r1, r2⟩ | ⟨r1, r2⟩
        · exact law_nyy s t a b k f ht he HL H2 u1 u2 r1 r2 w hg
        · exact law_nyn s t a b k f ht he HL H2 u1 u2 r1 r2 w hg
      · rcases hr with ⟨r1, r2⟩ | ⟨r1, r2⟩
        · exact law_nny s t a b k f ht he HL H2 u1 u2 r1 r2 w hg
        · exact law_nnn s t a b k f ht he HL H2 u1 u2 r1 r2 w hg
end Go.Proofs.YtpcgcghhddnifaaGreatDoor
