/-
  The walk of PlaneMirrors. Conditions: what the listed variables hold.
-/
import Derived.Test.YtpfldlbdmhhjdaaGreatDoorDo
import Derived.Test.YtpfldlbdmhhjdaaGreatDoorUa
import Derived.Test.YtpfldlbdmhhjdaaGreatDoorVj
import Derived.Laws.Externs
import Derived.Laws.ComplexArith
import Derived.Lib.ItoaNum
set_option linter.unusedVariables false
namespace Go.Proofs.YtpfldlbdmhhjdaaGreatDoor
open Go.RowKit Go.Fl Go.Sort
theorem run_frombits (n : Int) (w : World) : (callFunc 14 #[.int .u64 n]).run Tryz.prog w = .ok (.value (.float .f64 n.toNat)) w := by
  rw [run_callFunc_extern Tryz.func14 (by kernel_rfl) (by kernel_rfl) (by kernel_rfl) (e := Extern.MathFloatBits.float64frombits) (by rfl)]
  rfl
theorem number_any (x y : Int) (w : World) : Calls Tryz.prog 7 #[.agg #[.int .u64 x, .int .u64 y]] w fun e w' => e = .returned (.complex .f64 x.toNat y.toNat) ∧ Below w.heap.size w w' := by
  have h1 := run_frombits x
  have h2 := run_frombits y
  go_enter Tryz.func7, Tryz.ntmps7
  go_wp2_with fail
  go_quiet (fail)
  go_wp2_with fail
  refine bodyPost_ret (v := .complex .f64 x.toNat y.toNat) ?_ rfl ⟨rfl, blw_drewN ((Below.refl _ _).alloc (Nat.le_refl _) _) _⟩
  simp [results, Tryz.results7, go_sem]
theorem run_neg (b : Nat) (w : World) : Sem.run Tryz.prog (Op.unary .neg (.float .f64 b)) w = .ok (.float .f64 (flip b)) w := rfl
theorem Turned_any (a b : Nat) (w : World) : Calls Tryz.prog 10 #[.complex .f64 a b] w fun e w' => e = .returned (.complex .f64 (flip b) a) ∧ w' = w := by
  have hn := run_neg b
  go_enter Tryz.func10, Tryz.ntmps10
  go_wp2_with fail
  refine bodyPost_ret (v := .complex .f64 (flip b) a) ?_ rfl ⟨rfl, rfl⟩
  simp [results, Tryz.results10, go_sem]
theorem Mirrored_any (a b : Nat) (w : World) : Calls Tryz.prog 9 #[.complex .f64 a b] w fun e w' => e = .returned (.complex .f64 a (flip b)) ∧ w' = w := by
  have hn := run_neg b
  go_enter Tryz.func9, Tryz.ntmps9
  go_wp2_with fail
  refine bodyPost_ret (v := .complex .f64 a (flip b)) ?_ rfl ⟨rfl, rfl⟩
  simp [results, Tryz.results9, go_sem]
/-! ### plain -/
theorem flip_lt {a : Nat} (h : a < 18446744073709551616) : flip a < 18446744073709551616 := Nat.xor_lt_two_pow (n := 64) h (by decide)
theorem flip_sign {a : Nat} (h : a < 18446744073709551616) : decide (flip a / 9223372036854775808 = 1) = !decide (a / 9223372036854775808 = 1) := by
  have e : flip a / 2 ^ 63 = a / 2 ^ 63 ^^^ 2 ^ 63 / 2 ^ 63 := Nat.xor_div_two_pow
  have e1 : (2 : Nat) ^ 63 / 2 ^ 63 = 1 := by decide
  rw [e1] at e
  have h2 : a / 2 ^ 63 = 0 ∨ a / 2 ^ 63 = 1 := by omega
  have e3 : flip a / 9223372036854775808 = a / 9223372036854775808 ^^^ 1 := e
  have h3 : a / 9223372036854775808 = 0 ∨ a / 9223372036854775808 = 1 := h2
  rw [e3]
  rcases h3 with q | q <;> rw [q] <;> decide
theorem flip_finW (a : Nat) : finW (flip a) = finW a := by
  have e := flip_mod a
  unfold finW
  rw [show flip a / 4503599627370496 % 2048 = a / 4503599627370496 % 2048 by omega]
theorem flip_mant (a : Nat) : mant (flip a) = mant a := by
  have e := flip_mod a
  unfold mant
  rw [show flip a / 4503599627370496 % 2048 = a / 4503599627370496 % 2048 by omega, show flip a % 4503599627370496 = a % 4503599627370496 by omega]
theorem flip_expo (a : Nat) : expo (flip a) = expo a := by
  have e := flip_mod a
  unfold expo
  rw [show flip a / 4503599627370496 % 2048 = a / 4503599627370496 % 2048 by omega]
theorem flip_num (a sc : Nat) : numF (flip a) sc = numF a sc := by
  unfold numF
  rw [flip_mant, flip_expo]
theorem err_swap (a b : Nat) (x : Int) : errP b a x = errP a b x := by
  unfold errP
  rw [Bool.and_comm]
theorem err_flip (a b : Nat) (x : Int) : errP a (flip b) x = errP a b x := by
  unfold errP
  rw [flip_finW]
theorem part_flip (a b : Nat) (x : Int) : partV a (flip b) x = partV a b x := by
  unfold partV
  rw [err_flip]
theorem part_bad {a b : Nat} {x : Int} (h : errP a b x ≠ 0) : partV a b x = zeroD := if_neg h
theorem part_good {a b : Nat} {x : Int} (h : errP a b x = 0) : partV a b x = decV (decide (a / 9223372036854775808 = 1)) (numF a x.toNat) x.toNat := if_pos h
theorem err_good {a b : Nat} {x : Int} (h : errP a b x = 0) : ¬ (x < 0 ∨ 40 < x) ∧ finW a = true ∧ finW b = true := by
  unfold errP at h
  split at h
  · cases h
  · rename_i hx
    split at h
    · rename_i hf
      simp only [Bool.and_eq_true] at hf
      exact ⟨hx, hf.1, hf.2⟩
    · cases h
theorem part_neg {a b : Nat} {x : Int} (ha : a < 18446744073709551616) (h : errP a b x = 0) : partV (flip a) b x = decV (!decide (a / 9223372036854775808 = 1)) (numF a x.toNat) x.toNat := by
  rw [part_good (by rw [err_swap, err_flip, err_swap]; exact h), flip_sign ha, flip_num]
open Go.Vx in
/-- What the listed variables give. -/
structure Glob (w : World) : Prop where
  pow : Lib.TabIs Tryz.prog w "internal/strconv.uint64pow10" .u64 Lib.pow10Tab
  g0 : ∃ te pe, w.cell? ⟨8, 0, none⟩ = some (.iface te pe)
open Go.Vx in
theorem laid_cell {R : Vx.Ren} {w : World} {g e : Nat} {v : Value} {a : AV} (h : w.cell? ⟨g, 0, none⟩ = some v) (ha : conc R a = v) : ∃ x, w.heap[g]? = some x ∧ ORel R (.row [a] e .ro) x := by
  unfold World.cell? at h
  split at h
  · rename_i c t fz hc
    refine ⟨_, hc, ?_⟩
    simp only [ORel]
    refine ⟨trivial, fun i u hu => ?_⟩
    cases i with
    | zero =>
      simp only [List.getElem?_cons_zero, Option.some.injEq] at hu
      subst hu
      rw [ha]
      simpa using h
    | succ i => simp at hu
  · cases h
open Go.Vx in
theorem laid_of_glob {w : World} (h : Glob w) : ∃ (l : List Value) (hl : ∀ v ∈ l, isCell v), Laid (renOf l hl) tabs w := by
  obtain ⟨hp, ⟨te, pe, e1⟩⟩ := h
  refine ⟨[.iface te pe], fun v hv => by simp at hv; subst hv; trivial, ?_⟩
  have h2 := laid_cell (R := renOf [.iface te pe] (fun v hv => by simp at hv; subst hv; trivial)) (a := .opq 0) (e := 0) e1 rfl
  refine allC ?_ (allC h2 allN)
  exact laid_tab (t := ⟨1, _, 0⟩) (heap_of_var gPow hp) (by kernel_rfl)
open Go.Vx in
theorem wakes_yes {w : World} (h : Glob w) : Calls Tryz.prog 5 #[] w fun e w' => e = .returned (.bool true) ∧ Below w.heap.size w w' := by
  obtain ⟨l, hl, hL⟩ := laid_of_glob h
  exact wakes_told (renOf l hl) w hL (fun _ _ => rfl)
theorem Glob.below {w w1 : World} (h : Glob w) (hb : Below w.heap.size w w1) : Glob w1 := by
  obtain ⟨hp, ⟨t1, p1, e1⟩⟩ := h
  exact ⟨Go.Joins.tab_stays gPow hp hb (Nat.le_refl _), ⟨t1, p1, (hb.cell (p := ⟨8, 0, none⟩) (World.block_lt_of_cell? _ _ e1)).trans e1⟩⟩
set_option maxRecDepth 100000 in
set_option maxHeartbeats 4000000 in
theorem mirrors_bad (x y d : Int) (ha : x.toNat < 18446744073709551616) (hb : y.toNat < 18446744073709551616) (he : errP x.toNat y.toNat d ≠ 0) (w : World) (hg : Glob w) : Calls Tryz.prog 4 #[.agg #[.int .u64 x, .int .u64 y], .int .i64 d] w fun e w' => e = .returned (.bool true) ∧ Below w.heap.size w w' := by
  have HK := fun (w : World) (hg : Glob w) => wakes_yes hg
  have H5 := number_any x y
  generalize x.toNat = a at *
  generalize y.toNat = b at *
  have B0 : Below w.heap.size w (w.alloc (.cells #[.int .u64 x, .int .u64 y] 24)) := (Below.refl _ _).alloc (Nat.le_refl _) _
  have P1 := fun (W : World) (h : Glob W) => Parts_any a b ha hb d W h.pow
  have P2 := fun (W : World) (h : Glob W) => Parts_any a (flip b) ha (flip_lt hb) d W h.pow
  have P3 := fun (W : World) (h : Glob W) => Parts_any (flip b) a (flip_lt hb) ha d W h.pow
  have e1 : errP a (flip b) d ≠ 0 := by rw [err_flip]; exact he
  have e2 : errP b a d ≠ 0 := by rw [err_swap]; exact he
  have e3 : errP (flip b) a d ≠ 0 := by rw [err_swap]; exact e1
  rw [part_bad he, part_bad e2] at P1
  rw [part_bad e1, part_bad e3, err_flip] at P2
  rw [part_bad e1, part_bad e3, err_swap, err_flip] at P3
  have M1 := Mirrored_any a b
  have T1 := Turned_any a b
  generalize flip b = fb at *
  have hE : (errP a b d : Int) ≠ 0 := by omega
  have hE2 : ((errP a b d : Int) != 0) = true := by simpa using hE
  generalize (errP a b d : Int) = E at *
  unfold zeroD at P1 P2 P3
  clear he e1 e2 e3 ha hb
  go_enter Tryz.func4, Tryz.ntmps4
  go_wp2_with fail
  refine (HK _ (hg.below B0)).mono ?_
  rintro e w1 ⟨rfl, hb⟩
  have c0 : w1.cell? ⟨w.heap.size, 0, none⟩ = some (.int .u64 x) := (hb.cell (p := ⟨w.heap.size, 0, none⟩) (by simp)).trans (by simp)
  have c1 : w1.cell? ⟨w.heap.size, 1, none⟩ = some (.int .u64 y) := (hb.cell (p := ⟨w.heap.size, 1, none⟩) (by simp)).trans (by simp)
  have B1 := B0.trans (hb.mono B0.size)
  clear B0 hb HK
  go_wp2_with fail
  refine (H5 _).mono ?_
  rintro e w2 ⟨rfl, hb⟩
  have B2 := B1.trans (hb.mono B1.size)
  clear B1 hb c0 c1 H5
  go_wp2_with fail
  refine (P1 _ (hg.below B2)).mono ?_
  rintro e w3 ⟨rfl, hb⟩
  have B3 := B2.trans (hb.mono B2.size)
  clear B2 hb P1
  go_wp2_with fail
  refine (M1 _).mono ?_
  rintro e w4 ⟨rfl, rfl⟩
  go_wp2_with fail
  have B4 := (B3.alloc B3.size (.cells #[.bool false, .string ⟨#[]⟩, .int .i64 0] 27)).alloc (by have := B3.size; simp; omega) (.cells #[.bool false, .string ⟨#[]⟩, .int .i64 0] 27)
  refine (P2 _ (hg.below B4)).mono ?_
  rintro e w5 ⟨rfl, hb⟩
  have B5 := B4.trans (hb.mono B4.size)
  clear B3 B4 hb P2
  go_wp2_with fail
  refine (T1 _).mono ?_
  rintro e w6 ⟨rfl, rfl⟩
  go_wp2_with fail
  have B6 := (B5.alloc B5.size (.cells #[.bool false, .string ⟨#[]⟩, .int .i64 0] 27)).alloc (by have := B5.size; simp; omega) (.cells #[.bool false, .string ⟨#[]⟩, .int .i64 0] 27)
  refine (P3 _ (hg.below B6)).mono ?_
  rintro e w7 ⟨rfl, hb⟩
  have B7 := B6.trans (hb.mono B6.size)
  clear B5 B6 hb P3
  go_wp2_with fail
  refine bodyPost_ret (v := .bool true) ?_ rfl ⟨rfl, ?_⟩
  · simp [results, Tryz.results4, go_sem]
  · exact (B7.alloc B7.size _).alloc (by have := B7.size; simp; omega) _
/-- a decimal in a block of its own -/
def Box (W : World) (n : Nat) (r : Bool) (s : ByteArray) (k : Int) : Prop := W.cell? ⟨n, 0, none⟩ = some (.bool r) ∧ W.cell? ⟨n, 1, none⟩ = some (.string s) ∧ W.cell? ⟨n, 2, none⟩ = some (.int .i64 k) ∧ n < W.heap.size
theorem Box.made (W : World) (r : Bool) (s : ByteArray) (k : Int) (t : TypeId) : Box (W.alloc (.cells #[.bool r, .string s, .int .i64 k] t)) W.heap.size r s k := by
  refine ⟨?_, ?_, ?_, ?_⟩ <;> simp
theorem Box.below {W V : World} {n : Nat} {r : Bool} {s : ByteArray} {k : Int} (h : Box W n r s k) (hb : Below W.heap.size W V) : Box V n r s k :=
  ⟨(hb.cell (p := ⟨n, 0, none⟩) h.2.2.2).trans h.1, (hb.cell (p := ⟨n, 1, none⟩) h.2.2.2).trans h.2.1, (hb.cell (p := ⟨n, 2, none⟩) h.2.2.2).trans h.2.2.1, Nat.lt_of_lt_of_le h.2.2.2 hb.size⟩
theorem Box.alloc {W : World} {n : Nat} {r : Bool} {s : ByteArray} {k : Int} (h : Box W n r s k) (o : Obj) : Box (W.alloc o) n r s k := h.below ((Below.refl _ _).alloc (Nat.le_refl _) o)
theorem run_eq_dec (r : Bool) (s : ByteArray) (k : Int) (W : World) : Sem.run Tryz.prog (binOp .eql 27 (.agg #[.bool r, .string s, .int .i64 k]) (.agg #[.bool r, .string s, .int .i64 k])) W = .ok (.bool true) W := by
  simp [go_sem]
set_option maxRecDepth 100000 in
set_option maxHeartbeats 4000000 in
theorem mirrors_good (x y d : Int) (ha : x.toNat < 18446744073709551616) (hb : y.toNat < 18446744073709551616) (he : errP x.toNat y.toNat d = 0) (w : World) (hg : Glob w) : Calls Tryz.prog 4 #[.agg #[.int .u64 x, .int .u64 y], .int .i64 d] w fun e w' => e = .returned (.bool true) ∧ Below w.heap.size w w' := by
  have HK := fun (w : World) (hg : Glob w) => wakes_yes hg
  have H5 := number_any x y
  generalize x.toNat = a at *
  generalize y.toNat = b at *
  have B0 : Below w.heap.size w (w.alloc (.cells #[.int .u64 x, .int .u64 y] 24)) := (Below.refl _ _).alloc (Nat.le_refl _) _
  have P1 := fun (W : World) (h : Glob W) => Parts_any a b ha hb d W h.pow
  have P2 := fun (W : World) (h : Glob W) => Parts_any a (flip b) ha (flip_lt hb) d W h.pow
  have P3 := fun (W : World) (h : Glob W) => Parts_any (flip b) a (flip_lt hb) ha d W h.pow
  have e2 : errP b a d = 0 := by rw [err_swap]; exact he
  have e4 : errP (flip b) a d = 0 := by rw [err_swap, err_flip]; exact he
  obtain ⟨hd, hfa, hfb⟩ := err_good he
  have HN := fun W : World => Neg_any (decide (b / 9223372036854775808 = 1)) (numF b d.toNat) (numF_lt hfb (by omega)) d.toNat (by omega) W
  rw [part_good he, part_good e2, he] at P1
  rw [part_flip, part_good he, part_neg hb e2, err_flip, he] at P2
  rw [part_flip, part_good he, part_neg hb e2, e4] at P3
  have M1 := Mirrored_any a b
  have T1 := Turned_any a b
  generalize flip b = fb at *
  obtain ⟨r1, hr1⟩ : ∃ r, r = (decide (a / 9223372036854775808 = 1) && decide (numF a d.toNat ≠ 0)) := ⟨_, rfl⟩
  obtain ⟨s1, hs1⟩ : ∃ s : ByteArray, s = ⟨(Lib.decDigits (numF a d.toNat)).toArray⟩ := ⟨_, rfl⟩
  have q1 : decV (decide (a / 9223372036854775808 = 1)) (numF a d.toNat) d.toNat = .agg #[.bool r1, .string s1, .int .i64 (d.toNat : Int)] := by rw [hr1, hs1]; rfl
  obtain ⟨r2, hr2⟩ : ∃ r, r = (decide (b / 9223372036854775808 = 1) && decide (numF b d.toNat ≠ 0)) := ⟨_, rfl⟩
  obtain ⟨s2, hs2⟩ : ∃ s : ByteArray, s = ⟨(Lib.decDigits (numF b d.toNat)).toArray⟩ := ⟨_, rfl⟩
  have q2 : decV (decide (b / 9223372036854775808 = 1)) (numF b d.toNat) d.toNat = .agg #[.bool r2, .string s2, .int .i64 (d.toNat : Int)] := by rw [hr2, hs2]; rfl
  obtain ⟨r3, hr3⟩ : ∃ r, r = ((!decide (b / 9223372036854775808 = 1)) && decide (numF b d.toNat ≠ 0)) := ⟨_, rfl⟩
  have q3 : decV (!decide (b / 9223372036854775808 = 1)) (numF b d.toNat) d.toNat = .agg #[.bool r3, .string s2, .int .i64 (d.toNat : Int)] := by rw [hr3, hs2]; rfl
  rw [q1, q2] at P1
  rw [q1, q3] at P2 P3
  rw [q2, q3] at HN
  clear hr1 hs1 hr2 hs2 hr3 q1 q2 q3 he e2 e4 ha hb hd hfa hfb
  have R1 := run_eq_dec r1 s1 (d.toNat : Int)
  have R2 := run_eq_dec r3 s2 (d.toNat : Int)
  generalize (d.toNat : Int) = k at *
  go_enter Tryz.func4, Tryz.ntmps4
  go_wp2_with fail
  refine (HK _ (hg.below B0)).mono ?_
  rintro e w1 ⟨rfl, hb⟩
  have c0 : w1.cell? ⟨w.heap.size, 0, none⟩ = some (.int .u64 x) := (hb.cell (p := ⟨w.heap.size, 0, none⟩) (by simp)).trans (by simp)
  have c1 : w1.cell? ⟨w.heap.size, 1, none⟩ = some (.int .u64 y) := (hb.cell (p := ⟨w.heap.size, 1, none⟩) (by simp)).trans (by simp)
  have B1 := B0.trans (hb.mono B0.size)
  clear B0 hb HK
  go_wp2_with fail
  refine (H5 _).mono ?_
  rintro e w2 ⟨rfl, hb⟩
  have B2 := B1.trans (hb.mono B1.size)
  clear B1 hb c0 c1 H5
  go_wp2_with fail
  refine (P1 _ (hg.below B2)).mono ?_
  rintro e w3 ⟨rfl, hb⟩
  have B3 := B2.trans (hb.mono B2.size)
  clear B2 hb P1
  go_wp2_with fail
  refine (M1 _).mono ?_
  rintro e w4 ⟨rfl, rfl⟩
  go_wp2_with fail
  have B4 := (B3.alloc B3.size (.cells #[.bool r1, .string s1, .int .i64 k] 27)).alloc (by have := B3.size; simp; omega) (.cells #[.bool r2, .string s2, .int .i64 k] 27)
  have X1 := (Box.made w3 r1 s1 k 27).alloc (.cells #[.bool r2, .string s2, .int .i64 k] 27)
  have X2 := Box.made (w3.alloc (.cells #[.bool r1, .string s1, .int .i64 k] 27)) r2 s2 k 27
  rw [World.size_alloc] at X2
  refine (P2 _ (hg.below B4)).mono ?_
  rintro e w5 ⟨rfl, hb⟩
  have B5 := B4.trans (hb.mono B4.size)
  have Y1 := X1.below hb
  have Y2 := X2.below hb
  clear B3 B4 hb P2 X1 X2
  go_wp2_with fail
  refine (T1 _).mono ?_
  rintro e w6 ⟨rfl, rfl⟩
  go_wp2_with fail
  have B6 := (B5.alloc B5.size (.cells #[.bool r1, .string s1, .int .i64 k] 27)).alloc (by have := B5.size; simp; omega) (.cells #[.bool r3, .string s2, .int .i64 k] 27)
  have X1 := (Y1.alloc (.cells #[.bool r1, .string s1, .int .i64 k] 27)).alloc (.cells #[.bool r3, .string s2, .int .i64 k] 27)
  have X2 := (Y2.alloc (.cells #[.bool r1, .string s1, .int .i64 k] 27)).alloc (.cells #[.bool r3, .string s2, .int .i64 k] 27)
  have X3 := (Box.made w5 r1 s1 k 27).alloc (.cells #[.bool r3, .string s2, .int .i64 k] 27)
  have X4 := Box.made (w5.alloc (.cells #[.bool r1, .string s1, .int .i64 k] 27)) r3 s2 k 27
  rw [World.size_alloc] at X4
  clear Y1 Y2
  refine (P3 _ (hg.below B6)).mono ?_
  rintro e w7 ⟨rfl, hb⟩
  have B7 := B6.trans (hb.mono B6.size)
  have Y1 := X1.below hb
  have Y2 := X2.below hb
  have Y3 := X3.below hb
  have Y4 := X4.below hb
  clear B5 B6 hb P3 X1 X2 X3 X4
  have X1 := (Y1.alloc (.cells #[.bool r3, .string s2, .int .i64 k] 27)).alloc (.cells #[.bool r1, .string s1, .int .i64 k] 27)
  have X2 := (Y2.alloc (.cells #[.bool r3, .string s2, .int .i64 k] 27)).alloc (.cells #[.bool r1, .string s1, .int .i64 k] 27)
  have X3 := (Y3.alloc (.cells #[.bool r3, .string s2, .int .i64 k] 27)).alloc (.cells #[.bool r1, .string s1, .int .i64 k] 27)
  have X4 := (Y4.alloc (.cells #[.bool r3, .string s2, .int .i64 k] 27)).alloc (.cells #[.bool r1, .string s1, .int .i64 k] 27)
  have X5 := (Box.made w7 r3 s2 k 27).alloc (.cells #[.bool r1, .string s1, .int .i64 k] 27)
  have X6 := Box.made (w7.alloc (.cells #[.bool r3, .string s2, .int .i64 k] 27)) r1 s1 k 27
  rw [World.size_alloc] at X6
  have B8 := (B7.alloc B7.size (.cells #[.bool r3, .string s2, .int .i64 k] 27)).alloc (by have := B7.size; simp; omega) (.cells #[.bool r1, .string s1, .int .i64 k] 27)
  clear Y1 Y2 Y3 Y4
  have X2c := X2
  obtain ⟨i0, i1, i2, _⟩ := X2c
  go_wp2_with fail
  refine (HN _).mono ?_
  rintro e w9 ⟨rfl, hb⟩
  have B9 := B8.trans (hb.mono B8.size)
  have Y1 := (X1.below hb).alloc (.cells #[.bool r3, .string s2, .int .i64 k] 27)
  have Y3 := (X3.below hb).alloc (.cells #[.bool r3, .string s2, .int .i64 k] 27)
  have Y4 := (X4.below hb).alloc (.cells #[.bool r3, .string s2, .int .i64 k] 27)
  have Y5 := (X5.below hb).alloc (.cells #[.bool r3, .string s2, .int .i64 k] 27)
  have Y6 := (X6.below hb).alloc (.cells #[.bool r3, .string s2, .int .i64 k] 27)
  clear X1 X2 X3 X4 X5 X6 B7 B8 hb HN M1 T1 i0 i1 i2
  obtain ⟨j0, j1, j2, _⟩ := Y1
  obtain ⟨k0, k1, k2, _⟩ := Y3
  obtain ⟨l0, l1, l2, _⟩ := Y4
  obtain ⟨m0, m1, m2, _⟩ := Y5
  obtain ⟨n0, n1, n2, _⟩ := Y6
  go_wp2_with fail
  refine bodyPost_ret (v := .bool true) ?_ rfl ⟨rfl, ?_⟩
  · simp [results, Tryz.results4, go_sem]
  · exact B9.alloc B9.size _
theorem law_yes (x y : Int) (hx : (Lit.int .u64 x).wf = true) (hy : (Lit.int .u64 y).wf = true) (d : Int) (_ : -9223372036854775808 ≤ d ∧ d ≤ 9223372036854775807) (w : World) (hg : Glob w) : Calls Tryz.prog 4 #[.agg #[.int .u64 x, .int .u64 y], .int .i64 d] w fun e w' => e = .returned (.bool true) ∧ Below w.heap.size w w' := by
  have ha : x.toNat < 18446744073709551616 := by
    have h := hx
    simp [Lit.wf] at h
    have : IntKind.u64.max = 18446744073709551615 := rfl
    omega
  have hb : y.toNat < 18446744073709551616 := by
    have h := hy
    simp [Lit.wf] at h
    have : IntKind.u64.max = 18446744073709551615 := rfl
    omega
  by_cases he : errP x.toNat y.toNat d = 0
  · exact mirrors_good x y d ha hb he w hg
  · exact mirrors_bad x y d ha hb he w hg
end Go.Proofs.YtpfldlbdmhhjdaaGreatDoor
