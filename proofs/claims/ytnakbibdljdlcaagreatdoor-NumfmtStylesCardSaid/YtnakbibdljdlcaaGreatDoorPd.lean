/-
  Contracts of numfmt.check at so many digits, of numfmt.number, and of strings.Cut at a stroke. Conditions: the text is short enough to be in memory; what the listed variables hold.
-/
import Derived.Test.YtnakbibdljdlcaaGreatDoorPc
import Derived.Deep.QuietTactic
import Derived.BigQuiet
set_option linter.unusedVariables false
namespace Go.Proofs.YtnakbibdljdlcaaGreatDoor
open Go.RowKit Go.Vx
theorem blw_drewN {B : Nat} {a w : World} (h : Below B a w) (k : Nat) : Below B a (w.drewN k) := ⟨h.os, h.tape, h.output, h.size, h.block⟩
theorem turn_empty : turnS 97 ⟨#[]⟩ = ⟨#[]⟩ := rfl
set_option maxHeartbeats 4000000 in
set_option maxRecDepth 100000 in
theorem check_fix (b n : Nat) (hn : n < 41) (w : World) (hk : Blk5 b w (.int .i64 1) (.string ⟨#[]⟩) (.string ⟨#[]⟩) (.bool true) (.int .i64 n)) (B : Nat) (hB : B ≤ b) :
    Calls Tryz.prog 11 #[.pointer (some ⟨b, 0, none⟩)] w fun e w' => e = .returned (.bool true) ∧ Blk5 b w' (.int .i64 1) (.string ⟨#[]⟩) (.string ⟨#[]⟩) (.bool true) (.int .i64 n) ∧ Below B w w' := by
  have HU := Upper_any ⟨#[]⟩ (by decide)
  rw [turn_empty] at HU
  obtain ⟨hlt, a0, a1, a2, a3, a4, hfz⟩ := id hk
  have g0 : ¬ (n : Int) < 0 := by omega
  have g1 : ¬ (40 : Int) < (n : Int) := by omega
  go_enter Tryz.func11, Tryz.ntmps11
  go_wp2_with fail
  refine (HU _).mono ?_
  rintro e w1 ⟨rfl, hb1⟩
  have hk1 := (hk.below hb1)
  obtain ⟨klt, _, d1, _, _, _, kfz⟩ := id hk1
  have hk2 := hk1.set1 (.string ⟨#[]⟩)
  have hb2 : Below B w (w1.setCell ⟨b, 1, none⟩ (.string ⟨#[]⟩)) := (hb1.mono (Nat.le_of_lt (Nat.lt_of_le_of_lt hB hlt))).setCell hB _
  have f1 := kfz 1
  clear hk1 hk hb1 a0 a1 a2 a3 a4 hfz
  go_wp2_with fail
  generalize w1.setCell ⟨b, 1, none⟩ (.string ⟨#[]⟩) = w2 at *
  obtain ⟨hlt2, e0, e1, e2, e3, e4, hfz2⟩ := id hk2
  go_wp2_with fail
  go_ret
  exact ⟨rfl, hk2, hb2⟩

/-! ### The number -/
structure Glob (w : World) : Prop where
  pow : Lib.TabIs Tryz.prog w "internal/strconv.uint64pow10" .u64 Lib.pow10Tab
  g0 : ∃ te pe, w.cell? ⟨3, 0, none⟩ = some (.iface te pe)
  g1 : ∃ te pe, w.cell? ⟨4, 0, none⟩ = some (.iface te pe)
theorem gPow : Tryz.prog.globalNamed "internal/strconv.uint64pow10" = some 5 := by kernel_rfl
theorem Glob.below {w w1 : World} (h : Glob w) (hb : Below w.heap.size w w1) : Glob w1 := by
  obtain ⟨hp, ⟨t1, p1, e1⟩, ⟨t2, p2, e2⟩⟩ := h
  exact ⟨Go.Joins.tab_stays gPow hp hb (Nat.le_refl _), ⟨t1, p1, (hb.cell (p := ⟨3, 0, none⟩) (World.block_lt_of_cell? _ _ e1)).trans e1⟩, ⟨t2, p2, (hb.cell (p := ⟨4, 0, none⟩) (World.block_lt_of_cell? _ _ e2)).trans e2⟩⟩
theorem laid_cell {R : Vx.Ren} {w : World} {g e : Nat} {v : Value} {a : AV} (h : w.cell? ⟨g, 0, none⟩ = some v) (ha : conc R a = v) : ∃ x, w.heap[g]? = some x ∧ ORel R (.row [a] e .ro) x := by
  unfold World.cell? at h
  split at h
  · rename_i c t fz hc
    refine ⟨_, hc, ?_⟩
    simp only [ORel]
    refine ⟨trivial, fun i u hu => ?_⟩
    cases i with
    | zero =>
      simp only [List.getElem?_cons_zero, Option.some.injEq] at hu
      subst hu
      rw [ha]
      simpa using h
    | succ i => simp at hu
  · cases h
theorem laid_of_glob {w : World} (h : Glob w) : ∃ (l : List Value) (hl : ∀ v ∈ l, isCell v), Laid (renOf l hl) tabs w := by
  obtain ⟨hp, ⟨te, pe, e1⟩, _⟩ := h
  refine ⟨[.iface te pe], fun v hv => by simp at hv; subst hv; trivial, ?_⟩
  exact allC (laid_cell e1 rfl) allN
theorem wakes_yes {w : World} (h : Glob w) : Calls Tryz.prog 4 #[] w fun e w' => e = .returned (.bool true) ∧ Below w.heap.size w w' := by
  obtain ⟨l, hl, hL⟩ := laid_of_glob h
  exact wakes_told (renOf l hl) w hL (fun _ _ => rfl)
theorem env_f14 : env.fn 14 = some Tryz.f14 := by kernel_rfl
set_option maxRecDepth 1000000 in
theorem digits_all : ((List.range 41).all fun n => comesTo (.str (Lib.decDigits n)) (callX 30 env 100000 11 14 [.int .i64 (.ofNat n)] { H := startH [], nx := 11 })) = true := by kernel_rfl
theorem digits_yes (n : Nat) (h : n < 41) (w : World) : Calls Tryz.prog 14 #[.int .i64 n] w fun e w' => e = .returned (.string ⟨(Lib.decDigits n).toArray⟩) ∧ Below w.heap.size w w' := by
  have h1 := List.all_eq_true.1 digits_all n (List.mem_range.2 h)
  have h2 : Tells Tryz.prog 11 [] 14 [.int .i64 (.ofNat n)] (.str (Lib.decDigits n)) := tells env_ok 29 100000 rfl (by kernel_rfl) env_f14 rfl h1 (by simp [BndL, Bnd])
  exact h2 (renOf [] (by simp)) w (fun t ht => by cases ht) (fun _ _ => rfl)

def atoiIs (l : List UInt8) (n : Nat) : Bool := match Lib.atoiAll l with | .ok v => v == (n : Int) | _ => false
theorem atoi_digits : ∀ n, n < 41 → Lib.atoiAll (Lib.decDigits n) = .ok (n : Int) := by
  have h : (List.range 41).all (fun n => atoiIs (Lib.decDigits n) n) = true := by decide +kernel
  intro n hn
  have := List.all_eq_true.1 h n (by simpa using hn)
  unfold atoiIs at this
  split at this
  · rename_i v e; rw [e]; simp at this; rw [this]
  · cases this
theorem dec_size : ∀ n, n < 41 → (Lib.decDigits n).length ≤ 2 := by
  have h : (List.range 41).all (fun n => decide ((Lib.decDigits n).length ≤ 2)) = true := by decide +kernel
  intro n hn
  have := List.all_eq_true.1 h n (by simpa using hn)
  simpa using this
theorem dec_ne : ∀ n, n < 41 → Lib.decDigits n ≠ [] := by
  have h : (List.range 41).all (fun n => decide ((Lib.decDigits n) ≠ [])) = true := by decide +kernel
  intro n hn
  have := List.all_eq_true.1 h n (by simpa using hn)
  simpa using this
theorem bytes_of {s : ByteArray} {l : List UInt8} (h : s.data.toList = l) : s = ⟨l.toArray⟩ := by
  subst h; simp
theorem atoi_ok (s : ByteArray) (hs : s.size ≤ 281474976710656) (v : Int) (h : Lib.atoiAll s.data.toList = .ok v) (w : World) :
    Calls Tryz.prog 24 #[.string s] w fun e w' => e = .returned (.tuple #[.int .i64 v, .nilIface]) ∧ Below w.heap.size w w' := by
  refine (Tryz.strconv_Atoi_ok s (by omega) v h w).mono ?_
  rintro e w' ⟨h1, h2⟩
  refine ⟨h1, ?_⟩
  rcases h2 with rfl | ⟨t, rfl⟩
  · exact Below.refl _ _
  · exact Lib.bytesWorld_below _ _ _
theorem atoi_no (s : ByteArray) (hs : s.size ≤ 281474976710656) (h : ∀ v, Lib.atoiAll s.data.toList ≠ .ok v) (w : World) (hg : Glob w) :
    Calls Tryz.prog 24 #[.string s] w fun e w' => ∃ n t N, e = .returned (.tuple #[.int .i64 n, .iface t (.pointer (some ⟨N, 0, none⟩))]) ∧ Below w.heap.size w w' := by
  obtain ⟨_, ⟨t1, p1, e1⟩, ⟨t2, p2, e2⟩⟩ := hg
  cases e : Lib.atoiAll s.data.toList with
  | ok v => exact absurd e (h v)
  | _ =>
    first
    | exact (Tryz.strconv_Atoi_range s hs e _ w e2 (Or.inr ⟨_, _, rfl⟩)).mono fun _ _ ⟨N, h1, _, _, h2⟩ => ⟨_, _, N, h1, h2⟩
    | exact (Any.strconv_Atoi_syntax Tryz.laysC172 s hs e _ w e1 (Or.inr ⟨_, _, rfl⟩)).mono fun _ _ ⟨N, h1, _, _, h2⟩ => ⟨_, _, N, h1, h2⟩
theorem itoa_small (n : Nat) (h : n < 41) (w : World) :
    Calls Tryz.prog 25 #[.int .i64 n] w fun e w' => e = .returned (.string ⟨(Lib.decDigits n).toArray⟩) ∧ w = w' :=
  (Tryz.strconv_Itoa_small n (by omega) w).mono fun _ _ ⟨h1, h2⟩ => ⟨h1, h2.symm⟩
theorem itoa_any (n : Int) (h0 : -9223372036854775808 ≤ n) (h1 : n ≤ 9223372036854775807) (w : World) (hg : Glob w) :
    Calls Tryz.prog 25 #[.int .i64 n] w fun e w' => ∃ s : ByteArray, e = .returned (.string s) ∧ Below w.heap.size w w' :=
  (Tryz.strconv_Itoa n h0 h1 w hg.pow).mono fun _ _ ⟨h1, k, os, h2⟩ => ⟨_, h1, by subst h2; exact ⟨rfl, rfl, rfl, by simp [Go.Sort.grow, World.drewN], fun j hj => by simp only [Go.Sort.grow, World.drewN]; exact Array.getElem?_append_left hj⟩⟩


set_option maxHeartbeats 4000000 in
theorem number_yes (n : Nat) (hn : n < 41) (w : World) : Calls Tryz.prog 10 #[.string ⟨(Lib.decDigits n).toArray⟩, .int .i64 0, .int .i64 40] w fun e w' => e = .returned (.tuple #[.int .i64 n, .bool true]) ∧ Below w.heap.size w w' := by
  have hne := dec_ne n hn
  have hsz : (⟨(Lib.decDigits n).toArray⟩ : ByteArray).size ≤ 281474976710656 := by
    have := dec_size n hn
    show (Lib.decDigits n).toArray.size ≤ _
    simp; omega
  have HA := atoi_ok ⟨(Lib.decDigits n).toArray⟩ hsz n (atoi_digits n hn)
  have HI := itoa_small n hn
  have g0 : (0 : Int) ≤ (n : Int) := by omega
  have g1 : (n : Int) ≤ 40 := by omega
  clear hsz hne
  go_enter Tryz.func10, Tryz.ntmps10
  go_wp2_with fail
  refine (HA _).mono ?_
  rintro e w1 ⟨rfl, hb⟩
  go_wp2_with fail
  refine (HI _).mono ?_
  rintro e w2 ⟨rfl, rfl⟩
  go_wp2_with fail
  go_ret2
  exact ⟨rfl, hb⟩
set_option maxHeartbeats 4000000 in
theorem number_no (s : ByteArray) (hs : s.size ≤ 281474976710656) (h : ∀ n, n < 41 → Lib.decDigits n ≠ s.data.toList) (w : World) (hg : Glob w) :
    Calls Tryz.prog 10 #[.string s, .int .i64 0, .int .i64 40] w fun e w' => ∃ k : Int, e = .returned (.tuple #[.int .i64 k, .bool false]) ∧ Below w.heap.size w w' := by
  by_cases hv : ∃ v, Lib.atoiAll s.data.toList = .ok v
  · obtain ⟨v, hv⟩ := hv
    have hbd := Lib.atoiAll_bounds hv
    have HA := atoi_ok s hs v hv
    clear hv hs
    by_cases hsm : 0 ≤ v ∧ v < 41
    · obtain ⟨m, rfl⟩ := Int.eq_ofNat_of_zero_le hsm.1
      have hne := h m (by omega)
      have HI := itoa_small m (by omega)
      have q : ((Lib.decDigits m) == s.toList) = false := by rw [ByteArray.toList_eq]; exact beq_eq_false_iff_ne.2 hne
      clear h hne hbd hsm
      go_enter Tryz.func10, Tryz.ntmps10
      go_wp2_with fail
      refine (HA _).mono ?_
      rintro e w1 ⟨rfl, hb⟩
      go_wp2_with fail
      refine (HI _).mono ?_
      rintro e w2 ⟨rfl, rfl⟩
      go_wp2_with fail
      go_ret2
      exact ⟨_, rfl, hb⟩
    · have HI := fun w hg => itoa_any v hbd.1 hbd.2 w hg
      have g : ¬ 0 ≤ v ∨ (0 ≤ v ∧ ¬ v ≤ (40 : Int)) := by omega
      clear h hbd hsm
      go_enter Tryz.func10, Tryz.ntmps10
      go_wp2_with fail
      refine (HA _).mono ?_
      rintro e w1 ⟨rfl, hb⟩
      have hg1 := hg.below hb
      go_wp2_with fail
      refine (HI _ hg1).mono ?_
      rintro e w2 ⟨t, rfl, hb2⟩
      have hb3 := hb.trans (hb2.mono hb.size)
      by_cases q : (t.toList == s.toList) = true
      · rcases g with g | ⟨g, g2⟩
        · go_wp2_with fail
          refine bodyPost_ret (v := .tuple #[.int .i64 v, .bool false]) ?_ rfl (by first | exact ⟨v, rfl, hb3⟩ | exact ⟨⟨v, rfl⟩, hb3⟩)
          simp [results, Tryz.results10, go_sem]
        · have g3 : ¬ (v ≤ (40 : Int)) := by omega
          go_wp2_with fail
          refine bodyPost_ret (v := .tuple #[.int .i64 v, .bool false]) ?_ rfl (by first | exact ⟨v, rfl, hb3⟩ | exact ⟨⟨v, rfl⟩, hb3⟩)
          simp [results, Tryz.results10, go_sem, g3]
      · have q : (t.toList == s.toList) = false := by simpa using q
        go_wp2_with fail
        go_ret2
        exact ⟨_, rfl, hb3⟩
  · have HA := fun (w : World) (hg : Glob w) => atoi_no s hs (fun v e => hv ⟨v, e⟩) w hg
    clear hv h
    go_enter Tryz.func10, Tryz.ntmps10
    go_wp2_with fail
    refine (HA _ hg).mono ?_
    rintro e w1 ⟨n, t, N, rfl, hb⟩
    go_wp2_with fail
    go_ret2
    exact ⟨_, rfl, hb⟩

/-! ### What stands ahead of a stroke and behind it -/
theorem cut_no (s : ByteArray) (h : Lib.indexByte s.data.toList 47 = -1) (w : World) : Calls Tryz.prog 8 #[.string s, .string ⟨#[47]⟩] w fun e w' => e = .returned (.tuple #[.string s, .string ⟨#[]⟩, .bool false]) ∧ Below w.heap.size w w' := by
  have HI := Tryz.stringslite_Index_one s 47
  rw [h] at HI
  have H22 : ∀ w : World, Calls Tryz.prog 22 #[.string s, .string ⟨#[47]⟩] w fun e w' => e = .returned (.tuple #[.string s, .string ⟨#[]⟩, .bool false]) ∧ Below w.heap.size w w' := fun w => by
    go_enter Tryz.func22, Tryz.ntmps22
    go_wp2_with fail
    refine (HI _).mono ?_
    rintro e w1 ⟨rfl, rfl⟩
    go_wp2_with fail
    refine bodyPost_ret (v := .tuple #[.string s, .string ⟨#[]⟩, .bool false]) ?_ rfl ⟨rfl, Below.refl _ _⟩
    simp [results, Tryz.results22, go_sem]
  clear HI
  go_enter Tryz.func8, Tryz.ntmps8
  go_wp2_with fail
  refine (H22 _).mono ?_
  rintro e w1 ⟨rfl, hb⟩
  go_wp2_with fail
  refine bodyPost_ret (v := .tuple #[.string s, .string ⟨#[]⟩, .bool false]) ?_ rfl ⟨rfl, hb⟩
  simp [results, Tryz.results8, go_sem]
theorem cut_yes (s : ByteArray) (i : Nat) (h : Lib.indexByte s.data.toList 47 = (i : Int)) (hi : i < s.size) (hs : s.size ≤ 281474976710656) (w : World) : Calls Tryz.prog 8 #[.string s, .string ⟨#[47]⟩] w fun e w' => e = .returned (.tuple #[.string (s.extract 0 i), .string (s.extract (i + 1) s.size), .bool true]) ∧ Below w.heap.size w w' := by
  have HI := Tryz.stringslite_Index_one s 47
  rw [h] at HI
  have g0 : (0 : Int) ≤ (i : Int) := by omega
  have r1 : wrap64 ((i : Int) + 1) = (i : Int) + 1 := by simp only [wrap64]; omega
  have H22 : ∀ w : World, Calls Tryz.prog 22 #[.string s, .string ⟨#[47]⟩] w fun e w' => e = .returned (.tuple #[.string (s.extract 0 i), .string (s.extract (i + 1) s.size), .bool true]) ∧ Below w.heap.size w w' := fun w => by
    go_enter Tryz.func22, Tryz.ntmps22
    go_wp2_with fail
    refine (HI _).mono ?_
    rintro e w1 ⟨rfl, rfl⟩
    go_wp2_with fail
    go_quiet (fail)
    go_wp2_with fail
    refine bodyPost_ret (v := .tuple #[.string (s.extract 0 i), .string (s.extract (i + 1) s.size), .bool true]) ?_ rfl ⟨rfl, blw_drewN (Below.refl _ _) _⟩
    simp [results, Tryz.results22, go_sem]
  clear HI h
  go_enter Tryz.func8, Tryz.ntmps8
  go_wp2_with fail
  refine (H22 _).mono ?_
  rintro e w1 ⟨rfl, hb⟩
  go_wp2_with fail
  refine bodyPost_ret (v := .tuple #[.string (s.extract 0 i), .string (s.extract (i + 1) s.size), .bool true]) ?_ rfl ⟨rfl, hb⟩
  simp [results, Tryz.results8, go_sem]
end Go.Proofs.YtnakbibdljdlcaaGreatDoor
