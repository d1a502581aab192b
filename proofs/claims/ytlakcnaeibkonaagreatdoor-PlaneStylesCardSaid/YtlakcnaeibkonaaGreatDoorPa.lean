/-
  The walk of PlaneStyles. Conditions: what the listed variables hold, the text's size.
-/
import Derived.Test.YtlakcnaeibkonaaGreatDoorRows
import Derived.Test.YtlakcnaeibkonaaGreatDoorShelf
import Derived.Test.YtlakcnaeibkonaaGreatDoorVj
import Derived.WalkKit
import Derived.ProofKit
import Derived.Lib.Hide
import Derived.Lib.SmallJoins
import Derived.WalkLawsBesides
import Derived.LoopN
import Derived.Lib.UnsafeStr
namespace Go.Proofs.YtlakcnaeibkonaaGreatDoor
open Go.RowKit Go.Vx

/-- What the listed variables give. -/
structure Glob (w : World) : Prop where
  pow : Lib.TabIs Tryz.prog w "internal/strconv.uint64pow10" .u64 Lib.pow10Tab
  g0 : ∃ te pe, w.cell? ⟨0, 0, none⟩ = some (.iface te pe)
  g1 : ∃ te pe, w.cell? ⟨1, 0, none⟩ = some (.iface te pe)
theorem gPow : Tryz.prog.globalNamed "internal/strconv.uint64pow10" = some 3 := by kernel_rfl
theorem Glob.below {w w1 : World} (h : Glob w) (hb : Below w.heap.size w w1) : Glob w1 := by
  obtain ⟨hp, ⟨t1, p1, e1⟩, ⟨t2, p2, e2⟩⟩ := h
  exact ⟨Go.Joins.tab_stays gPow hp hb (Nat.le_refl _), ⟨t1, p1, (hb.cell (p := ⟨0, 0, none⟩) (World.block_lt_of_cell? _ _ e1)).trans e1⟩, ⟨t2, p2, (hb.cell (p := ⟨1, 0, none⟩) (World.block_lt_of_cell? _ _ e2)).trans e2⟩⟩
theorem laid_cell {R : Vx.Ren} {w : World} {g e : Nat} {v : Value} {a : AV} (h : w.cell? ⟨g, 0, none⟩ = some v) (ha : conc R a = v) : ∃ x, w.heap[g]? = some x ∧ ORel R (.row [a] e .ro) x := by
  unfold World.cell? at h
  split at h
  · rename_i c t fz hc
    refine ⟨_, hc, ?_⟩
    simp only [ORel]
    refine ⟨trivial, fun i u hu => ?_⟩
    cases i with
    | zero =>
      simp only [List.getElem?_cons_zero, Option.some.injEq] at hu
      subst hu
      rw [ha]
      simpa using h
    | succ i => simp at hu
  · cases h
theorem laid_of_glob {w : World} (h : Glob w) : ∃ (l : List Value) (hl : ∀ v ∈ l, isCell v), Laid (renOf l hl) tabs w := by
  obtain ⟨hp, ⟨te, pe, e1⟩, _⟩ := h
  refine ⟨[.iface te pe], fun v hv => by simp at hv; subst hv; trivial, ?_⟩
  refine allC (laid_cell e1 rfl) (allC ?_ allN)
  exact laid_tab (t := ⟨3, _, 0⟩) (heap_of_var gPow hp) (by kernel_rfl)
theorem wakes_yes {w : World} (h : Glob w) : Calls Tryz.prog 4 #[] w fun e w' => e = .returned (.bool true) ∧ Below w.heap.size w w' := by
  obtain ⟨l, hl, hL⟩ := laid_of_glob h
  exact wakes_told (renOf l hl) w hL (fun _ _ => rfl)

/-! ### The digits of the reference -/
theorem env_f10 : env.fn 10 = some Tryz.f10 := by kernel_rfl
set_option maxRecDepth 1000000 in
theorem digits_all : ((List.range 41).all fun n => comesTo (.str (Lib.decDigits n)) (callX 30 env 100000 12 10 [.int .i64 (.ofNat n)] { H := startH [], nx := 12 })) = true := by kernel_rfl
theorem digits_yes (n : Nat) (h : n < 41) (w : World) : Calls Tryz.prog 10 #[.int .i64 n] w fun e w' => e = .returned (.string ⟨(Lib.decDigits n).toArray⟩) ∧ Below w.heap.size w w' := by
  have h1 := List.all_eq_true.1 digits_all n (List.mem_range.2 h)
  have h2 : Tells Tryz.prog 12 [] 10 [.int .i64 (.ofNat n)] (.str (Lib.decDigits n)) := tells env_ok 29 100000 rfl (by kernel_rfl) env_f10 rfl h1 (by simp [BndL, Bnd])
  exact h2 (renOf [] (by simp)) w (fun t ht => by cases ht) (fun _ _ => rfl)

/-! ### What a text says -/
def digitsIs (l : List UInt8) : Nat → Option Nat
  | 0 => none
  | k + 1 => match digitsIs l k with
    | some n => some n
    | none => if Lib.decDigits k = l then some k else none
def wantI (l : List UInt8) : Int := if l = [] then 2 else match digitsIs l 41 with
  | some n => n
  | none => -1
theorem is_some {l : List UInt8} {n : Nat} : ∀ {k : Nat}, digitsIs l k = some n → n < k ∧ Lib.decDigits n = l
  | 0, h => by cases h
  | k + 1, h => by
    unfold digitsIs at h
    split at h
    · rename_i m hm
      obtain rfl := Option.some.inj h
      have := is_some hm
      exact ⟨by omega, this.2⟩
    · split at h
      · obtain rfl := Option.some.inj h
        rename_i e
        exact ⟨by omega, e⟩
      · cases h
theorem is_none {l : List UInt8} : ∀ {k : Nat}, digitsIs l k = none → ∀ j, j < k → Lib.decDigits j ≠ l
  | 0, _, j, hj => by omega
  | k + 1, h, j, hj => by
    unfold digitsIs at h
    split at h
    · cases h
    · rename_i hk
      split at h
      · cases h
      · rename_i e
        by_cases q : j = k
        · subst q; exact e
        · exact is_none hk j (by omega)
theorem is_keep {l : List UInt8} {n : Nat} {k : Nat} (h : digitsIs l k = some n) : ∀ m, k ≤ m → digitsIs l m = some n
  | 0, hm => by have : k = 0 := by omega
                subst this; exact h
  | m + 1, hm => by
    by_cases e : k = m + 1
    · rw [← e]; exact h
    · have := is_keep h m (by omega)
      unfold digitsIs
      rw [this]
def atoiIs (l : List UInt8) (n : Nat) : Bool := match Lib.atoiAll l with | .ok v => v == (n : Int) | _ => false
theorem atoi_digits : ∀ n, n < 41 → Lib.atoiAll (Lib.decDigits n) = .ok (n : Int) := by
  have h : (List.range 41).all (fun n => atoiIs (Lib.decDigits n) n) = true := by decide +kernel
  intro n hn
  have := List.all_eq_true.1 h n (by simpa using hn)
  unfold atoiIs at this
  split at this
  · rename_i v e; rw [e]; simp at this; rw [this]
  · cases this
theorem dec_size : ∀ n, n < 41 → (Lib.decDigits n).length ≤ 2 := by
  have h : (List.range 41).all (fun n => decide ((Lib.decDigits n).length ≤ 2)) = true := by decide +kernel
  intro n hn
  have := List.all_eq_true.1 h n (by simpa using hn)
  simpa using this
theorem dec_ne : ∀ n, n < 41 → Lib.decDigits n ≠ [] := by
  have h : (List.range 41).all (fun n => decide ((Lib.decDigits n) ≠ [])) = true := by decide +kernel
  intro n hn
  have := List.all_eq_true.1 h n (by simpa using hn)
  simpa using this
theorem bytes_of {s : ByteArray} {l : List UInt8} (h : s.data.toList = l) : s = ⟨l.toArray⟩ := by
  subst h; simp
theorem atoi_ok (s : ByteArray) (hs : s.size ≤ 281474976710656) (v : Int) (h : Lib.atoiAll s.data.toList = .ok v) (w : World) :
    Calls Tryz.prog 8 #[.string s] w fun e w' => e = .returned (.tuple #[.int .i64 v, .nilIface]) ∧ Below w.heap.size w w' := by
  refine (Tryz.strconv_Atoi_ok s (by omega) v h w).mono ?_
  rintro e w' ⟨h1, h2⟩
  refine ⟨h1, ?_⟩
  rcases h2 with rfl | ⟨t, rfl⟩
  · exact Below.refl _ _
  · exact Lib.bytesWorld_below _ _ _
theorem atoi_no (s : ByteArray) (hs : s.size ≤ 281474976710656) (h : ∀ v, Lib.atoiAll s.data.toList ≠ .ok v) (w : World) (hg : Glob w) :
    Calls Tryz.prog 8 #[.string s] w fun e w' => ∃ n t N, e = .returned (.tuple #[.int .i64 n, .iface t (.pointer (some ⟨N, 0, none⟩))]) ∧ Below w.heap.size w w' := by
  obtain ⟨_, ⟨t1, p1, e1⟩, ⟨t2, p2, e2⟩⟩ := hg
  cases e : Lib.atoiAll s.data.toList with
  | ok v => exact absurd e (h v)
  | _ =>
    first
    | exact (Tryz.strconv_Atoi_range s hs e _ w e2 (Or.inr ⟨_, _, rfl⟩)).mono fun _ _ ⟨N, h1, _, _, h2⟩ => ⟨_, _, N, h1, h2⟩
    | exact (Any.strconv_Atoi_syntax Tryz.laysC172 s hs e _ w e1 (Or.inr ⟨_, _, rfl⟩)).mono fun _ _ ⟨N, h1, _, _, h2⟩ => ⟨_, _, N, h1, h2⟩
theorem itoa_small (n : Nat) (h : n < 41) (w : World) :
    Calls Tryz.prog 9 #[.int .i64 n] w fun e w' => e = .returned (.string ⟨(Lib.decDigits n).toArray⟩) ∧ w = w' :=
  (Tryz.strconv_Itoa_small n (by omega) w).mono fun _ _ ⟨h1, h2⟩ => ⟨h1, h2.symm⟩
theorem itoa_any (n : Int) (h0 : -9223372036854775808 ≤ n) (h1 : n ≤ 9223372036854775807) (w : World) (hg : Glob w) :
    Calls Tryz.prog 9 #[.int .i64 n] w fun e w' => ∃ s : ByteArray, e = .returned (.string s) ∧ Below w.heap.size w w' :=
  (Tryz.strconv_Itoa n h0 h1 w hg.pow).mono fun _ _ ⟨h1, k, os, h2⟩ => ⟨_, h1, by subst h2; exact ⟨rfl, rfl, rfl, by simp [Go.Sort.grow, World.drewN], fun j hj => by simp only [Go.Sort.grow, World.drewN]; exact Array.getElem?_append_left hj⟩⟩

/-! ### The walks -/
def styleV (l : List UInt8) : Value := if wantI l < 0 then .tuple #[.int .i64 0, .int .i64 2] else .tuple #[.int .i64 (wantI l), .int .i64 0]
theorem styleV_nil : styleV [] = .tuple #[.int .i64 2, .int .i64 0] := rfl
theorem want_yes {l : List UInt8} {n : Nat} (hn : n < 41) (h : Lib.decDigits n = l) : wantI l = n := by
  have hl : l ≠ [] := by rw [← h]; exact dec_ne n hn
  unfold wantI
  rw [if_neg hl]
  cases hd : digitsIs l 41 with
  | none => exact absurd h (is_none hd n hn)
  | some m =>
    have h1 := is_some hd
    have e1 := atoi_digits n hn
    have e2 := atoi_digits m h1.1
    rw [h] at e1
    rw [h1.2, e1] at e2
    have : (n : Int) = m := by simpa using e2
    show ((m : Nat) : Int) = n
    omega
theorem want_no {l : List UInt8} (hl : l ≠ []) (h : ∀ n, n < 41 → Lib.decDigits n ≠ l) : wantI l = -1 := by
  unfold wantI
  rw [if_neg hl]
  cases hd : digitsIs l 41 with
  | none => rfl
  | some m => exact absurd (is_some hd).2 (h m (is_some hd).1)
theorem styleV_yes {l : List UInt8} {n : Nat} (hn : n < 41) (h : Lib.decDigits n = l) : styleV l = .tuple #[.int .i64 n, .int .i64 0] := by
  unfold styleV
  rw [want_yes hn h, if_neg (by omega)]
theorem styleV_no {l : List UInt8} (hl : l ≠ []) (h : ∀ n, n < 41 → Lib.decDigits n ≠ l) : styleV l = .tuple #[.int .i64 0, .int .i64 2] := by
  unfold styleV
  rw [want_no hl h, if_pos (by omega)]
set_option maxHeartbeats 4000000 in
theorem style_nil (w : World) : Calls Tryz.prog 5 #[.string ⟨#[]⟩] w fun e w' => e = .returned (.tuple #[.int .i64 2, .int .i64 0]) ∧ Below w.heap.size w w' := by
  go_enter Tryz.func5, Tryz.ntmps5
  go_wp2_with fail
  go_ret2
  exact ⟨rfl, Below.refl _ _⟩
set_option maxHeartbeats 4000000 in
theorem style_yes (n : Nat) (hn : n < 41) (w : World) : Calls Tryz.prog 5 #[.string ⟨(Lib.decDigits n).toArray⟩] w fun e w' => e = .returned (.tuple #[.int .i64 n, .int .i64 0]) ∧ Below w.heap.size w w' := by
  have hne := dec_ne n hn
  have hsz : (⟨(Lib.decDigits n).toArray⟩ : ByteArray).size ≤ 281474976710656 := by
    have := dec_size n hn
    show (Lib.decDigits n).toArray.size ≤ _
    simp; omega
  have HA := atoi_ok ⟨(Lib.decDigits n).toArray⟩ hsz n (atoi_digits n hn)
  have HI := itoa_small n hn
  have hemp : (Lib.decDigits n).isEmpty = false := by simpa using hne
  have g0 : ¬ (n : Int) < 0 := by omega
  have g1 : ¬ (40 : Int) < (n : Int) := by omega
  clear hsz hne
  go_enter Tryz.func5, Tryz.ntmps5
  go_wp2_with fail
  refine (HA _).mono ?_
  rintro e w1 ⟨rfl, hb⟩
  go_wp2_with fail
  refine (HI _).mono ?_
  rintro e w2 ⟨rfl, rfl⟩
  go_wp2_with fail
  go_ret2
  exact ⟨rfl, hb⟩
set_option maxHeartbeats 4000000 in
theorem style_no (s : ByteArray) (hs : s.size ≤ 281474976710656) (hl : s.data.toList ≠ []) (h : ∀ n, n < 41 → Lib.decDigits n ≠ s.data.toList) (w : World) (hg : Glob w) :
    Calls Tryz.prog 5 #[.string s] w fun e w' => e = .returned (.tuple #[.int .i64 0, .int .i64 2]) ∧ Below w.heap.size w w' := by
  have hemp : s.toList.isEmpty = false := by rw [ByteArray.toList_eq]; simpa using hl
  by_cases hv : ∃ v, Lib.atoiAll s.data.toList = .ok v
  · obtain ⟨v, hv⟩ := hv
    have hbd := Lib.atoiAll_bounds hv
    have HA := atoi_ok s hs v hv
    clear hv hs hl
    by_cases hsm : 0 ≤ v ∧ v < 41
    · obtain ⟨m, rfl⟩ := Int.eq_ofNat_of_zero_le hsm.1
      have hne := h m (by omega)
      have HI := itoa_small m (by omega)
      have q : ((Lib.decDigits m) == s.toList) = false := by rw [ByteArray.toList_eq]; exact beq_eq_false_iff_ne.2 hne
      clear h hne hbd hsm
      go_enter Tryz.func5, Tryz.ntmps5
      go_wp2_with fail
      refine (HA _).mono ?_
      rintro e w1 ⟨rfl, hb⟩
      go_wp2_with fail
      refine (HI _).mono ?_
      rintro e w2 ⟨rfl, rfl⟩
      go_wp2_with fail
      go_ret2
      exact ⟨rfl, hb⟩
    · have HI := fun w hg => itoa_any v hbd.1 hbd.2 w hg
      have g : v < 0 ∨ (¬ v < 0 ∧ (40 : Int) < v) := by omega
      clear h hbd hsm
      go_enter Tryz.func5, Tryz.ntmps5
      go_wp2_with fail
      refine (HA _).mono ?_
      rintro e w1 ⟨rfl, hb⟩
      have hg1 := hg.below hb
      go_wp2_with fail
      refine (HI _ hg1).mono ?_
      rintro e w2 ⟨t, rfl, hb2⟩
      have hb3 := hb.trans (hb2.mono hb.size)
      by_cases q : (t.toList == s.toList) = true
      · rcases g with g | ⟨g, g2⟩
        · go_wp2_with fail
          go_ret2
          exact ⟨rfl, hb3⟩
        · go_wp2_with fail
          go_ret2
          exact ⟨rfl, hb3⟩
      · have q : (t.toList == s.toList) = false := by simpa using q
        go_wp2_with fail
        go_ret2
        exact ⟨rfl, hb3⟩
  · have HA := fun (w : World) (hg : Glob w) => atoi_no s hs (fun v e => hv ⟨v, e⟩) w hg
    clear hv h hl
    go_enter Tryz.func5, Tryz.ntmps5
    go_wp2_with fail
    refine (HA _ hg).mono ?_
    rintro e w1 ⟨n, t, N, rfl, hb⟩
    go_wp2_with fail
    go_ret2
    exact ⟨rfl, hb⟩
end Go.Proofs.YtlakcnaeibkonaaGreatDoor
