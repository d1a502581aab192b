/-
  Whole numbers as decimals: dec.Of. Conditions: an int64; the table of powers of ten is laid.
  Whole numbers as decimals: the law's whole. Condition: an int64.
  numfmt.Whole: what it answers, in plain Lean. No condition.
  numfmt.Whole: its walk. Conditions: the slice reads as what is said, in right texts; the tables are laid; sizes.
  numfmt.Whole: its walk. Conditions: the slice reads as what is said, in right texts; the tables are laid; sizes.
-/
import Derived.Test.YtjmebclcmpfdmaaGreatDoorGh
import Derived.Test.YtjmebclcmpfdmaaGreatDoorGi
import Derived.Test.YtjmebclcmpfdmaaGreatDoorShelf
import Derived.IntWalk
set_option linter.unusedVariables false
set_option linter.unusedSimpArgs false
namespace Go.Proofs.YtjmebclcmpfdmaaGreatDoor
open Go.RowKit Go.Fl
open Ph
/-- an int64's digits -/
def absB (n : Int) : ByteArray := ⟨(Lib.decDigits n.natAbs).toArray⟩
/-- an int64 as a decimal -/
def ofV (n : Int) : Value := .agg #[.bool (decide (n < 0)), .string (absB n), .int .i64 0]
theorem dec_digit (n : Nat) : ∀ b ∈ Lib.decDigits n, 48 ≤ b.toNat ∧ b.toNat ≤ 57 := by
  induction n using Nat.strongRecOn with
  | ind n ih =>
    intro b hb
    unfold Lib.decDigits at hb
    split at hb
    · simp only [List.mem_singleton] at hb
      subst hb
      rw [UInt8.toNat_ofNat']
      omega
    · rcases List.mem_append.1 hb with h | h
      · exact ih _ (by omega) b h
      · simp only [List.mem_singleton] at h
        subst h
        rw [UInt8.toNat_ofNat']
        omega
theorem absB_dig (n : Int) : digT (absB n) := by
  intro j hj
  have hj2 : j < (Lib.decDigits n.natAbs).length := by
    have : (absB n).size = (Lib.decDigits n.natAbs).toArray.size := rfl
    rw [this, List.size_toArray] at hj
    exact hj
  have h := dec_digit n.natAbs (Lib.decDigits n.natAbs)[j] (List.getElem_mem hj2)
  rw [get_eq _ _ hj]
  exact h
theorem absB_pos (n : Int) : 1 ≤ (absB n).size := by
  show 1 ≤ (Lib.decDigits n.natAbs).toArray.size
  rw [List.size_toArray]
  have := dec_ne n.natAbs
  cases h : Lib.decDigits n.natAbs with
  | nil => exact absurd h this
  | cons a l => simp
theorem absB_size (n : Int) (h0 : -9223372036854775808 ≤ n) (h1 : n ≤ 9223372036854775807) : (absB n).size ≤ 19 := by
  show (Lib.decDigits n.natAbs).toArray.size ≤ 19
  rw [List.size_toArray]
  exact dec_len 19 (by decide) (by omega)
theorem blw_fmt {w w' : World} (h : ∃ k os, w' = Go.Sort.grow (w.drewN k) os) : Below w.heap.size w w' := by
  obtain ⟨k, os, rfl⟩ := h
  exact ⟨rfl, rfl, rfl, by simp [Go.Sort.grow, World.drewN], fun j hj => by simp only [Go.Sort.grow, World.drewN]; exact Array.getElem?_append_left hj⟩
theorem cut_neg (n : Int) (h : n < 0) : Lib.hasPrefix (Lib.itoa n) [45] = true ∧ (⟨(Lib.trimPrefix (Lib.itoa n) [45]).toArray⟩ : ByteArray) = absB n := by
  have e : Lib.itoa n = 45 :: Lib.decDigits n.natAbs := by unfold Lib.itoa; rw [if_pos h]
  have hp : Lib.hasPrefix (Lib.itoa n) [45] = true := by rw [e]; simp [Lib.hasPrefix]
  refine ⟨hp, ?_⟩
  unfold Lib.trimPrefix
  rw [if_pos hp, e]
  rfl
theorem cut_pos (n : Int) (h : ¬ n < 0) : Lib.hasPrefix (Lib.itoa n) [45] = false ∧ (⟨(Lib.trimPrefix (Lib.itoa n) [45]).toArray⟩ : ByteArray) = absB n := by
  have e : Lib.itoa n = Lib.decDigits n.natAbs := by unfold Lib.itoa; rw [if_neg h]; congr 1; omega
  have hp : Lib.hasPrefix (Lib.itoa n) [45] = false := by
    rw [e]
    cases hd : Lib.decDigits n.natAbs with
    | nil => rfl
    | cons a l =>
      have := dec_digit n.natAbs a (by rw [hd]; exact List.mem_cons_self)
      have hne : (45 : UInt8) ≠ a := fun e => by rw [← e] at this; exact absurd this.1 (by decide)
      show ((45 : UInt8) == a && ([] : List UInt8).isPrefixOf l) = false
      rw [beq_eq_false_iff_ne.2 hne]
      rfl
  refine ⟨hp, ?_⟩
  unfold Lib.trimPrefix
  rw [hp, e]
  rfl
/-- the table of powers of ten is laid -/
def Pow (w : World) : Prop := Lib.TabIs Tryz.prog w "internal/strconv.uint64pow10" .u64 Lib.pow10Tab
theorem Pow.below {w w' : World} (h : Pow w) (hb : Below w.heap.size w w') : Pow w' := by
  unfold Pow Lib.TabIs World.var? at *
  have hg : Tryz.prog.globalNamed "internal/strconv.uint64pow10" = some 3 := by kernel_rfl
  rw [hg] at h ⊢
  simp only [Option.bind_some] at h ⊢
  have hlt : 3 < w.heap.size := by
    refine Nat.lt_of_not_le fun hge => ?_
    rw [Array.getElem?_eq_none hge] at h
    cases h
  rw [hb.block _ hlt]
  exact h
set_option maxRecDepth 100000 in
set_option maxHeartbeats 4000000 in
theorem Of_any (n : Int) (h0 : -9223372036854775808 ≤ n) (h1 : n ≤ 9223372036854775807) (w : World) (htab : Pow w) :
    Calls Tryz.prog 18 #[.int .i64 n] w fun e w' => e = .returned (ofV n) ∧ Below w.heap.size w w' := by
  have HF := fun (w2 : World) (h : Pow w2) => Tryz.strconv_FormatInt_10 n h0 h1 w2 h
  have HC := fun (w2 : World) => Tryz.strings_CutPrefix ⟨(Lib.itoa n).toArray⟩ ⟨#[45]⟩ w2
  have B0 := (Below.refl w.heap.size w).alloc (Nat.le_refl _) (.cells #[.bool false, .string ⟨#[]⟩, .int .i64 0] 24)
  have R := Blk.new w 24 #[.bool false, .string ⟨#[]⟩, .int .i64 0]
  have ht0 := htab.below ((Below.refl w.heap.size w).alloc (Nat.le_refl _) (.cells #[.bool false, .string ⟨#[]⟩, .int .i64 0] 24))
  have hcut : Lib.hasPrefix (Lib.itoa n) [45] = decide (n < 0) ∧ (⟨(Lib.trimPrefix (Lib.itoa n) [45]).toArray⟩ : ByteArray) = absB n := by
    by_cases h : n < 0
    · rw [decide_eq_true h]; exact cut_neg n h
    · rw [decide_eq_false h]; exact cut_pos n h
  have HC' := fun (w2 : World) => HC w2
  simp only [hcut.1, hcut.2] at HC'
  clear hcut HC htab
  go_enter Tryz.func18, Tryz.ntmps18
  go_wp2_with (first | (go_at_call 50; refine (HF _ ht0).mono ?_; rintro e w1 ⟨rfl, hw1⟩; have hb1 := blw_fmt hw1; clear hw1; have R1 := R.below hb1 R.lt; have B1 := B0.trans (hb1.mono B0.size); have r0 := R1.at_ 0 (v := .bool false) rfl; have r1 := R1.at_ 1 (v := .string ⟨#[]⟩) rfl; have r2 := R1.at_ 2 (v := .int .i64 0) rfl; have rf := R1.frozen) | (go_at_call 49; refine (HC' _).mono ?_; rintro e w2 ⟨rfl, hw2⟩; subst hw2))
  have R2 := ((R1.set_ 0 (.bool (decide (n < 0)))).set_ 1 (.string (absB n))).set_ 2 (.int .i64 0)
  have e0 := R2.at_ 0 (v := .bool (decide (n < 0))) rfl
  have e1 := R2.at_ 1 (v := .string (absB n)) rfl
  have e2 := R2.at_ 2 (v := .int .i64 0) rfl
  refine bodyPost_ret (v := ofV n) ?_ rfl ⟨rfl, ((B1.setCell (p := ⟨w.heap.size, 0, none⟩) (Nat.le_refl _) _).setCell (p := ⟨w.heap.size, 1, none⟩) (Nat.le_refl _) _).setCell (p := ⟨w.heap.size, 2, none⟩) (Nat.le_refl _) _⟩
  simp [results, Tryz.results18, go_sem, e0, e1, e2, ofV]
end Go.Proofs.YtjmebclcmpfdmaaGreatDoor
namespace Go.Proofs.YtjmebclcmpfdmaaGreatDoor
open Go.RowKit Go.Fl
open Ph
/-- a number's digits, the lowest first -/
def rowN : Nat → Nat → List Nat
  | 0, _ => []
  | f + 1, v => if v = 0 then [] else v % 10 :: rowN f (v / 10)
theorem rowN_val : ∀ (f v : Nat), v ≤ f → vL (rowN f v) = v
  | 0, v, h => by simp [rowN, vL]; omega
  | f + 1, v, h => by
    unfold rowN
    split
    · rename_i h0; subst h0; rfl
    · unfold vL
      rw [rowN_val f (v / 10) (by omega)]
      omega
theorem rowN_dig : ∀ (f v : Nat), Dig (rowN f v)
  | 0, _ => fun _ h => by cases h
  | f + 1, v => by
    unfold rowN
    split
    · exact fun _ h => by cases h
    · exact dig_cons.2 ⟨Nat.mod_lt _ (by decide), rowN_dig f _⟩
theorem big_lt {v : Nat} (e : Nat) (he : 20 ≤ e) (h : v ≤ 9223372036854775808) : v < 10 ^ e :=
  Nat.lt_of_lt_of_le (Nat.lt_of_le_of_lt h (by decide : 9223372036854775808 < 10 ^ 20)) (Nat.pow_le_pow_right (by decide) he)
theorem pow_len {c k N : Nat} (hk : k ≠ 0) (h : 10 ^ c * k ≤ N) (hN : N ≤ 9223372036854775808) : c ≤ 18 := by
  refine Nat.le_of_not_lt fun hc => ?_
  have h1 : 10 ^ 19 ≤ 10 ^ c := Nat.pow_le_pow_right (by decide) (by omega)
  have h2 : 10 ^ c * 1 ≤ 10 ^ c * k := Nat.mul_le_mul_left _ (by omega)
  have h3 : (10 : Nat) ^ 19 = 10000000000000000000 := by decide
  omega
theorem step_val {l : List Nat} {k N : Nat} (h : vL l + 10 ^ l.length * k = N) : vL (l ++ [k % 10]) + 10 ^ (l ++ [k % 10]).length * (k / 10) = N := by
  rw [vL_app, List.length_append]
  have e : 10 ^ l.length * k = 10 ^ l.length * (k % 10) + 10 ^ l.length * 10 * (k / 10) := by
    rw [Nat.mul_assoc, ← Nat.mul_add, Nat.mod_add_div]
  have e1 : vL [k % 10] = k % 10 := by simp [vL]
  have e2 : l.length + [k % 10].length = l.length + 1 := rfl
  rw [e1, e2, Nat.pow_succ]
  omega
theorem of_dec (n : Int) (v : Nat) (h : v = n.natAbs) : decV (decide (n < 0)) v 0 = ofV n := by
  subst h
  unfold decV ofV absB
  congr 2
  · by_cases h : n < 0
    · simp [h]; omega
    · simp [h]
set_option maxRecDepth 100000 in
set_option maxHeartbeats 4000000 in
theorem whole_any (n : Int) (h0 : -9223372036854775808 ≤ n) (h1 : n ≤ 9223372036854775807) (w : World) :
    Calls Tryz.prog 15 #[.int .i64 n] w fun e w' => e = .returned (ofV n) ∧ Below w.heap.size w w' := by
  go_enter Tryz.func15, Tryz.ntmps15
  go_wp2_with fail
  have B0 := (Below.refl w.heap.size w).alloc (Nat.le_refl _) (.cells #[.bool false, .string ⟨#[]⟩, .int .i64 0] 24)
  have R := Blk.new w 24 #[.bool false, .string ⟨#[]⟩, .int .i64 0]
  go_loopw [3, 4] (fun u t wr => ∃ (m : Int) (l : List Nat), t = .int .i64 m ∧ -9223372036854775808 ≤ m ∧ m ≤ 9223372036854775807 ∧ l.length ≤ 20 ∧ Dig l ∧ vL l + 10 ^ l.length * m.natAbs = n.natAbs ∧ wr.ownsRow (w.heap.size + 1) 3 1 u l.length (ncells l) ∧ Blk wr w.heap.size 24 #[.bool false, .string ⟨#[]⟩, .int .i64 0] ∧ Below w.heap.size w wr) (fun _ t _ => (intOf t).natAbs)
  case atStart => exact ⟨n, [], rfl, h0, h1, by simp, dig_nil, by simp [vL], ⟨rfl, Or.inl ⟨rfl, rfl⟩⟩, R, B0⟩
  case round =>
    clear B0 R
    obtain ⟨m, l, rfl, m0, m1, hl, hD, hs, hown, R, hb⟩ := hrel
    by_cases hm : m = 0
    · subst hm
      have hv : vL l = n.natAbs := by simpa using hs
      have HM := Made_any (decide (n < 0)) _ l wr.heap.size hD (by omega) (by rw [hv]; exact big_lt 400 (by decide) (by omega)) 0 (by decide) wr (Nat.le_refl _) (RowI.of_own hown)
      rw [of_dec n _ hv] at HM
      have hfr := R.lt
      obtain ⟨A9, n9, c9, hu⟩ : ∃ A n c, u3 = .slice A n c := by rcases hown.2 with ⟨e, _⟩ | ⟨g', cap, cur, e, _⟩ <;> exact ⟨_, _, _, e⟩
      rw [hu] at HM ⊢
      unfold ofV at HM
      clear hs hv hown hu
      go_wp2_with (go_at_call 45; refine HM.mono ?_; rintro e w2 ⟨rfl, hb2⟩; have R2 := (R.below hb2 hfr).alloc (.cells #[.bool (decide (n < 0)), .string (absB n), .int .i64 0] 24); have r0 := R2.at_ 0 (v := .bool false) rfl; have r1 := R2.at_ 1 (v := .string ⟨#[]⟩) rfl; have r2 := R2.at_ 2 (v := .int .i64 0) rfl; have rf := R2.frozen; have B2 := (hb.trans (hb2.mono hb.size)).alloc (Nat.le_trans hb.size hb2.size) (.cells #[.bool (decide (n < 0)), .string (absB n), .int .i64 0] 24))
      have R3 := ((R2.set_ 0 (.bool (decide (n < 0)))).set_ 1 (.string (absB n))).set_ 2 (.int .i64 0)
      have e0 := R3.at_ 0 (v := .bool (decide (n < 0))) rfl
      have e1 := R3.at_ 1 (v := .string (absB n)) rfl
      have e2 := R3.at_ 2 (v := .int .i64 0) rfl
      refine bodyPost_ret (v := ofV n) ?_ rfl ⟨rfl, ((B2.setCell (p := ⟨w.heap.size, 0, none⟩) (Nat.le_refl _) _).setCell (p := ⟨w.heap.size, 1, none⟩) (Nat.le_refl _) _).setCell (p := ⟨w.heap.size, 2, none⟩) (Nat.le_refl _) _⟩
      simp [results, Tryz.results15, go_sem, e0, e1, e2, ofV]
    · have hpw : ∀ k : Nat, m.natAbs = k → l.length ≤ 18 := fun k hk => pow_len (k := m.natAbs) (by omega) (show 10 ^ l.length * m.natAbs ≤ n.natAbs by omega) (by omega)
      have hl18 := hpw _ rfl
      have hl9 : l.length ≤ 1000000000000 := by omega
      have hsz := R.lt
      have HO := Lib.hid hown
      by_cases hneg : m < 0
      · obtain ⟨k, rfl⟩ : ∃ k : Nat, m = -(k : Int) := ⟨m.natAbs, by omega⟩
        have hk : (k : Int) ≠ 0 := by omega
        have hsv := step_val (k := k) (N := n.natAbs) (by rw [← hs]; congr 2; omega)
        have HS := Lib.hid hsv
        have HD := Lib.hid hD
        have hmx : max (-((k : Int) % 10)) ((k : Int) % 10) = ((k % 10 : Nat) : Int) := by omega
        have hbw : w.heap.size + 1 ≤ wr.heap.size := hsz
        have HMX := Lib.hid hmx
        clear hs hsv hD hown hpw hmx
        go_wp2_with (at_builtin; refine wpNat rfl (.tmp 12) (.tmp 19) rfl (w.heap.size + 1) wr _ l _ (k % 10) HMX.out rfl HO.out rfl hl9 hbw ?_; intro v5 w5 O5 hg5)
        have R5 := (R.alloc (.cells #[.int .i64 (max (-((k : Int) % 10)) ((k : Int) % 10))] 3)).grown hg5 (own_blk_ne HO.out R (by decide)).symm
        have B5 := (hb.alloc hb.size (.cells #[.int .i64 (max (-((k : Int) % 10)) ((k : Int) % 10))] 3)).grown hg5 (by simp; omega) (fun j hj => Nat.le_trans (Nat.le_succ _) (HO.out.lt j hj).1)
        go_roundw
        case rel => exact ⟨-((k / 10 : Nat) : Int), l ++ [k % 10], by go_num, by omega, by omega, by simp; omega, dig_app.2 ⟨HD.out, fun d hd => by simp at hd; omega⟩, by rw [← HS.out]; congr 2; omega, O5, R5, B5⟩
        case measure => simp [intOf]; omega
      · obtain ⟨k, rfl⟩ : ∃ k : Nat, m = (k : Int) := ⟨m.natAbs, by omega⟩
        have hk : (k : Int) ≠ 0 := by omega
        have hsv := step_val (k := k) (N := n.natAbs) (by rw [← hs]; congr 2)
        have HS := Lib.hid hsv
        have HD := Lib.hid hD
        have hmx : max ((k : Int) % 10) (-((k : Int) % 10)) = ((k % 10 : Nat) : Int) := by omega
        have hbw : w.heap.size + 1 ≤ wr.heap.size := hsz
        have HMX := Lib.hid hmx
        clear hs hsv hD hown hpw hmx
        go_wp2_with (at_builtin; refine wpNat rfl (.tmp 12) (.tmp 19) rfl (w.heap.size + 1) wr _ l _ (k % 10) HMX.out rfl HO.out rfl hl9 hbw ?_; intro v5 w5 O5 hg5)
        have R5 := (R.alloc (.cells #[.int .i64 (max ((k : Int) % 10) (-((k : Int) % 10)))] 3)).grown hg5 (own_blk_ne HO.out R (by decide)).symm
        have B5 := (hb.alloc hb.size (.cells #[.int .i64 (max ((k : Int) % 10) (-((k : Int) % 10)))] 3)).grown hg5 (by simp; omega) (fun j hj => Nat.le_trans (Nat.le_succ _) (HO.out.lt j hj).1)
        go_roundw
        case rel => exact ⟨((k / 10 : Nat) : Int), l ++ [k % 10], by go_num, by omega, by omega, by simp; omega, dig_app.2 ⟨HD.out, fun d hd => by simp at hd; omega⟩, by rw [← HS.out]; congr 2, O5, R5, B5⟩
        case measure => simp [intOf]; omega
end Go.Proofs.YtjmebclcmpfdmaaGreatDoor
namespace Go.Proofs.YtjmebclcmpfdmaaGreatDoor
open Go.RowKit Go.Fl
open Ph
def zerosB (k : Nat) : ByteArray := ⟨(List.replicate k 48).toArray⟩
theorem zerosB_size (k : Nat) : (zerosB k).size = k := by
  show (List.replicate k (48 : UInt8)).toArray.size = k
  simp
theorem repeat_zeros (k : Nat) : (⟨(Lib.repeatL [48] k).toArray⟩ : ByteArray) = zerosB k := by
  have : ∀ k, Lib.repeatL [48] k = List.replicate k 48 := by
    intro k
    induction k with
    | zero => rfl
    | succ k ih => rw [Lib.repeatL, ih]; rfl
  unfold zerosB
  rw [this]
/-- an int64's digits, at least so many -/
def padT (n : Int) (least : Nat) : ByteArray := zerosB (least - (absB n).size) ++ absB n
theorem get_l (s : ByteArray) (j : Nat) : s.get! j = s.data.toList[j]?.getD 0 := by
  show s.data[j]! = _
  rw [Array.getElem?_toList]
  by_cases h : j < s.data.size
  · rw [getElem!_pos s.data j h, Array.getElem?_eq_getElem h]; rfl
  · rw [getElem!_neg s.data j h, Array.getElem?_eq_none (by omega)]; rfl
theorem get_app (a b : ByteArray) (j : Nat) : (a ++ b).get! j = if j < a.size then a.get! j else b.get! (j - a.size) := by
  rw [get_l, get_l, get_l]
  have e : (a ++ b).data.toList = a.data.toList ++ b.data.toList := by simp
  have hs : a.size = a.data.toList.length := (Array.length_toList).symm
  rw [e, hs, List.getElem?_append]
  split <;> rfl
theorem digT_app {a b : ByteArray} (ha : digT a) (hb : digT b) : digT (a ++ b) := by
  intro j hj
  rw [ByteArray.size_append] at hj
  rw [get_app]
  split
  · exact ha j (by assumption)
  · exact hb _ (by omega)
theorem zeros_dig (k : Nat) : digT (zerosB k) := by
  intro j hj
  rw [zerosB_size] at hj
  have e : (zerosB k).get! j = 48 := by
    show (List.replicate k (48 : UInt8)).toArray[j]! = 48
    rw [getElem!_pos _ _ (by simp; omega)]
    simp
  rw [e]
  decide
theorem padT_dig (n : Int) (least : Nat) : digT (padT n least) := digT_app (zeros_dig _) (absB_dig n)
theorem padT_size (n : Int) (least : Nat) (h0 : -9223372036854775808 ≤ n) (h1 : n ≤ 9223372036854775807) (hl : least ≤ 20) : (padT n least).size ≤ 20 := by
  have := absB_size n h0 h1
  unfold padT
  rw [ByteArray.size_append, zerosB_size]
  omega
theorem padT_zero : padT 0 0 = ⟨#[48]⟩ := by decide +kernel
/-- what Whole answers -/
def wholeV (L : List Sd) (loc sy : ByteArray) (n : Int) (least : Nat) : ByteArray :=
  if n < 0 then signV L loc sy minusB ⟨#[45]⟩ ++ dressT (digitsV L sy) (padT n least) else dressT (digitsV L sy) (padT n least)
theorem wholeV_neg {L : List Sd} {loc sy : ByteArray} {n : Int} {least : Nat} (h : n < 0) : wholeV L loc sy n least = signV L loc sy minusB ⟨#[45]⟩ ++ dressT (digitsV L sy) (padT n least) := if_pos h
theorem wholeV_pos {L : List Sd} {loc sy : ByteArray} {n : Int} {least : Nat} (h : ¬ n < 0) : wholeV L loc sy n least = dressT (digitsV L sy) (padT n least) := if_neg h
theorem signV_size {L : List Sd} {loc v nm p : ByteArray} (hx : ∀ x ∈ L, x.text.size ≤ 10000000000000) (hp : p.size ≤ 4) : (signV L loc v nm p).size ≤ 10000000000000 := by
  unfold signV
  cases h1 : valueOf L loc (leftT (sgnP nm v)) with
  | some t =>
    obtain ⟨x, a, b⟩ := value_in h1
    show t.size ≤ _
    rw [← b]; exact hx x a
  | none =>
    cases h2 : valueOf L loc (leftT (sgnP nm latnB)) with
    | some t =>
      obtain ⟨x, a, b⟩ := value_in h2
      show t.size ≤ _
      rw [← b]; exact hx x a
    | none => show p.size ≤ _; omega
end Go.Proofs.YtjmebclcmpfdmaaGreatDoor
namespace Go.Proofs.YtjmebclcmpfdmaaGreatDoor
open Go.RowKit Go.Fl
open Ph
/-- the tables of numbers and of runes are laid -/
structure Tabs (w : World) : Prop where
  pow : Pow w
  utf : Lib.Utf8Tabs 0 1 w
theorem Tabs.below {w w' : World} (h : Tabs w) (hb : Below w.heap.size w w') : Tabs w' := ⟨h.pow.below hb, Utf8Tabs_below h.utf hb⟩
/-- what is said: conditions of size and form -/
structure SdOk (L : List Sd) : Prop where
  n : L.length ≤ 281474976710656
  x : ∀ x ∈ L, x.text.size ≤ 10000000000000
  r : ∀ x ∈ L, rightB x.text = true
set_option maxRecDepth 100000 in
set_option maxHeartbeats 8000000 in
theorem Whole_neg_s (A : Option Addr) (L : List Sd) (c B : Nat) (loc sy : ByteArray) (hsy : sy.toList.isEmpty = false) (hv : namedB sy = true) (hS : SdOk L) (n : Int) (h0 : -9223372036854775808 ≤ n) (h1 : n ≤ 9223372036854775807) (hn0 : n < 0) (least : Nat) (hl : least ≤ 20) (w : World) (hL : Saids w B A L) (hB : B ≤ w.heap.size) (hT : Tabs w) :
    Calls Tryz.prog 11 #[srcV A L.length c, .string loc, .string sy, .int .i64 n, .int .i64 (least : Int)] w fun e w' => e = .returned (.tuple #[.string (wholeV L loc sy n least), .int .i64 0]) ∧ Below w.heap.size w w' := by
  have hl1 : ¬ (least : Int) < 0 := by omega
  have hl2 : ¬ (20 : Int) < (least : Int) := by omega
  have HN := named_any sy (by have := named_le hv; omega)
  rw [hv] at HN
  have HO := fun (w2 : World) (h : Pow w2) => Of_any n h0 h1 w2 h
  unfold ofV at HO
  rw [decide_eq_true hn0] at HO
  have hz := absB_size n h0 h1
  obtain ⟨k, hk⟩ : ∃ k, least - (absB n).size = k := ⟨_, rfl⟩
  have hk20 : k ≤ 20 := by omega
  have hmx : max 0 ((least : Int) - ((absB n).size : Int)) = (k : Int) := by omega
  have HR := fun (w2 : World) => Tryz.strings_Repeat ⟨#[48]⟩ k w2 (by omega) (by show 1 * k ≤ _; omega)
  simp only [show (⟨#[48]⟩ : ByteArray).data.toList = [48] from rfl, repeat_zeros] at HR
  have hpad : padT n least = zerosB k ++ absB n := by unfold padT; rw [hk]
  have HPD := Lib.hid hpad
  have hzz := zerosB_size k
  obtain ⟨Z, hZ⟩ : ∃ Z, zerosB k = Z := ⟨_, rfl⟩
  rw [hZ] at HR HPD hzz
  obtain ⟨D, hD⟩ : ∃ D, absB n = D := ⟨_, rfl⟩
  rw [hD] at HO HPD hmx hz
  have hZs : Z.size ≤ 20 := by omega
  have HDg := fun (w2 : World) (h : Saids w2 B A L) (h2 : B ≤ w2.heap.size) h3 => digits_any A L c B loc sy hv hS.n (fun x hx => Nat.le_trans (hS.x x hx) (by decide)) hS.r w2 h h2 h3
  have HSg := fun (w2 : World) (h : Saids w2 B A L) (h2 : B ≤ w2.heap.size) => sign_any sgn_minusSign A L c B loc sy hv hS.n w2 h h2
  have HDr := fun (A2 : Option Addr) (c2 : Nat) (w2 : World) (h : Runs w2 w2.heap.size A2 (digitsV L sy)) => dress_any (padT n least) (digitsV L sy) (digits_len L sy) (digits_le L sy) (padT_dig n least) (by have := padT_size n least h0 h1 hl; omega) A2 c2 w2.heap.size w2 h (Nat.le_refl _)
  rw [HPD.out] at HDr
  clear hpad hk hD hZ hzz
  have HT4 := hT
  unfold srcV at HDg HSg ⊢
  obtain ⟨X, hX⟩ : ∃ X, Value.agg #[.slice A L.length c] = X := ⟨_, rfl⟩
  rw [hX] at HDg HSg ⊢
  clear hX
  obtain ⟨DD, hDD⟩ : ∃ DD, dressT (digitsV L sy) (Z ++ D) = DD := ⟨_, rfl⟩
  have hDs : DD.size ≤ 200 := by
    have := dressT_size (digitsV L sy) (Z ++ D)
    rw [hDD, ByteArray.size_append] at this
    omega
  obtain ⟨SS, hSS⟩ : ∃ SS, signV L loc sy minusB ⟨#[45]⟩ = SS := ⟨_, rfl⟩
  have hSz : SS.size ≤ 10000000000000 := by rw [← hSS]; exact signV_size hS.x (by decide)
  have HW := Lib.hid (wholeV_neg (L := L) (loc := loc) (sy := sy) (least := least) hn0)
  rw [HPD.out, hDD, hSS] at HW
  rw [hDD] at HDr
  rw [hSS] at HSg
  have hne : ¬ n = 0 := by omega
  have hne2 : (n == 0) = false := beq_eq_false_iff_ne.2 hne
  clear hDD hSS HPD
  unfold minusB at HSg
  unfold Digs at HDg
  go_enter Tryz.func11, Tryz.ntmps11
  go_wp2_with (first | (go_at_call 36; refine (HN _).mono ?_; rintro e w1 ⟨rfl, hb1⟩; have B1 := hb1.alloc hb1.size (.cells #[.iface 32 X, .string loc] 71); have hT1 := hT.below B1; have K1 := Blk.new w1 71 #[.iface 32 X, .string loc]) | (go_at_call 18; refine (HO _ hT1.pow).mono ?_; rintro e w2 ⟨rfl, hb2⟩; have B2 := (B1.trans (hb2.mono B1.size)); have K2 := K1.below hb2 K1.lt))
  have hwr : IntKind.i64.wrap ((least : Int) - (D.size : Int)) = (least : Int) - (D.size : Int) := IntWalk.i64_in _ (by omega)
  have hcc : ¬ 9223372036854775807 < Z.size + D.size := by omega
  have KD := Blk.new w2 24 #[.bool true, .string D, .int .i64 0]
  have B3 := B2.alloc B2.size (.cells #[.bool true, .string D, .int .i64 0] 24)
  have K3 := K2.alloc (.cells #[.bool true, .string D, .int .i64 0] 24)
  have z0 := KD.at_ 1 (v := .string D) rfl
  go_region_held3 (fun w' => w'.cell? ⟨w2.heap.size, 1, none⟩ = some (.string D)) (first | (with_reducible exact y10) | (with_reducible exact z0) | go_keep) ((first | (go_at_call 27; refine (HR _).mono ?_; rintro e y1 ⟨rfl, hc1⟩; have y1b := KD.drew.below hc1 (by simp); have y10 := y1b.at_ 1 (v := .string D) rfl)))
  have K4 := K3.drew.below hc1 K3.lt
  have B4 := (blw_drew B3).trans (hc1.mono B3.size)
  have hL4 := hL.below (B4.mono hB)
  have hT4 := hT.below B4
  have hB4 := Nat.le_trans hB B4.size
  have k40 := K4.at_ 0 (v := .iface 32 X) rfl
  have k41 := K4.at_ 1 (v := .string loc) rfl
  clear hc1 KD B3 K3 z0 K2 hb2 B2 K1 hT1 B1 hb1 hwr hcc y10 hmx hne2 HO HR HN
  go_wp2_with (first | (go_at_call 38; refine (HDg _ hL4 hB4 hT4.utf).mono ?_; rintro e w5 ⟨A5, c5, rfl, hr5, hb5⟩; have K5 := K4.below hb5 K4.lt; have D5 := y1b.below hb5 y1b.lt; have B5 := B4.trans (hb5.mono B4.size)) | (go_at_call 37; refine (HDr _ _ _ hr5).mono ?_; rintro e w6 ⟨rfl, hb6⟩; have K6 := K5.below hb6 K5.lt; have D6 := D5.below hb6 D5.lt; have B6 := B5.trans (hb6.mono B5.size); have d60 := D6.at_ 0 (v := .bool true) rfl; have k60 := K6.at_ 0 (v := .iface 32 X) rfl; have k61 := K6.at_ 1 (v := .string loc) rfl; have hL6 := hL.below (B6.mono hB); have hB6 := Nat.le_trans hB B6.size) | (go_at_call 39; refine (HSg _ hL6 hB6).mono ?_; rintro e w7 ⟨rfl, hb7⟩; have B7 := B6.trans (hb7.mono B6.size)))
  refine bodyPost_ret (v := .tuple #[.string (SS ++ DD), .int .i64 0]) ?_ rfl ⟨by rw [HW.out], B7⟩
  simp [results, Tryz.results11, go_sem]
set_option maxRecDepth 100000 in
set_option maxHeartbeats 8000000 in
theorem Whole_pos_s (A : Option Addr) (L : List Sd) (c B : Nat) (loc sy : ByteArray) (hsy : sy.toList.isEmpty = false) (hv : namedB sy = true) (hS : SdOk L) (n : Int) (h0 : -9223372036854775808 ≤ n) (h1 : n ≤ 9223372036854775807) (hn0 : 0 < n) (least : Nat) (hl : least ≤ 20) (w : World) (hL : Saids w B A L) (hB : B ≤ w.heap.size) (hT : Tabs w) :
    Calls Tryz.prog 11 #[srcV A L.length c, .string loc, .string sy, .int .i64 n, .int .i64 (least : Int)] w fun e w' => e = .returned (.tuple #[.string (wholeV L loc sy n least), .int .i64 0]) ∧ Below w.heap.size w w' := by
  have hl1 : ¬ (least : Int) < 0 := by omega
  have hl2 : ¬ (20 : Int) < (least : Int) := by omega
  have HN := named_any sy (by have := named_le hv; omega)
  rw [hv] at HN
  have HO := fun (w2 : World) (h : Pow w2) => Of_any n h0 h1 w2 h
  unfold ofV at HO
  rw [decide_eq_false (show ¬ n < 0 by omega)] at HO
  have hz := absB_size n h0 h1
  obtain ⟨k, hk⟩ : ∃ k, least - (absB n).size = k := ⟨_, rfl⟩
  have hk20 : k ≤ 20 := by omega
  have hmx : max 0 ((least : Int) - ((absB n).size : Int)) = (k : Int) := by omega
  have HR := fun (w2 : World) => Tryz.strings_Repeat ⟨#[48]⟩ k w2 (by omega) (by show 1 * k ≤ _; omega)
  simp only [show (⟨#[48]⟩ : ByteArray).data.toList = [48] from rfl, repeat_zeros] at HR
  have hpad : padT n least = zerosB k ++ absB n := by unfold padT; rw [hk]
  have HPD := Lib.hid hpad
  have hzz := zerosB_size k
  obtain ⟨Z, hZ⟩ : ∃ Z, zerosB k = Z := ⟨_, rfl⟩
  rw [hZ] at HR HPD hzz
  obtain ⟨D, hD⟩ : ∃ D, absB n = D := ⟨_, rfl⟩
  rw [hD] at HO HPD hmx hz
  have hZs : Z.size ≤ 20 := by omega
  have HDg := fun (w2 : World) (h : Saids w2 B A L) (h2 : B ≤ w2.heap.size) h3 => digits_any A L c B loc sy hv hS.n (fun x hx => Nat.le_trans (hS.x x hx) (by decide)) hS.r w2 h h2 h3
  have HSg := fun (w2 : World) (h : Saids w2 B A L) (h2 : B ≤ w2.heap.size) => sign_any sgn_minusSign A L c B loc sy hv hS.n w2 h h2
  have HDr := fun (A2 : Option Addr) (c2 : Nat) (w2 : World) (h : Runs w2 w2.heap.size A2 (digitsV L sy)) => dress_any (padT n least) (digitsV L sy) (digits_len L sy) (digits_le L sy) (padT_dig n least) (by have := padT_size n least h0 h1 hl; omega) A2 c2 w2.heap.size w2 h (Nat.le_refl _)
  rw [HPD.out] at HDr
  clear hpad hk hD hZ hzz
  have HT4 := hT
  unfold srcV at HDg HSg ⊢
  obtain ⟨X, hX⟩ : ∃ X, Value.agg #[.slice A L.length c] = X := ⟨_, rfl⟩
  rw [hX] at HDg HSg ⊢
  clear hX
  obtain ⟨DD, hDD⟩ : ∃ DD, dressT (digitsV L sy) (Z ++ D) = DD := ⟨_, rfl⟩
  have hDs : DD.size ≤ 200 := by
    have := dressT_size (digitsV L sy) (Z ++ D)
    rw [hDD, ByteArray.size_append] at this
    omega
  obtain ⟨SS, hSS⟩ : ∃ SS, signV L loc sy minusB ⟨#[45]⟩ = SS := ⟨_, rfl⟩
  have hSz : SS.size ≤ 10000000000000 := by rw [← hSS]; exact signV_size hS.x (by decide)
  have HW := Lib.hid (wholeV_pos (L := L) (loc := loc) (sy := sy) (least := least) (show ¬ n < 0 by omega))
  rw [HPD.out, hDD] at HW
  rw [hDD] at HDr
  rw [hSS] at HSg
  have hne : ¬ n = 0 := by omega
  have hne2 : (n == 0) = false := beq_eq_false_iff_ne.2 hne
  clear hDD hSS HPD
  unfold minusB at HSg
  unfold Digs at HDg
  go_enter Tryz.func11, Tryz.ntmps11
  go_wp2_with (first | (go_at_call 36; refine (HN _).mono ?_; rintro e w1 ⟨rfl, hb1⟩; have B1 := hb1.alloc hb1.size (.cells #[.iface 32 X, .string loc] 71); have hT1 := hT.below B1; have K1 := Blk.new w1 71 #[.iface 32 X, .string loc]) | (go_at_call 18; refine (HO _ hT1.pow).mono ?_; rintro e w2 ⟨rfl, hb2⟩; have B2 := (B1.trans (hb2.mono B1.size)); have K2 := K1.below hb2 K1.lt))
  have hwr : IntKind.i64.wrap ((least : Int) - (D.size : Int)) = (least : Int) - (D.size : Int) := IntWalk.i64_in _ (by omega)
  have hcc : ¬ 9223372036854775807 < Z.size + D.size := by omega
  have KD := Blk.new w2 24 #[.bool false, .string D, .int .i64 0]
  have B3 := B2.alloc B2.size (.cells #[.bool false, .string D, .int .i64 0] 24)
  have K3 := K2.alloc (.cells #[.bool false, .string D, .int .i64 0] 24)
  have z0 := KD.at_ 1 (v := .string D) rfl
  go_region_held3 (fun w' => w'.cell? ⟨w2.heap.size, 1, none⟩ = some (.string D)) (first | (with_reducible exact y10) | (with_reducible exact z0) | go_keep) ((first | (go_at_call 27; refine (HR _).mono ?_; rintro e y1 ⟨rfl, hc1⟩; have y1b := KD.drew.below hc1 (by simp); have y10 := y1b.at_ 1 (v := .string D) rfl)))
  have K4 := K3.drew.below hc1 K3.lt
  have B4 := (blw_drew B3).trans (hc1.mono B3.size)
  have hL4 := hL.below (B4.mono hB)
  have hT4 := hT.below B4
  have hB4 := Nat.le_trans hB B4.size
  have k40 := K4.at_ 0 (v := .iface 32 X) rfl
  have k41 := K4.at_ 1 (v := .string loc) rfl
  clear hc1 KD B3 K3 z0 K2 hb2 B2 K1 hT1 B1 hb1 hwr hcc y10 hmx hne2 HO HR HN
  go_wp2_with (first | (go_at_call 38; refine (HDg _ hL4 hB4 hT4.utf).mono ?_; rintro e w5 ⟨A5, c5, rfl, hr5, hb5⟩; have K5 := K4.below hb5 K4.lt; have D5 := y1b.below hb5 y1b.lt; have B5 := B4.trans (hb5.mono B4.size)) | (go_at_call 37; refine (HDr _ _ _ hr5).mono ?_; rintro e w6 ⟨rfl, hb6⟩; have K6 := K5.below hb6 K5.lt; have D6 := D5.below hb6 D5.lt; have B6 := B5.trans (hb6.mono B5.size); have d60 := D6.at_ 0 (v := .bool false) rfl; have k60 := K6.at_ 0 (v := .iface 32 X) rfl; have k61 := K6.at_ 1 (v := .string loc) rfl; have hL6 := hL.below (B6.mono hB); have hB6 := Nat.le_trans hB B6.size))
  refine bodyPost_ret (v := .tuple #[.string DD, .int .i64 0]) ?_ rfl ⟨by rw [HW.out], B6⟩
  simp [results, Tryz.results11, go_sem]
set_option maxRecDepth 100000 in
set_option maxHeartbeats 8000000 in
theorem Whole_nul_s (A : Option Addr) (L : List Sd) (c B : Nat) (loc sy : ByteArray) (hsy : sy.toList.isEmpty = false) (hv : namedB sy = true) (hS : SdOk L) (n : Int) (h0 : -9223372036854775808 ≤ n) (h1 : n ≤ 9223372036854775807) (hn0 : n = 0) (least : Nat) (hl : least ≤ 20) (hl0 : ¬ least = 0) (w : World) (hL : Saids w B A L) (hB : B ≤ w.heap.size) (hT : Tabs w) :
    Calls Tryz.prog 11 #[srcV A L.length c, .string loc, .string sy, .int .i64 n, .int .i64 (least : Int)] w fun e w' => e = .returned (.tuple #[.string (wholeV L loc sy n least), .int .i64 0]) ∧ Below w.heap.size w w' := by
  have hl1 : ¬ (least : Int) < 0 := by omega
  have hl2 : ¬ (20 : Int) < (least : Int) := by omega
  have HN := named_any sy (by have := named_le hv; omega)
  rw [hv] at HN
  have HO := fun (w2 : World) (h : Pow w2) => Of_any n h0 h1 w2 h
  unfold ofV at HO
  rw [decide_eq_false (show ¬ n < 0 by omega)] at HO
  have hz := absB_size n h0 h1
  obtain ⟨k, hk⟩ : ∃ k, least - (absB n).size = k := ⟨_, rfl⟩
  have hk20 : k ≤ 20 := by omega
  have hmx : max 0 ((least : Int) - ((absB n).size : Int)) = (k : Int) := by omega
  have HR := fun (w2 : World) => Tryz.strings_Repeat ⟨#[48]⟩ k w2 (by omega) (by show 1 * k ≤ _; omega)
  simp only [show (⟨#[48]⟩ : ByteArray).data.toList = [48] from rfl, repeat_zeros] at HR
  have hpad : padT n least = zerosB k ++ absB n := by unfold padT; rw [hk]
  have HPD := Lib.hid hpad
  have hzz := zerosB_size k
  obtain ⟨Z, hZ⟩ : ∃ Z, zerosB k = Z := ⟨_, rfl⟩
  rw [hZ] at HR HPD hzz
  obtain ⟨D, hD⟩ : ∃ D, absB n = D := ⟨_, rfl⟩
  rw [hD] at HO HPD hmx hz
  have hZs : Z.size ≤ 20 := by omega
  have HDg := fun (w2 : World) (h : Saids w2 B A L) (h2 : B ≤ w2.heap.size) h3 => digits_any A L c B loc sy hv hS.n (fun x hx => Nat.le_trans (hS.x x hx) (by decide)) hS.r w2 h h2 h3
  have HSg := fun (w2 : World) (h : Saids w2 B A L) (h2 : B ≤ w2.heap.size) => sign_any sgn_minusSign A L c B loc sy hv hS.n w2 h h2
  have HDr := fun (A2 : Option Addr) (c2 : Nat) (w2 : World) (h : Runs w2 w2.heap.size A2 (digitsV L sy)) => dress_any (padT n least) (digitsV L sy) (digits_len L sy) (digits_le L sy) (padT_dig n least) (by have := padT_size n least h0 h1 hl; omega) A2 c2 w2.heap.size w2 h (Nat.le_refl _)
  rw [HPD.out] at HDr
  clear hpad hk hD hZ hzz
  have HT4 := hT
  unfold srcV at HDg HSg ⊢
  obtain ⟨X, hX⟩ : ∃ X, Value.agg #[.slice A L.length c] = X := ⟨_, rfl⟩
  rw [hX] at HDg HSg ⊢
  clear hX
  obtain ⟨DD, hDD⟩ : ∃ DD, dressT (digitsV L sy) (Z ++ D) = DD := ⟨_, rfl⟩
  have hDs : DD.size ≤ 200 := by
    have := dressT_size (digitsV L sy) (Z ++ D)
    rw [hDD, ByteArray.size_append] at this
    omega
  obtain ⟨SS, hSS⟩ : ∃ SS, signV L loc sy minusB ⟨#[45]⟩ = SS := ⟨_, rfl⟩
  have hSz : SS.size ≤ 10000000000000 := by rw [← hSS]; exact signV_size hS.x (by decide)
  have HW := Lib.hid (wholeV_pos (L := L) (loc := loc) (sy := sy) (least := least) (show ¬ n < 0 by omega))
  rw [HPD.out, hDD] at HW
  rw [hDD] at HDr
  rw [hSS] at HSg
  have hne : (n == 0) = true := beq_iff_eq.2 hn0
  have hne2 : ((least : Int) == 0) = false := beq_eq_false_iff_ne.2 (by omega)
  have hne3 : ¬ (least : Int) = 0 := by omega
  clear hDD hSS HPD
  unfold minusB at HSg
  unfold Digs at HDg
  clear hn0 hl0
  go_enter Tryz.func11, Tryz.ntmps11
  go_wp2_with (first | (go_at_call 36; refine (HN _).mono ?_; rintro e w1 ⟨rfl, hb1⟩; have B1 := hb1.alloc hb1.size (.cells #[.iface 32 X, .string loc] 71); have hT1 := hT.below B1; have K1 := Blk.new w1 71 #[.iface 32 X, .string loc]) | (go_at_call 18; refine (HO _ hT1.pow).mono ?_; rintro e w2 ⟨rfl, hb2⟩; have B2 := (B1.trans (hb2.mono B1.size)); have K2 := K1.below hb2 K1.lt))
  have hwr : IntKind.i64.wrap ((least : Int) - (D.size : Int)) = (least : Int) - (D.size : Int) := IntWalk.i64_in _ (by omega)
  have hcc : ¬ 9223372036854775807 < Z.size + D.size := by omega
  have KD := Blk.new w2 24 #[.bool false, .string D, .int .i64 0]
  have B3 := B2.alloc B2.size (.cells #[.bool false, .string D, .int .i64 0] 24)
  have K3 := K2.alloc (.cells #[.bool false, .string D, .int .i64 0] 24)
  have z0 := KD.at_ 1 (v := .string D) rfl
  go_region_held3 (fun w' => w'.cell? ⟨w2.heap.size, 1, none⟩ = some (.string D)) (first | (with_reducible exact y10) | (with_reducible exact z0) | go_keep) ((first | (go_at_call 27; refine (HR _).mono ?_; rintro e y1 ⟨rfl, hc1⟩; have y1b := KD.drew.below hc1 (by simp); have y10 := y1b.at_ 1 (v := .string D) rfl)))
  have K4 := K3.drew.below hc1 K3.lt
  have B4 := (blw_drew B3).trans (hc1.mono B3.size)
  have hL4 := hL.below (B4.mono hB)
  have hT4 := hT.below B4
  have hB4 := Nat.le_trans hB B4.size
  have k40 := K4.at_ 0 (v := .iface 32 X) rfl
  have k41 := K4.at_ 1 (v := .string loc) rfl
  clear hc1 KD B3 K3 z0 K2 hb2 B2 K1 hT1 B1 hb1 hwr hcc y10 hmx HO HR HN
  go_wp2_with (first | (go_at_call 38; refine (HDg _ hL4 hB4 hT4.utf).mono ?_; rintro e w5 ⟨A5, c5, rfl, hr5, hb5⟩; have K5 := K4.below hb5 K4.lt; have D5 := y1b.below hb5 y1b.lt; have B5 := B4.trans (hb5.mono B4.size)) | (go_at_call 37; refine (HDr _ _ _ hr5).mono ?_; rintro e w6 ⟨rfl, hb6⟩; have K6 := K5.below hb6 K5.lt; have D6 := D5.below hb6 D5.lt; have B6 := B5.trans (hb6.mono B5.size); have d60 := D6.at_ 0 (v := .bool false) rfl; have k60 := K6.at_ 0 (v := .iface 32 X) rfl; have k61 := K6.at_ 1 (v := .string loc) rfl; have hL6 := hL.below (B6.mono hB); have hB6 := Nat.le_trans hB B6.size))
  refine bodyPost_ret (v := .tuple #[.string DD, .int .i64 0]) ?_ rfl ⟨by rw [HW.out], B6⟩
  simp [results, Tryz.results11, go_sem]
set_option maxRecDepth 100000 in
set_option maxHeartbeats 8000000 in
theorem Whole_neg_e (A : Option Addr) (L : List Sd) (c B : Nat) (loc sy : ByteArray) (hsy : sy = systemV L loc) (hS : SdOk L) (n : Int) (h0 : -9223372036854775808 ≤ n) (h1 : n ≤ 9223372036854775807) (hn0 : n < 0) (least : Nat) (hl : least ≤ 20) (w : World) (hL : Saids w B A L) (hB : B ≤ w.heap.size) (hT : Tabs w) :
    Calls Tryz.prog 11 #[srcV A L.length c, .string loc, .string ⟨#[]⟩, .int .i64 n, .int .i64 (least : Int)] w fun e w' => e = .returned (.tuple #[.string (wholeV L loc sy n least), .int .i64 0]) ∧ Below w.heap.size w w' := by
  have hl1 : ¬ (least : Int) < 0 := by omega
  have hl2 : ¬ (20 : Int) < (least : Int) := by omega
  have hv : namedB sy = true := by rw [hsy]; exact system_named L loc
  have HN := fun (w2 : World) (h : Saids w2 B A L) (h2 : B ≤ w2.heap.size) => system_any A L c B loc hS.n (fun x hx => Nat.le_trans (hS.x x hx) (by decide)) w2 h h2
  rw [← hsy] at HN
  have HO := fun (w2 : World) (h : Pow w2) => Of_any n h0 h1 w2 h
  unfold ofV at HO
  rw [decide_eq_true hn0] at HO
  have hz := absB_size n h0 h1
  obtain ⟨k, hk⟩ : ∃ k, least - (absB n).size = k := ⟨_, rfl⟩
  have hk20 : k ≤ 20 := by omega
  have hmx : max 0 ((least : Int) - ((absB n).size : Int)) = (k : Int) := by omega
  have HR := fun (w2 : World) => Tryz.strings_Repeat ⟨#[48]⟩ k w2 (by omega) (by show 1 * k ≤ _; omega)
  simp only [show (⟨#[48]⟩ : ByteArray).data.toList = [48] from rfl, repeat_zeros] at HR
  have hpad : padT n least = zerosB k ++ absB n := by unfold padT; rw [hk]
  have HPD := Lib.hid hpad
  have hzz := zerosB_size k
  obtain ⟨Z, hZ⟩ : ∃ Z, zerosB k = Z := ⟨_, rfl⟩
  rw [hZ] at HR HPD hzz
  obtain ⟨D, hD⟩ : ∃ D, absB n = D := ⟨_, rfl⟩
  rw [hD] at HO HPD hmx hz
  have hZs : Z.size ≤ 20 := by omega
  have HDg := fun (w2 : World) (h : Saids w2 B A L) (h2 : B ≤ w2.heap.size) h3 => digits_any A L c B loc sy hv hS.n (fun x hx => Nat.le_trans (hS.x x hx) (by decide)) hS.r w2 h h2 h3
  have HSg := fun (w2 : World) (h : Saids w2 B A L) (h2 : B ≤ w2.heap.size) => sign_any sgn_minusSign A L c B loc sy hv hS.n w2 h h2
  have HDr := fun (A2 : Option Addr) (c2 : Nat) (w2 : World) (h : Runs w2 w2.heap.size A2 (digitsV L sy)) => dress_any (padT n least) (digitsV L sy) (digits_len L sy) (digits_le L sy) (padT_dig n least) (by have := padT_size n least h0 h1 hl; omega) A2 c2 w2.heap.size w2 h (Nat.le_refl _)
  rw [HPD.out] at HDr
  clear hpad hk hD hZ hzz
  have HT4 := hT
  unfold srcV at HDg HSg HN ⊢
  obtain ⟨X, hX⟩ : ∃ X, Value.agg #[.slice A L.length c] = X := ⟨_, rfl⟩
  rw [hX] at HDg HSg HN ⊢
  clear hX
  obtain ⟨DD, hDD⟩ : ∃ DD, dressT (digitsV L sy) (Z ++ D) = DD := ⟨_, rfl⟩
  have hDs : DD.size ≤ 200 := by
    have := dressT_size (digitsV L sy) (Z ++ D)
    rw [hDD, ByteArray.size_append] at this
    omega
  obtain ⟨SS, hSS⟩ : ∃ SS, signV L loc sy minusB ⟨#[45]⟩ = SS := ⟨_, rfl⟩
  have hSz : SS.size ≤ 10000000000000 := by rw [← hSS]; exact signV_size hS.x (by decide)
  have HW := Lib.hid (wholeV_neg (L := L) (loc := loc) (sy := sy) (least := least) hn0)
  rw [HPD.out, hDD, hSS] at HW
  rw [hDD] at HDr
  rw [hSS] at HSg
  have hne : ¬ n = 0 := by omega
  have hne2 : (n == 0) = false := beq_eq_false_iff_ne.2 hne
  clear hDD hSS HPD
  unfold minusB at HSg
  unfold Digs at HDg
  have B1 := (Below.refl w.heap.size w).alloc (Nat.le_refl _) (.cells #[.iface 32 X, .string loc] 71)
  have K1 := Blk.new w 71 #[.iface 32 X, .string loc]
  have hL1 := hL.below (B1.mono hB)
  have hB1 := Nat.le_trans hB B1.size
  clear hsy
  go_enter Tryz.func11, Tryz.ntmps11
  go_wp2_with (first | (go_at_call 30; refine (HN _ hL1 hB1).mono ?_; rintro e w1 ⟨rfl, hb1⟩; have Bs := B1.trans (hb1.mono B1.size); have Ks := K1.below hb1 K1.lt; have hTs := hT.below Bs) | (go_at_call 18; refine (HO _ hTs.pow).mono ?_; rintro e w2 ⟨rfl, hb2⟩; have B2 := (Bs.trans (hb2.mono Bs.size)); have K2 := Ks.below hb2 Ks.lt))
  have hwr : IntKind.i64.wrap ((least : Int) - (D.size : Int)) = (least : Int) - (D.size : Int) := IntWalk.i64_in _ (by omega)
  have hcc : ¬ 9223372036854775807 < Z.size + D.size := by omega
  have KD := Blk.new w2 24 #[.bool true, .string D, .int .i64 0]
  have B3 := B2.alloc B2.size (.cells #[.bool true, .string D, .int .i64 0] 24)
  have K3 := K2.alloc (.cells #[.bool true, .string D, .int .i64 0] 24)
  have z0 := KD.at_ 1 (v := .string D) rfl
  go_region_held3 (fun w' => w'.cell? ⟨w2.heap.size, 1, none⟩ = some (.string D)) (first | (with_reducible exact y10) | (with_reducible exact z0) | go_keep) ((first | (go_at_call 27; refine (HR _).mono ?_; rintro e y1 ⟨rfl, hc1⟩; have y1b := KD.drew.below hc1 (by simp); have y10 := y1b.at_ 1 (v := .string D) rfl)))
  have K4 := K3.drew.below hc1 K3.lt
  have B4 := (blw_drew B3).trans (hc1.mono B3.size)
  have hL4 := hL.below (B4.mono hB)
  have hT4 := hT.below B4
  have hB4 := Nat.le_trans hB B4.size
  have k40 := K4.at_ 0 (v := .iface 32 X) rfl
  have k41 := K4.at_ 1 (v := .string loc) rfl
  clear hc1 KD B3 K3 z0 K2 hb2 B2 K1 hTs B1 Bs Ks hL1 hB1 hb1 hwr hcc y10 hmx hne2 HO HR HN
  go_wp2_with (first | (go_at_call 38; refine (HDg _ hL4 hB4 hT4.utf).mono ?_; rintro e w5 ⟨A5, c5, rfl, hr5, hb5⟩; have K5 := K4.below hb5 K4.lt; have D5 := y1b.below hb5 y1b.lt; have B5 := B4.trans (hb5.mono B4.size)) | (go_at_call 37; refine (HDr _ _ _ hr5).mono ?_; rintro e w6 ⟨rfl, hb6⟩; have K6 := K5.below hb6 K5.lt; have D6 := D5.below hb6 D5.lt; have B6 := B5.trans (hb6.mono B5.size); have d60 := D6.at_ 0 (v := .bool true) rfl; have k60 := K6.at_ 0 (v := .iface 32 X) rfl; have k61 := K6.at_ 1 (v := .string loc) rfl; have hL6 := hL.below (B6.mono hB); have hB6 := Nat.le_trans hB B6.size) | (go_at_call 39; refine (HSg _ hL6 hB6).mono ?_; rintro e w7 ⟨rfl, hb7⟩; have B7 := B6.trans (hb7.mono B6.size)))
  refine bodyPost_ret (v := .tuple #[.string (SS ++ DD), .int .i64 0]) ?_ rfl ⟨by rw [HW.out], B7⟩
  simp [results, Tryz.results11, go_sem]
set_option maxRecDepth 100000 in
set_option maxHeartbeats 8000000 in
theorem Whole_pos_e (A : Option Addr) (L : List Sd) (c B : Nat) (loc sy : ByteArray) (hsy : sy = systemV L loc) (hS : SdOk L) (n : Int) (h0 : -9223372036854775808 ≤ n) (h1 : n ≤ 9223372036854775807) (hn0 : 0 < n) (least : Nat) (hl : least ≤ 20) (w : World) (hL : Saids w B A L) (hB : B ≤ w.heap.size) (hT : Tabs w) :
    Calls Tryz.prog 11 #[srcV A L.length c, .string loc, .string ⟨#[]⟩, .int .i64 n, .int .i64 (least : Int)] w fun e w' => e = .returned (.tuple #[.string (wholeV L loc sy n least), .int .i64 0]) ∧ Below w.heap.size w w' := by
  have hl1 : ¬ (least : Int) < 0 := by omega
  have hl2 : ¬ (20 : Int) < (least : Int) := by omega
  have hv : namedB sy = true := by rw [hsy]; exact system_named L loc
  have HN := fun (w2 : World) (h : Saids w2 B A L) (h2 : B ≤ w2.heap.size) => system_any A L c B loc hS.n (fun x hx => Nat.le_trans (hS.x x hx) (by decide)) w2 h h2
  rw [← hsy] at HN
  have HO := fun (w2 : World) (h : Pow w2) => Of_any n h0 h1 w2 h
  unfold ofV at HO
  rw [decide_eq_false (show ¬ n < 0 by omega)] at HO
  have hz := absB_size n h0 h1
  obtain ⟨k, hk⟩ : ∃ k, least - (absB n).size = k := ⟨_, rfl⟩
  have hk20 : k ≤ 20 := by omega
  have hmx : max 0 ((least : Int) - ((absB n).size : Int)) = (k : Int) := by omega
  have HR := fun (w2 : World) => Tryz.strings_Repeat ⟨#[48]⟩ k w2 (by omega) (by show 1 * k ≤ _; omega)
  simp only [show (⟨#[48]⟩ : ByteArray).data.toList = [48] from rfl, repeat_zeros] at HR
  have hpad : padT n least = zerosB k ++ absB n := by unfold padT; rw [hk]
  have HPD := Lib.hid hpad
  have hzz := zerosB_size k
  obtain ⟨Z, hZ⟩ : ∃ Z, zerosB k = Z := ⟨_, rfl⟩
  rw [hZ] at HR HPD hzz
  obtain ⟨D, hD⟩ : ∃ D, absB n = D := ⟨_, rfl⟩
  rw [hD] at HO HPD hmx hz
  have hZs : Z.size ≤ 20 := by omega
  have HDg := fun (w2 : World) (h : Saids w2 B A L) (h2 : B ≤ w2.heap.size) h3 => digits_any A L c B loc sy hv hS.n (fun x hx => Nat.le_trans (hS.x x hx) (by decide)) hS.r w2 h h2 h3
  have HSg := fun (w2 : World) (h : Saids w2 B A L) (h2 : B ≤ w2.heap.size) => sign_any sgn_minusSign A L c B loc sy hv hS.n w2 h h2
  have HDr := fun (A2 : Option Addr) (c2 : Nat) (w2 : World) (h : Runs w2 w2.heap.size A2 (digitsV L sy)) => dress_any (padT n least) (digitsV L sy) (digits_len L sy) (digits_le L sy) (padT_dig n least) (by have := padT_size n least h0 h1 hl; omega) A2 c2 w2.heap.size w2 h (Nat.le_refl _)
  rw [HPD.out] at HDr
  clear hpad hk hD hZ hzz
  have HT4 := hT
  unfold srcV at HDg HSg HN ⊢
  obtain ⟨X, hX⟩ : ∃ X, Value.agg #[.slice A L.length c] = X := ⟨_, rfl⟩
  rw [hX] at HDg HSg HN ⊢
  clear hX
  obtain ⟨DD, hDD⟩ : ∃ DD, dressT (digitsV L sy) (Z ++ D) = DD := ⟨_, rfl⟩
  have hDs : DD.size ≤ 200 := by
    have := dressT_size (digitsV L sy) (Z ++ D)
    rw [hDD, ByteArray.size_append] at this
    omega
  obtain ⟨SS, hSS⟩ : ∃ SS, signV L loc sy minusB ⟨#[45]⟩ = SS := ⟨_, rfl⟩
  have hSz : SS.size ≤ 10000000000000 := by rw [← hSS]; exact signV_size hS.x (by decide)
  have HW := Lib.hid (wholeV_pos (L := L) (loc := loc) (sy := sy) (least := least) (show ¬ n < 0 by omega))
  rw [HPD.out, hDD] at HW
  rw [hDD] at HDr
  rw [hSS] at HSg
  have hne : ¬ n = 0 := by omega
  have hne2 : (n == 0) = false := beq_eq_false_iff_ne.2 hne
  clear hDD hSS HPD
  unfold minusB at HSg
  unfold Digs at HDg
  have B1 := (Below.refl w.heap.size w).alloc (Nat.le_refl _) (.cells #[.iface 32 X, .string loc] 71)
  have K1 := Blk.new w 71 #[.iface 32 X, .string loc]
  have hL1 := hL.below (B1.mono hB)
  have hB1 := Nat.le_trans hB B1.size
  clear hsy
  go_enter Tryz.func11, Tryz.ntmps11
  go_wp2_with (first | (go_at_call 30; refine (HN _ hL1 hB1).mono ?_; rintro e w1 ⟨rfl, hb1⟩; have Bs := B1.trans (hb1.mono B1.size); have Ks := K1.below hb1 K1.lt; have hTs := hT.below Bs) | (go_at_call 18; refine (HO _ hTs.pow).mono ?_; rintro e w2 ⟨rfl, hb2⟩; have B2 := (Bs.trans (hb2.mono Bs.size)); have K2 := Ks.below hb2 Ks.lt))
  have hwr : IntKind.i64.wrap ((least : Int) - (D.size : Int)) = (least : Int) - (D.size : Int) := IntWalk.i64_in _ (by omega)
  have hcc : ¬ 9223372036854775807 < Z.size + D.size := by omega
  have KD := Blk.new w2 24 #[.bool false, .string D, .int .i64 0]
  have B3 := B2.alloc B2.size (.cells #[.bool false, .string D, .int .i64 0] 24)
  have K3 := K2.alloc (.cells #[.bool false, .string D, .int .i64 0] 24)
  have z0 := KD.at_ 1 (v := .string D) rfl
  go_region_held3 (fun w' => w'.cell? ⟨w2.heap.size, 1, none⟩ = some (.string D)) (first | (with_reducible exact y10) | (with_reducible exact z0) | go_keep) ((first | (go_at_call 27; refine (HR _).mono ?_; rintro e y1 ⟨rfl, hc1⟩; have y1b := KD.drew.below hc1 (by simp); have y10 := y1b.at_ 1 (v := .string D) rfl)))
  have K4 := K3.drew.below hc1 K3.lt
  have B4 := (blw_drew B3).trans (hc1.mono B3.size)
  have hL4 := hL.below (B4.mono hB)
  have hT4 := hT.below B4
  have hB4 := Nat.le_trans hB B4.size
  have k40 := K4.at_ 0 (v := .iface 32 X) rfl
  have k41 := K4.at_ 1 (v := .string loc) rfl
  clear hc1 KD B3 K3 z0 K2 hb2 B2 K1 hTs B1 Bs Ks hL1 hB1 hb1 hwr hcc y10 hmx hne2 HO HR HN
  go_wp2_with (first | (go_at_call 38; refine (HDg _ hL4 hB4 hT4.utf).mono ?_; rintro e w5 ⟨A5, c5, rfl, hr5, hb5⟩; have K5 := K4.below hb5 K4.lt; have D5 := y1b.below hb5 y1b.lt; have B5 := B4.trans (hb5.mono B4.size)) | (go_at_call 37; refine (HDr _ _ _ hr5).mono ?_; rintro e w6 ⟨rfl, hb6⟩; have K6 := K5.below hb6 K5.lt; have D6 := D5.below hb6 D5.lt; have B6 := B5.trans (hb6.mono B5.size); have d60 := D6.at_ 0 (v := .bool false) rfl; have k60 := K6.at_ 0 (v := .iface 32 X) rfl; have k61 := K6.at_ 1 (v := .string loc) rfl; have hL6 := hL.below (B6.mono hB); have hB6 := Nat.le_trans hB B6.size))
  refine bodyPost_ret (v := .tuple #[.string DD, .int .i64 0]) ?_ rfl ⟨by rw [HW.out], B6⟩
  simp [results, Tryz.results11, go_sem]
set_option maxRecDepth 100000 in
set_option maxHeartbeats 8000000 in
theorem Whole_nul_e (A : Option Addr) (L : List Sd) (c B : Nat) (loc sy : ByteArray) (hsy : sy = systemV L loc) (hS : SdOk L) (n : Int) (h0 : -9223372036854775808 ≤ n) (h1 : n ≤ 9223372036854775807) (hn0 : n = 0) (least : Nat) (hl : least ≤ 20) (hl0 : ¬ least = 0) (w : World) (hL : Saids w B A L) (hB : B ≤ w.heap.size) (hT : Tabs w) :
    Calls Tryz.prog 11 #[srcV A L.length c, .string loc, .string ⟨#[]⟩, .int .i64 n, .int .i64 (least : Int)] w fun e w' => e = .returned (.tuple #[.string (wholeV L loc sy n least), .int .i64 0]) ∧ Below w.heap.size w w' := by
  have hl1 : ¬ (least : Int) < 0 := by omega
  have hl2 : ¬ (20 : Int) < (least : Int) := by omega
  have hv : namedB sy = true := by rw [hsy]; exact system_named L loc
  have HN := fun (w2 : World) (h : Saids w2 B A L) (h2 : B ≤ w2.heap.size) => system_any A L c B loc hS.n (fun x hx => Nat.le_trans (hS.x x hx) (by decide)) w2 h h2
  rw [← hsy] at HN
  have HO := fun (w2 : World) (h : Pow w2) => Of_any n h0 h1 w2 h
  unfold ofV at HO
  rw [decide_eq_false (show ¬ n < 0 by omega)] at HO
  have hz := absB_size n h0 h1
  obtain ⟨k, hk⟩ : ∃ k, least - (absB n).size = k := ⟨_, rfl⟩
  have hk20 : k ≤ 20 := by omega
  have hmx : max 0 ((least : Int) - ((absB n).size : Int)) = (k : Int) := by omega
  have HR := fun (w2 : World) => Tryz.strings_Repeat ⟨#[48]⟩ k w2 (by omega) (by show 1 * k ≤ _; omega)
  simp only [show (⟨#[48]⟩ : ByteArray).data.toList = [48] from rfl, repeat_zeros] at HR
  have hpad : padT n least = zerosB k ++ absB n := by unfold padT; rw [hk]
  have HPD := Lib.hid hpad
  have hzz := zerosB_size k
  obtain ⟨Z, hZ⟩ : ∃ Z, zerosB k = Z := ⟨_, rfl⟩
  rw [hZ] at HR HPD hzz
  obtain ⟨D, hD⟩ : ∃ D, absB n = D := ⟨_, rfl⟩
  rw [hD] at HO HPD hmx hz
  have hZs : Z.size ≤ 20 := by omega
  have HDg := fun (w2 : World) (h : Saids w2 B A L) (h2 : B ≤ w2.heap.size) h3 => digits_any A L c B loc sy hv hS.n (fun x hx => Nat.le_trans (hS.x x hx) (by decide)) hS.r w2 h h2 h3
  have HSg := fun (w2 : World) (h : Saids w2 B A L) (h2 : B ≤ w2.heap.size) => sign_any sgn_minusSign A L c B loc sy hv hS.n w2 h h2
  have HDr := fun (A2 : Option Addr) (c2 : Nat) (w2 : World) (h : Runs w2 w2.heap.size A2 (digitsV L sy)) => dress_any (padT n least) (digitsV L sy) (digits_len L sy) (digits_le L sy) (padT_dig n least) (by have := padT_size n least h0 h1 hl; omega) A2 c2 w2.heap.size w2 h (Nat.le_refl _)
  rw [HPD.out] at HDr
  clear hpad hk hD hZ hzz
  have HT4 := hT
  unfold srcV at HDg HSg HN ⊢
  obtain ⟨X, hX⟩ : ∃ X, Value.agg #[.slice A L.length c] = X := ⟨_, rfl⟩
  rw [hX] at HDg HSg HN ⊢
  clear hX
  obtain ⟨DD, hDD⟩ : ∃ DD, dressT (digitsV L sy) (Z ++ D) = DD := ⟨_, rfl⟩
  have hDs : DD.size ≤ 200 := by
    have := dressT_size (digitsV L sy) (Z ++ D)
    rw [hDD, ByteArray.size_append] at this
    omega
  obtain ⟨SS, hSS⟩ : ∃ SS, signV L loc sy minusB ⟨#[45]⟩ = SS := ⟨_, rfl⟩
  have hSz : SS.size ≤ 10000000000000 := by rw [← hSS]; exact signV_size hS.x (by decide)
  have HW := Lib.hid (wholeV_pos (L := L) (loc := loc) (sy := sy) (least := least) (show ¬ n < 0 by omega))
  rw [HPD.out, hDD] at HW
  rw [hDD] at HDr
  rw [hSS] at HSg
  have hne : (n == 0) = true := beq_iff_eq.2 hn0
  have hne2 : ((least : Int) == 0) = false := beq_eq_false_iff_ne.2 (by omega)
  have hne3 : ¬ (least : Int) = 0 := by omega
  clear hDD hSS HPD
  unfold minusB at HSg
  unfold Digs at HDg
  have B1 := (Below.refl w.heap.size w).alloc (Nat.le_refl _) (.cells #[.iface 32 X, .string loc] 71)
  have K1 := Blk.new w 71 #[.iface 32 X, .string loc]
  have hL1 := hL.below (B1.mono hB)
  have hB1 := Nat.le_trans hB B1.size
  clear hsy
  clear hn0 hl0
  go_enter Tryz.func11, Tryz.ntmps11
  go_wp2_with (first | (go_at_call 30; refine (HN _ hL1 hB1).mono ?_; rintro e w1 ⟨rfl, hb1⟩; have Bs := B1.trans (hb1.mono B1.size); have Ks := K1.below hb1 K1.lt; have hTs := hT.below Bs) | (go_at_call 18; refine (HO _ hTs.pow).mono ?_; rintro e w2 ⟨rfl, hb2⟩; have B2 := (Bs.trans (hb2.mono Bs.size)); have K2 := Ks.below hb2 Ks.lt))
  have hwr : IntKind.i64.wrap ((least : Int) - (D.size : Int)) = (least : Int) - (D.size : Int) := IntWalk.i64_in _ (by omega)
  have hcc : ¬ 9223372036854775807 < Z.size + D.size := by omega
  have KD := Blk.new w2 24 #[.bool false, .string D, .int .i64 0]
  have B3 := B2.alloc B2.size (.cells #[.bool false, .string D, .int .i64 0] 24)
  have K3 := K2.alloc (.cells #[.bool false, .string D, .int .i64 0] 24)
  have z0 := KD.at_ 1 (v := .string D) rfl
  go_region_held3 (fun w' => w'.cell? ⟨w2.heap.size, 1, none⟩ = some (.string D)) (first | (with_reducible exact y10) | (with_reducible exact z0) | go_keep) ((first | (go_at_call 27; refine (HR _).mono ?_; rintro e y1 ⟨rfl, hc1⟩; have y1b := KD.drew.below hc1 (by simp); have y10 := y1b.at_ 1 (v := .string D) rfl)))
  have K4 := K3.drew.below hc1 K3.lt
  have B4 := (blw_drew B3).trans (hc1.mono B3.size)
  have hL4 := hL.below (B4.mono hB)
  have hT4 := hT.below B4
  have hB4 := Nat.le_trans hB B4.size
  have k40 := K4.at_ 0 (v := .iface 32 X) rfl
  have k41 := K4.at_ 1 (v := .string loc) rfl
  clear hc1 KD B3 K3 z0 K2 hb2 B2 K1 hTs B1 Bs Ks hL1 hB1 hb1 hwr hcc y10 hmx HO HR HN
  go_wp2_with (first | (go_at_call 38; refine (HDg _ hL4 hB4 hT4.utf).mono ?_; rintro e w5 ⟨A5, c5, rfl, hr5, hb5⟩; have K5 := K4.below hb5 K4.lt; have D5 := y1b.below hb5 y1b.lt; have B5 := B4.trans (hb5.mono B4.size)) | (go_at_call 37; refine (HDr _ _ _ hr5).mono ?_; rintro e w6 ⟨rfl, hb6⟩; have K6 := K5.below hb6 K5.lt; have D6 := D5.below hb6 D5.lt; have B6 := B5.trans (hb6.mono B5.size); have d60 := D6.at_ 0 (v := .bool false) rfl; have k60 := K6.at_ 0 (v := .iface 32 X) rfl; have k61 := K6.at_ 1 (v := .string loc) rfl; have hL6 := hL.below (B6.mono hB); have hB6 := Nat.le_trans hB B6.size))
  refine bodyPost_ret (v := .tuple #[.string DD, .int .i64 0]) ?_ rfl ⟨by rw [HW.out], B6⟩
  simp [results, Tryz.results11, go_sem]
end Go.Proofs.YtjmebclcmpfdmaaGreatDoor
namespace Go.Proofs.YtjmebclcmpfdmaaGreatDoor
open Go.RowKit Go.Fl
open Ph
set_option maxRecDepth 100000 in
set_option maxHeartbeats 8000000 in
theorem Whole_zer_s (A : Option Addr) (L : List Sd) (c B : Nat) (loc sy : ByteArray) (hsy : sy.toList.isEmpty = false) (hv : namedB sy = true) (hS : SdOk L) (w : World) (hL : Saids w B A L) (hB : B ≤ w.heap.size) (hT : Tabs w) :
    Calls Tryz.prog 11 #[srcV A L.length c, .string loc, .string sy, .int .i64 0, .int .i64 0] w fun e w' => e = .returned (.tuple #[.string (wholeV L loc sy 0 0), .int .i64 0]) ∧ Below w.heap.size w w' := by
  have HN := named_any sy (by have := named_le hv; omega)
  rw [hv] at HN
  have HO := fun (w2 : World) (h : Pow w2) => Of_any 0 (by decide) (by decide) w2 h
  unfold ofV at HO
  rw [decide_eq_false (show ¬ (0 : Int) < 0 by omega)] at HO
  have hz := absB_size 0 (by decide) (by decide)
  have hz1 := absB_pos 0
  have hmx : max 0 ((0 : Int) - ((absB 0).size : Int)) = 0 := by omega
  have hmx2 : max 0 (-((absB 0).size : Int)) = 0 := by omega
  have HR := fun (w2 : World) => Tryz.strings_Repeat ⟨#[48]⟩ 0 w2 (by decide) (by decide)
  simp only [show (⟨#[48]⟩ : ByteArray).data.toList = [48] from rfl, repeat_zeros, show (((0 : Nat) : Int)) = 0 from rfl] at HR
  have hpad : padT 0 0 = ⟨#[48]⟩ := padT_zero
  have HPD := Lib.hid hpad
  have hzz := zerosB_size 0
  obtain ⟨Z, hZ⟩ : ∃ Z, zerosB 0 = Z := ⟨_, rfl⟩
  rw [hZ] at HR hzz
  obtain ⟨D, hD⟩ : ∃ D, absB 0 = D := ⟨_, rfl⟩
  rw [hD] at HO hmx hmx2 hz hz1
  have hZs : Z.size ≤ 20 := by omega
  have HDg := fun (w2 : World) (h : Saids w2 B A L) (h2 : B ≤ w2.heap.size) h3 => digits_any A L c B loc sy hv hS.n (fun x hx => Nat.le_trans (hS.x x hx) (by decide)) hS.r w2 h h2 h3
  have HSg := fun (w2 : World) (h : Saids w2 B A L) (h2 : B ≤ w2.heap.size) => sign_any sgn_minusSign A L c B loc sy hv hS.n w2 h h2
  have HDr := fun (A2 : Option Addr) (c2 : Nat) (w2 : World) (h : Runs w2 w2.heap.size A2 (digitsV L sy)) => dress_any (padT 0 0) (digitsV L sy) (digits_len L sy) (digits_le L sy) (padT_dig 0 0) (by decide +kernel) A2 c2 w2.heap.size w2 h (Nat.le_refl _)
  rw [HPD.out] at HDr
  clear hpad hD hZ hzz
  have HT4 := hT
  unfold srcV at HDg HSg ⊢
  obtain ⟨X, hX⟩ : ∃ X, Value.agg #[.slice A L.length c] = X := ⟨_, rfl⟩
  rw [hX] at HDg HSg ⊢
  clear hX
  obtain ⟨DD, hDD⟩ : ∃ DD, dressT (digitsV L sy) ⟨#[48]⟩ = DD := ⟨_, rfl⟩
  have hDs : DD.size ≤ 200 := by
    have := dressT_size (digitsV L sy) ⟨#[48]⟩
    rw [hDD] at this
    exact Nat.le_trans this (by decide)
  obtain ⟨SS, hSS⟩ : ∃ SS, signV L loc sy minusB ⟨#[45]⟩ = SS := ⟨_, rfl⟩
  have hSz : SS.size ≤ 10000000000000 := by rw [← hSS]; exact signV_size hS.x (by decide)
  have HW := Lib.hid (wholeV_pos (L := L) (loc := loc) (sy := sy) (n := 0) (least := 0) (by omega))
  rw [HPD.out, hDD] at HW
  rw [hDD] at HDr
  rw [hSS] at HSg
  clear hDD hSS HPD
  unfold minusB at HSg
  unfold Digs at HDg
  go_enter Tryz.func11, Tryz.ntmps11
  go_wp2_with (first | (go_at_call 36; refine (HN _).mono ?_; rintro e w1 ⟨rfl, hb1⟩; have B1 := hb1.alloc hb1.size (.cells #[.iface 32 X, .string loc] 71); have hT1 := hT.below B1; have K1 := Blk.new w1 71 #[.iface 32 X, .string loc]) | (go_at_call 18; refine (HO _ hT1.pow).mono ?_; rintro e w2 ⟨rfl, hb2⟩; have B2 := (B1.trans (hb2.mono B1.size)); have K2 := K1.below hb2 K1.lt))
  have hwr : IntKind.i64.wrap ((0 : Int) - (D.size : Int)) = (0 : Int) - (D.size : Int) := IntWalk.i64_in _ (by omega)
  have hwr2 : IntKind.i64.wrap (-(D.size : Int)) = -(D.size : Int) := IntWalk.i64_in _ (by omega)
  have hcc : ¬ 9223372036854775807 < Z.size + D.size := by omega
  have KD := Blk.new w2 24 #[.bool false, .string D, .int .i64 0]
  have B3 := B2.alloc B2.size (.cells #[.bool false, .string D, .int .i64 0] 24)
  have K3 := K2.alloc (.cells #[.bool false, .string D, .int .i64 0] 24)
  have z0 := KD.at_ 1 (v := .string D) rfl
  go_region_held3 (fun w' => w'.cell? ⟨w2.heap.size, 1, none⟩ = some (.string D)) (first | (with_reducible exact y10) | (with_reducible exact z0) | go_keep) ((first | (go_at_call 27; refine (HR _).mono ?_; rintro e y1 ⟨rfl, hc1⟩; have y1b := KD.drew.below hc1 (by simp); have y10 := y1b.at_ 1 (v := .string D) rfl)))
  have K4 := K3.drew.below hc1 K3.lt
  have B4 := (blw_drew B3).trans (hc1.mono B3.size)
  have hL4 := hL.below (B4.mono hB)
  have hT4 := hT.below B4
  have hB4 := Nat.le_trans hB B4.size
  have k40 := K4.at_ 0 (v := .iface 32 X) rfl
  have k41 := K4.at_ 1 (v := .string loc) rfl
  clear hc1 KD B3 K3 z0 K2 hb2 B2 K1 hT1 B1 hb1 hwr hcc y10 hmx HO HR HN
  go_wp2_with (first | (go_at_call 38; refine (HDg _ hL4 hB4 hT4.utf).mono ?_; rintro e w5 ⟨A5, c5, rfl, hr5, hb5⟩; have K5 := K4.below hb5 K4.lt; have D5 := y1b.below hb5 y1b.lt; have B5 := B4.trans (hb5.mono B4.size)) | (go_at_call 37; refine (HDr _ _ _ hr5).mono ?_; rintro e w6 ⟨rfl, hb6⟩; have K6 := K5.below hb6 K5.lt; have D6 := D5.below hb6 D5.lt; have B6 := B5.trans (hb6.mono B5.size); have d60 := D6.at_ 0 (v := .bool false) rfl; have k60 := K6.at_ 0 (v := .iface 32 X) rfl; have k61 := K6.at_ 1 (v := .string loc) rfl; have hL6 := hL.below (B6.mono hB); have hB6 := Nat.le_trans hB B6.size))
  refine bodyPost_ret (v := .tuple #[.string DD, .int .i64 0]) ?_ rfl ⟨by rw [HW.out], B6⟩
  simp [results, Tryz.results11, go_sem]
set_option maxRecDepth 100000 in
set_option maxHeartbeats 8000000 in
theorem Whole_zer_e (A : Option Addr) (L : List Sd) (c B : Nat) (loc sy : ByteArray) (hsy : sy = systemV L loc) (hS : SdOk L) (w : World) (hL : Saids w B A L) (hB : B ≤ w.heap.size) (hT : Tabs w) :
    Calls Tryz.prog 11 #[srcV A L.length c, .string loc, .string ⟨#[]⟩, .int .i64 0, .int .i64 0] w fun e w' => e = .returned (.tuple #[.string (wholeV L loc sy 0 0), .int .i64 0]) ∧ Below w.heap.size w w' := by
  have hv : namedB sy = true := by rw [hsy]; exact system_named L loc
  have HN := fun (w2 : World) (h : Saids w2 B A L) (h2 : B ≤ w2.heap.size) => system_any A L c B loc hS.n (fun x hx => Nat.le_trans (hS.x x hx) (by decide)) w2 h h2
  rw [← hsy] at HN
  have HO := fun (w2 : World) (h : Pow w2) => Of_any 0 (by decide) (by decide) w2 h
  unfold ofV at HO
  rw [decide_eq_false (show ¬ (0 : Int) < 0 by omega)] at HO
  have hz := absB_size 0 (by decide) (by decide)
  have hz1 := absB_pos 0
  have hmx : max 0 ((0 : Int) - ((absB 0).size : Int)) = 0 := by omega
  have hmx2 : max 0 (-((absB 0).size : Int)) = 0 := by omega
  have HR := fun (w2 : World) => Tryz.strings_Repeat ⟨#[48]⟩ 0 w2 (by decide) (by decide)
  simp only [show (⟨#[48]⟩ : ByteArray).data.toList = [48] from rfl, repeat_zeros, show (((0 : Nat) : Int)) = 0 from rfl] at HR
  have hpad : padT 0 0 = ⟨#[48]⟩ := padT_zero
  have HPD := Lib.hid hpad
  have hzz := zerosB_size 0
  obtain ⟨Z, hZ⟩ : ∃ Z, zerosB 0 = Z := ⟨_, rfl⟩
  rw [hZ] at HR hzz
  obtain ⟨D, hD⟩ : ∃ D, absB 0 = D := ⟨_, rfl⟩
  rw [hD] at HO hmx hmx2 hz hz1
  have hZs : Z.size ≤ 20 := by omega
  have HDg := fun (w2 : World) (h : Saids w2 B A L) (h2 : B ≤ w2.heap.size) h3 => digits_any A L c B loc sy hv hS.n (fun x hx => Nat.le_trans (hS.x x hx) (by decide)) hS.r w2 h h2 h3
  have HSg := fun (w2 : World) (h : Saids w2 B A L) (h2 : B ≤ w2.heap.size) => sign_any sgn_minusSign A L c B loc sy hv hS.n w2 h h2
  have HDr := fun (A2 : Option Addr) (c2 : Nat) (w2 : World) (h : Runs w2 w2.heap.size A2 (digitsV L sy)) => dress_any (padT 0 0) (digitsV L sy) (digits_len L sy) (digits_le L sy) (padT_dig 0 0) (by decide +kernel) A2 c2 w2.heap.size w2 h (Nat.le_refl _)
  rw [HPD.out] at HDr
  clear hpad hD hZ hzz
  have HT4 := hT
  unfold srcV at HDg HSg HN ⊢
  obtain ⟨X, hX⟩ : ∃ X, Value.agg #[.slice A L.length c] = X := ⟨_, rfl⟩
  rw [hX] at HDg HSg HN ⊢
  clear hX
  obtain ⟨DD, hDD⟩ : ∃ DD, dressT (digitsV L sy) ⟨#[48]⟩ = DD := ⟨_, rfl⟩
  have hDs : DD.size ≤ 200 := by
    have := dressT_size (digitsV L sy) ⟨#[48]⟩
    rw [hDD] at this
    exact Nat.le_trans this (by decide)
  obtain ⟨SS, hSS⟩ : ∃ SS, signV L loc sy minusB ⟨#[45]⟩ = SS := ⟨_, rfl⟩
  have hSz : SS.size ≤ 10000000000000 := by rw [← hSS]; exact signV_size hS.x (by decide)
  have HW := Lib.hid (wholeV_pos (L := L) (loc := loc) (sy := sy) (n := 0) (least := 0) (by omega))
  rw [HPD.out, hDD] at HW
  rw [hDD] at HDr
  rw [hSS] at HSg
  clear hDD hSS HPD
  unfold minusB at HSg
  unfold Digs at HDg
  have B1 := (Below.refl w.heap.size w).alloc (Nat.le_refl _) (.cells #[.iface 32 X, .string loc] 71)
  have K1 := Blk.new w 71 #[.iface 32 X, .string loc]
  have hL1 := hL.below (B1.mono hB)
  have hB1 := Nat.le_trans hB B1.size
  clear hsy
  go_enter Tryz.func11, Tryz.ntmps11
  go_wp2_with (first | (go_at_call 30; refine (HN _ hL1 hB1).mono ?_; rintro e w1 ⟨rfl, hb1⟩; have Bs := B1.trans (hb1.mono B1.size); have Ks := K1.below hb1 K1.lt; have hTs := hT.below Bs) | (go_at_call 18; refine (HO _ hTs.pow).mono ?_; rintro e w2 ⟨rfl, hb2⟩; have B2 := (Bs.trans (hb2.mono Bs.size)); have K2 := Ks.below hb2 Ks.lt))
  have hwr : IntKind.i64.wrap ((0 : Int) - (D.size : Int)) = (0 : Int) - (D.size : Int) := IntWalk.i64_in _ (by omega)
  have hwr2 : IntKind.i64.wrap (-(D.size : Int)) = -(D.size : Int) := IntWalk.i64_in _ (by omega)
  have hcc : ¬ 9223372036854775807 < Z.size + D.size := by omega
  have KD := Blk.new w2 24 #[.bool false, .string D, .int .i64 0]
  have B3 := B2.alloc B2.size (.cells #[.bool false, .string D, .int .i64 0] 24)
  have K3 := K2.alloc (.cells #[.bool false, .string D, .int .i64 0] 24)
  have z0 := KD.at_ 1 (v := .string D) rfl
  go_region_held3 (fun w' => w'.cell? ⟨w2.heap.size, 1, none⟩ = some (.string D)) (first | (with_reducible exact y10) | (with_reducible exact z0) | go_keep) ((first | (go_at_call 27; refine (HR _).mono ?_; rintro e y1 ⟨rfl, hc1⟩; have y1b := KD.drew.below hc1 (by simp); have y10 := y1b.at_ 1 (v := .string D) rfl)))
  have K4 := K3.drew.below hc1 K3.lt
  have B4 := (blw_drew B3).trans (hc1.mono B3.size)
  have hL4 := hL.below (B4.mono hB)
  have hT4 := hT.below B4
  have hB4 := Nat.le_trans hB B4.size
  have k40 := K4.at_ 0 (v := .iface 32 X) rfl
  have k41 := K4.at_ 1 (v := .string loc) rfl
  clear hc1 KD B3 K3 z0 K2 hb2 B2 K1 hTs B1 Bs Ks hL1 hB1 hb1 hwr hcc y10 hmx HO HR HN
  go_wp2_with (first | (go_at_call 38; refine (HDg _ hL4 hB4 hT4.utf).mono ?_; rintro e w5 ⟨A5, c5, rfl, hr5, hb5⟩; have K5 := K4.below hb5 K4.lt; have D5 := y1b.below hb5 y1b.lt; have B5 := B4.trans (hb5.mono B4.size)) | (go_at_call 37; refine (HDr _ _ _ hr5).mono ?_; rintro e w6 ⟨rfl, hb6⟩; have K6 := K5.below hb6 K5.lt; have D6 := D5.below hb6 D5.lt; have B6 := B5.trans (hb6.mono B5.size); have d60 := D6.at_ 0 (v := .bool false) rfl; have k60 := K6.at_ 0 (v := .iface 32 X) rfl; have k61 := K6.at_ 1 (v := .string loc) rfl; have hL6 := hL.below (B6.mono hB); have hB6 := Nat.le_trans hB B6.size))
  refine bodyPost_ret (v := .tuple #[.string DD, .int .i64 0]) ?_ rfl ⟨by rw [HW.out], B6⟩
  simp [results, Tryz.results11, go_sem]
end Go.Proofs.YtjmebclcmpfdmaaGreatDoor
