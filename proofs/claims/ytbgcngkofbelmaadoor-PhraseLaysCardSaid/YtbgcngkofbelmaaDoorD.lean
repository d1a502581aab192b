/-
  Contracts of phrase.place and of the reference's number: both tell whether a text is a place's number. Conditions: the text is short enough, the two sentinels of strconv hold interface values.
-/
import Derived.Test.YtbgcngkofbelmaaDoorRows
import Derived.Test.YtbgcngkofbelmaaDoorShelf
import Derived.Test.YtbgcngkofbelmaaDoorUb
import Derived.Test.YtbgcngkofbelmaaDoorUc
import Derived.WalkKit
import Derived.ProofKit
import Derived.Lib.Hide
import Derived.WalkLawsBesides
import Derived.LoopN
import Derived.Lib.UnsafeStr
namespace Go.Proofs.YtbgcngkofbelmaaDoor
open Go.RowKit
open Ph
/-- the two sentinels hold interface values -/
structure Glob (w : World) : Prop where
  g1 : ∃ te pe, w.cell? ⟨1, 0, none⟩ = some (.iface te pe)
  g2 : ∃ te pe, w.cell? ⟨2, 0, none⟩ = some (.iface te pe)
theorem Glob.below {w w1 : World} {B : Nat} (h : Glob w) (hb : Below B w w1) (h1 : 2 < B) : Glob w1 := by
  obtain ⟨⟨t1, p1, e1⟩, ⟨t2, p2, e2⟩⟩ := h
  exact ⟨⟨t1, p1, (hb.cell (p := ⟨1, 0, none⟩) (by show 1 < B; omega)).trans e1⟩, ⟨t2, p2, (hb.cell (p := ⟨2, 0, none⟩) h1).trans e2⟩⟩
theorem Glob.size {w : World} (h : Glob w) : 2 < w.heap.size := by
  obtain ⟨_, ⟨t2, p2, e2⟩⟩ := h
  exact World.block_lt_of_cell? _ _ e2
theorem dec_digits : ∀ n, n < 16 → Lib.decDigits n = digits n := by
  have h : (List.range 16).all (fun n => Lib.decDigits n == digits n) = true := by decide +kernel
  intro n hn
  have := List.all_eq_true.1 h n (by simpa using hn)
  simpa using this
def atoiIs (l : List UInt8) (n : Nat) : Bool := match Lib.atoiAll l with | .ok v => v == (n : Int) | _ => false
theorem atoi_digits : ∀ n, n < 16 → Lib.atoiAll (digits n) = .ok (n : Int) := by
  have h : (List.range 16).all (fun n => atoiIs (digits n) n) = true := by decide +kernel
  intro n hn
  have := List.all_eq_true.1 h n (by simpa using hn)
  unfold atoiIs at this
  split at this
  · rename_i v e; rw [e]; simp at this; rw [this]
  · cases this
theorem below_bytes (w : World) (e : TypeId) (s : ByteArray) : Below w.heap.size w (Lib.bytesWorld w e s) := by
  unfold Lib.bytesWorld
  exact Go.Lib.below_freeze ((blw_drew (Below.refl _ _)).alloc (Nat.le_refl _) _) (Nat.le_refl _) _
theorem atoi_ok (s : ByteArray) (hs : s.size ≤ 281474976710656) (v : Int) (h : Lib.atoiAll s.data.toList = .ok v) (w : World) :
    Calls Tryd.prog 46 #[.string s] w fun e w' => e = .returned (.tuple #[.int .i64 v, .nilIface]) ∧ Below w.heap.size w w' := by
  refine (Tryd.strconv_Atoi_ok s (by omega) v h w).mono ?_
  rintro e w' ⟨h1, h2⟩
  refine ⟨h1, ?_⟩
  rcases h2 with rfl | ⟨t, rfl⟩
  · exact Below.refl _ _
  · exact below_bytes _ _ _
theorem atoi_no (s : ByteArray) (hs : s.size ≤ 281474976710656) (h : ∀ v, Lib.atoiAll s.data.toList ≠ .ok v) (w : World) (hg : Glob w) :
    Calls Tryd.prog 46 #[.string s] w fun e w' => ∃ n N, e = .returned (.tuple #[.int .i64 n, .iface 100 (.pointer (some ⟨N, 0, none⟩))]) ∧ Below w.heap.size w w' := by
  obtain ⟨⟨t1, p1, e1⟩, ⟨t2, p2, e2⟩⟩ := hg
  cases e : Lib.atoiAll s.data.toList with
  | ok v => exact absurd e (h v)
  | _ =>
    first
    | exact (Tryd.strconv_Atoi_range s hs e _ w e2 (Or.inr ⟨_, _, rfl⟩)).mono fun _ _ ⟨N, h1, _, _, h2⟩ => ⟨_, N, h1, h2⟩
    | exact (Any.strconv_Atoi_syntax Tryd.laysC172 s hs e _ w e1 (Or.inr ⟨_, _, rfl⟩)).mono fun _ _ ⟨N, h1, _, _, h2⟩ => ⟨_, N, h1, h2⟩
theorem itoa_small (n : Nat) (h : n < 16) (w : World) :
    Calls Tryd.prog 36 #[.int .i64 n] w fun e w' => e = .returned (.string ⟨(digits n).toArray⟩) ∧ w = w' :=
  (Tryd.strconv_Itoa_small n (by omega) w).mono fun _ _ ⟨h1, h2⟩ => ⟨by rw [h1, dec_digits n h], h2.symm⟩
theorem bytes_of {s : ByteArray} {l : List UInt8} (h : s.data.toList = l) : s = ⟨l.toArray⟩ := by
  subst h; simp
theorem place_yes (s : ByteArray) (m : Nat) (h : placeOf s.data.toList = some m) (w : World) :
    Calls Tryd.prog 32 #[.string s] w fun e w' => e = .returned (.tuple #[.int .i64 m, .bool true]) ∧ Below w.heap.size w w' := by
  obtain ⟨h1, h2⟩ := place_some h
  obtain rfl := bytes_of h2
  have ha := atoi_digits m h1
  have hsz : (⟨(digits m).toArray⟩ : ByteArray).size ≤ 281474976710656 := by
    show (digits m).toArray.size ≤ _
    unfold digits; split <;> simp
  have HA := atoi_ok _ hsz m ha
  have HI := itoa_small m h1
  clear h h2 ha
  go_enter Tryd.func32, Tryd.ntmps32
  go_wp2_with fail
  refine (HA _).mono ?_
  rintro e w1 ⟨rfl, hb⟩
  go_wp2_with fail
  refine (HI _).mono ?_
  rintro e w2 ⟨rfl, rfl⟩
  go_wp2_with fail
  go_ret2
  exact ⟨rfl, hb⟩
def PlaceNo (w : World) (e : Ending) (w' : World) : Prop := ∃ n : Int, e = .returned (.tuple #[.int .i64 n, .bool false]) ∧ Below w.heap.size w w'
theorem place_no (s : ByteArray) (hs : s.size ≤ 281474976710656) (h : placeOf s.data.toList = none) (w : World) (hg : Glob w) :
    Calls Tryd.prog 32 #[.string s] w (PlaceNo w) := by
  by_cases hv : ∃ v, Lib.atoiAll s.data.toList = .ok v
  · obtain ⟨v, hv⟩ := hv
    have HA := atoi_ok s hs v hv
    clear hv
    by_cases v0 : 0 ≤ v
    · by_cases v1 : v < 16
      · obtain ⟨m, rfl⟩ := Int.eq_ofNat_of_zero_le v0
        have hne := place_none h m (by omega)
        have HI := itoa_small m (by omega)
        clear h
        go_enter Tryd.func32, Tryd.ntmps32
        go_wp2_with fail
        refine (HA _).mono ?_
        rintro e w1 ⟨rfl, hb⟩
        go_wp2_with fail
        refine (HI _).mono ?_
        rintro e w2 ⟨rfl, rfl⟩
        go_wp2_with fail
        go_ret2
        have e0 : (digits m == s.toList) = false := beq_eq_false_iff_ne.2 (fun g => hne (by rw [g, ByteArray.toList_eq]))
        exact ⟨m, ret_pair rfl (by rw [← e0]; rfl), hb⟩
      · clear h
        go_enter Tryd.func32, Tryd.ntmps32
        go_wp2_with fail
        refine (HA _).mono ?_
        rintro e w1 ⟨rfl, hb⟩
        go_wp2_with fail
        go_ret2
        exact ⟨v, rfl, hb⟩
    · clear h
      go_enter Tryd.func32, Tryd.ntmps32
      go_wp2_with fail
      refine (HA _).mono ?_
      rintro e w1 ⟨rfl, hb⟩
      go_wp2_with fail
      go_ret2
      exact ⟨v, rfl, hb⟩
  · have HA := fun (w : World) (hg : Glob w) => atoi_no s hs (fun v e => hv ⟨v, e⟩) w hg
    clear hv h
    go_enter Tryd.func32, Tryd.ntmps32
    go_wp2_with fail
    refine (HA _ hg).mono ?_
    rintro e w1 ⟨n, N, rfl, hb⟩
    go_wp2_with fail
    go_ret2
    exact ⟨n, rfl, hb⟩
def numTo (l : List UInt8) : Nat → Int
  | 0 => -1
  | k + 1 => if digits k = l then (k : Int) else numTo l k
theorem numTo_hit {l : List UInt8} {k : Nat} (h : digits k = l) : (k : Int) = numTo l (k + 1) := by rw [numTo, if_pos h]
theorem numTo_miss {l : List UInt8} {k : Nat} (h : ¬ digits k = l) : numTo l k = numTo l (k + 1) := by rw [numTo, if_neg h]
theorem numTo_none {l : List UInt8} : ∀ k, (∀ j, j < k → digits j ≠ l) → numTo l k = -1 := by
  intro k
  induction k with
  | zero => intro _; rfl
  | succ k ih => intro h; rw [numTo, if_neg (h k (by omega)), ih (fun j hj => h j (by omega))]
theorem numTo_some {l : List UInt8} {m : Nat} (h : digits m = l) : ∀ k, k ≤ 16 → m < k → numTo l k = m := by
  intro k
  induction k with
  | zero => intro _ h; omega
  | succ k ih =>
    intro h1 h2
    rw [numTo]
    by_cases e : digits k = l
    · rw [if_pos e, digits_inj k (by omega) m (by omega) (e.trans h.symm)]
    · rw [if_neg e, ih (by omega) (by rcases Nat.lt_or_ge m k with c | c; exact c; exact absurd (by rw [show k = m by omega]; exact h) e)]
def numI (l : List UInt8) : Int := numTo l 16
theorem numI_some {l : List UInt8} {m : Nat} (h : placeOf l = some m) : numI l = m := by
  obtain ⟨a, b⟩ := place_some h
  exact numTo_some b.symm 16 (by omega) a
theorem numI_none {l : List UInt8} (h : placeOf l = none) : numI l = -1 :=
  numTo_none 16 fun j hj e => place_none h j hj e.symm
set_option maxHeartbeats 4000000 in
theorem number_any (s : ByteArray) (w : World) :
    Calls Tryd.prog 29 #[.string s] w fun e w' => e = .returned (.int .i64 (numI s.data.toList)) ∧ w = w' := by
  go_enter Tryd.func29, Tryd.ntmps29
  go_wp2_with fail
  go_loop [3, 4, 5] (fun n i d => ∃ k : Nat, k ≤ 16 ∧ i = .int .i64 k ∧ n = .int .i64 (numTo s.data.toList k)) (fun _ i _ => 16 - (intOf i).toNat)
  case atStart => exact ⟨0, by omega, rfl, rfl⟩
  case round =>
    obtain ⟨k, hk, rfl, rfl⟩ := hrel
    rcases (by omega : k = 16 ∨ k = 0 ∨ k = 1 ∨ k = 2 ∨ k = 3 ∨ k = 4 ∨ k = 5 ∨ k = 6 ∨ k = 7 ∨ k = 8 ∨ k = 9 ∨ k = 10 ∨ k = 11 ∨ k = 12 ∨ k = 13 ∨ k = 14 ∨ k = 15) with rfl | rfl | rfl | rfl | rfl | rfl | rfl | rfl | rfl | rfl | rfl | rfl | rfl | rfl | rfl | rfl | rfl
    · go_wp2_with fail
      go_ret
      exact ⟨rfl, rfl⟩
    · have q : (Utf8.encode 48).toList = digits 0 := by rw [ByteArray.toList_eq]; decide +kernel
      by_cases hd : digits 0 = s.data.toList
      · have q1 : ((Utf8.encode 48).toList == s.toList) = true := by rw [q, ByteArray.toList_eq s, hd]; exact beq_self_eq_true _
        have HD := Lib.hid hd
        clear q hd
        go_wp2_with fail
        all_goals
          go_round
          case rel => exact ⟨1, by omega, rfl, int_eq (numTo_hit HD.out)⟩
          case measure => simp [intOf]
      · have q1 : ((Utf8.encode 48).toList == s.toList) = false := by rw [q, ByteArray.toList_eq s]; exact beq_eq_false_iff_ne.2 hd
        have HD := Lib.hid hd
        clear q hd
        go_wp2_with fail
        all_goals
          go_round
          case rel => exact ⟨1, by omega, rfl, int_eq (numTo_miss HD.out)⟩
          case measure => simp [intOf]
    · have q : (Utf8.encode 49).toList = digits 1 := by rw [ByteArray.toList_eq]; decide +kernel
      by_cases hd : digits 1 = s.data.toList
      · have q1 : ((Utf8.encode 49).toList == s.toList) = true := by rw [q, ByteArray.toList_eq s, hd]; exact beq_self_eq_true _
        have HD := Lib.hid hd
        clear q hd
        go_wp2_with fail
        all_goals
          go_round
          case rel => exact ⟨2, by omega, rfl, int_eq (numTo_hit HD.out)⟩
          case measure => simp [intOf]
      · have q1 : ((Utf8.encode 49).toList == s.toList) = false := by rw [q, ByteArray.toList_eq s]; exact beq_eq_false_iff_ne.2 hd
        have HD := Lib.hid hd
        clear q hd
        go_wp2_with fail
        all_goals
          go_round
          case rel => exact ⟨2, by omega, rfl, int_eq (numTo_miss HD.out)⟩
          case measure => simp [intOf]
    · have q : (Utf8.encode 50).toList = digits 2 := by rw [ByteArray.toList_eq]; decide +kernel
      by_cases hd : digits 2 = s.data.toList
      · have q1 : ((Utf8.encode 50).toList == s.toList) = true := by rw [q, ByteArray.toList_eq s, hd]; exact beq_self_eq_true _
        have HD := Lib.hid hd
        clear q hd
        go_wp2_with fail
        all_goals
          go_round
          case rel => exact ⟨3, by omega, rfl, int_eq (numTo_hit HD.out)⟩
          case measure => simp [intOf]
      · have q1 : ((Utf8.encode 50).toList == s.toList) = false := by rw [q, ByteArray.toList_eq s]; exact beq_eq_false_iff_ne.2 hd
        have HD := Lib.hid hd
        clear q hd
        go_wp2_with fail
        all_goals
          go_round
          case rel => exact ⟨3, by omega, rfl, int_eq (numTo_miss HD.out)⟩
          case measure => simp [intOf]
    · have q : (Utf8.encode 51).toList = digits 3 := by rw [ByteArray.toList_eq]; decide +kernel
      by_cases hd : digits 3 = s.data.toList
      · have q1 : ((Utf8.encode 51).toList == s.toList) = true := by rw [q, ByteArray.toList_eq s, hd]; exact beq_self_eq_true _
        have HD := Lib.hid hd
        clear q hd
        go_wp2_with fail
        all_goals
          go_round
          case rel => exact ⟨4, by omega, rfl, int_eq (numTo_hit HD.out)⟩
          case measure => simp [intOf]
      · have q1 : ((Utf8.encode 51).toList == s.toList) = false := by rw [q, ByteArray.toList_eq s]; exact beq_eq_false_iff_ne.2 hd
        have HD := Lib.hid hd
        clear q hd
        go_wp2_with fail
        all_goals
          go_round
          case rel => exact ⟨4, by omega, rfl, int_eq (numTo_miss HD.out)⟩
          case measure => simp [intOf]
    · have q : (Utf8.encode 52).toList = digits 4 := by rw [ByteArray.toList_eq]; decide +kernel
      by_cases hd : digits 4 = s.data.toList
      · have q1 : ((Utf8.encode 52).toList == s.toList) = true := by rw [q, ByteArray.toList_eq s, hd]; exact beq_self_eq_true _
        have HD := Lib.hid hd
        clear q hd
        go_wp2_with fail
        all_goals
          go_round
          case rel => exact ⟨5, by omega, rfl, int_eq (numTo_hit HD.out)⟩
          case measure => simp [intOf]
      · have q1 : ((Utf8.encode 52).toList == s.toList) = false := by rw [q, ByteArray.toList_eq s]; exact beq_eq_false_iff_ne.2 hd
        have HD := Lib.hid hd
        clear q hd
        go_wp2_with fail
        all_goals
          go_round
          case rel => exact ⟨5, by omega, rfl, int_eq (numTo_miss HD.out)⟩
          case measure => simp [intOf]
    · have q : (Utf8.encode 53).toList = digits 5 := by rw [ByteArray.toList_eq]; decide +kernel
      by_cases hd : digits 5 = s.data.toList
      · have q1 : ((Utf8.encode 53).toList == s.toList) = true := by rw [q, ByteArray.toList_eq s, hd]; exact beq_self_eq_true _
        have HD := Lib.hid hd
        clear q hd
        go_wp2_with fail
        all_goals
          go_round
          case rel => exact ⟨6, by omega, rfl, int_eq (numTo_hit HD.out)⟩
          case measure => simp [intOf]
      · have q1 : ((Utf8.encode 53).toList == s.toList) = false := by rw [q, ByteArray.toList_eq s]; exact beq_eq_false_iff_ne.2 hd
        have HD := Lib.hid hd
        clear q hd
        go_wp2_with fail
        all_goals
          go_round
          case rel => exact ⟨6, by omega, rfl, int_eq (numTo_miss HD.out)⟩
          case measure => simp [intOf]
    · have q : (Utf8.encode 54).toList = digits 6 := by rw [ByteArray.toList_eq]; decide +kernel
      by_cases hd : digits 6 = s.data.toList
      · have q1 : ((Utf8.encode 54).toList == s.toList) = true := by rw [q, ByteArray.toList_eq s, hd]; exact beq_self_eq_true _
        have HD := Lib.hid hd
        clear q hd
        go_wp2_with fail
        all_goals
          go_round
          case rel => exact ⟨7, by omega, rfl, int_eq (numTo_hit HD.out)⟩
          case measure => simp [intOf]
      · have q1 : ((Utf8.encode 54).toList == s.toList) = false := by rw [q, ByteArray.toList_eq s]; exact beq_eq_false_iff_ne.2 hd
        have HD := Lib.hid hd
        clear q hd
        go_wp2_with fail
        all_goals
          go_round
          case rel => exact ⟨7, by omega, rfl, int_eq (numTo_miss HD.out)⟩
          case measure => simp [intOf]
    · have q : (Utf8.encode 55).toList = digits 7 := by rw [ByteArray.toList_eq]; decide +kernel
      by_cases hd : digits 7 = s.data.toList
      · have q1 : ((Utf8.encode 55).toList == s.toList) = true := by rw [q, ByteArray.toList_eq s, hd]; exact beq_self_eq_true _
        have HD := Lib.hid hd
        clear q hd
        go_wp2_with fail
        all_goals
          go_round
          case rel => exact ⟨8, by omega, rfl, int_eq (numTo_hit HD.out)⟩
          case measure => simp [intOf]
      · have q1 : ((Utf8.encode 55).toList == s.toList) = false := by rw [q, ByteArray.toList_eq s]; exact beq_eq_false_iff_ne.2 hd
        have HD := Lib.hid hd
        clear q hd
        go_wp2_with fail
        all_goals
          go_round
          case rel => exact ⟨8, by omega, rfl, int_eq (numTo_miss HD.out)⟩
          case measure => simp [intOf]
    · have q : (Utf8.encode 56).toList = digits 8 := by rw [ByteArray.toList_eq]; decide +kernel
      by_cases hd : digits 8 = s.data.toList
      · have q1 : ((Utf8.encode 56).toList == s.toList) = true := by rw [q, ByteArray.toList_eq s, hd]; exact beq_self_eq_true _
        have HD := Lib.hid hd
        clear q hd
        go_wp2_with fail
        all_goals
          go_round
          case rel => exact ⟨9, by omega, rfl, int_eq (numTo_hit HD.out)⟩
          case measure => simp [intOf]
      · have q1 : ((Utf8.encode 56).toList == s.toList) = false := by rw [q, ByteArray.toList_eq s]; exact beq_eq_false_iff_ne.2 hd
        have HD := Lib.hid hd
        clear q hd
        go_wp2_with fail
        all_goals
          go_round
          case rel => exact ⟨9, by omega, rfl, int_eq (numTo_miss HD.out)⟩
          case measure => simp [intOf]
    · have q : (Utf8.encode 57).toList = digits 9 := by rw [ByteArray.toList_eq]; decide +kernel
      by_cases hd : digits 9 = s.data.toList
      · have q1 : ((Utf8.encode 57).toList == s.toList) = true := by rw [q, ByteArray.toList_eq s, hd]; exact beq_self_eq_true _
        have HD := Lib.hid hd
        clear q hd
        go_wp2_with fail
        all_goals
          go_round
          case rel => exact ⟨10, by omega, rfl, int_eq (numTo_hit HD.out)⟩
          case measure => simp [intOf]
      · have q1 : ((Utf8.encode 57).toList == s.toList) = false := by rw [q, ByteArray.toList_eq s]; exact beq_eq_false_iff_ne.2 hd
        have HD := Lib.hid hd
        clear q hd
        go_wp2_with fail
        all_goals
          go_round
          case rel => exact ⟨10, by omega, rfl, int_eq (numTo_miss HD.out)⟩
          case measure => simp [intOf]
    · have q : (({ data := #[49] } : ByteArray) ++ Utf8.encode 48).toList = digits 10 := by rw [ByteArray.toList_eq]; decide +kernel
      by_cases hd : digits 10 = s.data.toList
      · have q1 : ((({ data := #[49] } : ByteArray) ++ Utf8.encode 48).toList == s.toList) = true := by rw [q, ByteArray.toList_eq s, hd]; exact beq_self_eq_true _
        have HD := Lib.hid hd
        clear q hd
        go_wp2_with fail
        all_goals
          go_round
          case rel => exact ⟨11, by omega, rfl, int_eq (numTo_hit HD.out)⟩
          case measure => simp [intOf]
      · have q1 : ((({ data := #[49] } : ByteArray) ++ Utf8.encode 48).toList == s.toList) = false := by rw [q, ByteArray.toList_eq s]; exact beq_eq_false_iff_ne.2 hd
        have HD := Lib.hid hd
        clear q hd
        go_wp2_with fail
        all_goals
          go_round
          case rel => exact ⟨11, by omega, rfl, int_eq (numTo_miss HD.out)⟩
          case measure => simp [intOf]
    · have q : (({ data := #[49] } : ByteArray) ++ Utf8.encode 49).toList = digits 11 := by rw [ByteArray.toList_eq]; decide +kernel
      by_cases hd : digits 11 = s.data.toList
      · have q1 : ((({ data := #[49] } : ByteArray) ++ Utf8.encode 49).toList == s.toList) = true := by rw [q, ByteArray.toList_eq s, hd]; exact beq_self_eq_true _
        have HD := Lib.hid hd
        clear q hd
        go_wp2_with fail
        all_goals
          go_round
          case rel => exact ⟨12, by omega, rfl, int_eq (numTo_hit HD.out)⟩
          case measure => simp [intOf]
      · have q1 : ((({ data := #[49] } : ByteArray) ++ Utf8.encode 49).toList == s.toList) = false := by rw [q, ByteArray.toList_eq s]; exact beq_eq_false_iff_ne.2 hd
        have HD := Lib.hid hd
        clear q hd
        go_wp2_with fail
        all_goals
          go_round
          case rel => exact ⟨12, by omega, rfl, int_eq (numTo_miss HD.out)⟩
          case measure => simp [intOf]
    · have q : (({ data := #[49] } : ByteArray) ++ Utf8.encode 50).toList = digits 12 := by rw [ByteArray.toList_eq]; decide +kernel
      by_cases hd : digits 12 = s.data.toList
      · have q1 : ((({ data := #[49] } : ByteArray) ++ Utf8.encode 50).toList == s.toList) = true := by rw [q, ByteArray.toList_eq s, hd]; exact beq_self_eq_true _
        have HD := Lib.hid hd
        clear q hd
        go_wp2_with fail
        all_goals
          go_round
          case rel => exact ⟨13, by omega, rfl, int_eq (numTo_hit HD.out)⟩
          case measure => simp [intOf]
      · have q1 : ((({ data := #[49] } : ByteArray) ++ Utf8.encode 50).toList == s.toList) = false := by rw [q, ByteArray.toList_eq s]; exact beq_eq_false_iff_ne.2 hd
        have HD := Lib.hid hd
        clear q hd
        go_wp2_with fail
        all_goals
          go_round
          case rel => exact ⟨13, by omega, rfl, int_eq (numTo_miss HD.out)⟩
          case measure => simp [intOf]
    · have q : (({ data := #[49] } : ByteArray) ++ Utf8.encode 51).toList = digits 13 := by rw [ByteArray.toList_eq]; decide +kernel
      by_cases hd : digits 13 = s.data.toList
      · have q1 : ((({ data := #[49] } : ByteArray) ++ Utf8.encode 51).toList == s.toList) = true := by rw [q, ByteArray.toList_eq s, hd]; exact beq_self_eq_true _
        have HD := Lib.hid hd
        clear q hd
        go_wp2_with fail
        all_goals
          go_round
          case rel => exact ⟨14, by omega, rfl, int_eq (numTo_hit HD.out)⟩
          case measure => simp [intOf]
      · have q1 : ((({ data := #[49] } : ByteArray) ++ Utf8.encode 51).toList == s.toList) = false := by rw [q, ByteArray.toList_eq s]; exact beq_eq_false_iff_ne.2 hd
        have HD := Lib.hid hd
        clear q hd
        go_wp2_with fail
        all_goals
          go_round
          case rel => exact ⟨14, by omega, rfl, int_eq (numTo_miss HD.out)⟩
          case measure => simp [intOf]
    · have q : (({ data := #[49] } : ByteArray) ++ Utf8.encode 52).toList = digits 14 := by rw [ByteArray.toList_eq]; decide +kernel
      by_cases hd : digits 14 = s.data.toList
      · have q1 : ((({ data := #[49] } : ByteArray) ++ Utf8.encode 52).toList == s.toList) = true := by rw [q, ByteArray.toList_eq s, hd]; exact beq_self_eq_true _
        have HD := Lib.hid hd
        clear q hd
        go_wp2_with fail
        all_goals
          go_round
          case rel => exact ⟨15, by omega, rfl, int_eq (numTo_hit HD.out)⟩
          case measure => simp [intOf]
      · have q1 : ((({ data := #[49] } : ByteArray) ++ Utf8.encode 52).toList == s.toList) = false := by rw [q, ByteArray.toList_eq s]; exact beq_eq_false_iff_ne.2 hd
        have HD := Lib.hid hd
        clear q hd
        go_wp2_with fail
        all_goals
          go_round
          case rel => exact ⟨15, by omega, rfl, int_eq (numTo_miss HD.out)⟩
          case measure => simp [intOf]
    · have q : (({ data := #[49] } : ByteArray) ++ Utf8.encode 53).toList = digits 15 := by rw [ByteArray.toList_eq]; decide +kernel
      by_cases hd : digits 15 = s.data.toList
      · have q1 : ((({ data := #[49] } : ByteArray) ++ Utf8.encode 53).toList == s.toList) = true := by rw [q, ByteArray.toList_eq s, hd]; exact beq_self_eq_true _
        have HD := Lib.hid hd
        clear q hd
        go_wp2_with fail
        all_goals
          go_round
          case rel => exact ⟨16, by omega, rfl, int_eq (numTo_hit HD.out)⟩
          case measure => simp [intOf]
      · have q1 : ((({ data := #[49] } : ByteArray) ++ Utf8.encode 53).toList == s.toList) = false := by rw [q, ByteArray.toList_eq s]; exact beq_eq_false_iff_ne.2 hd
        have HD := Lib.hid hd
        clear q hd
        go_wp2_with fail
        all_goals
          go_round
          case rel => exact ⟨16, by omega, rfl, int_eq (numTo_miss HD.out)⟩
          case measure => simp [intOf]
end Go.Proofs.YtbgcngkofbelmaaDoor
