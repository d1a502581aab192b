/-
  ComposeOrder: the law's walk. Conditions: what the listed variables hold; the slices read as what is said, as these texts; sizes.
-/
import Derived.Test.YtpcgcghhddnifaaGreatDoorCl
import Derived.Deep.RegionHeld3
import Derived.Lib.QuietBelow
import Derived.Deep.DeepCutAuto
import Derived.BigQuiet
import Derived.Lib.IndexAny
set_option linter.unusedVariables false
namespace Go.Proofs.YtpcgcghhddnifaaGreatDoor
open Go.RowKit Go.Vx
open Ph
theorem itms_len (n : Nat) : (itms n).length = n := by simp [itms]
theorem itms_get {n i : Nat} (h : i < n) : (itms n)[i]'(by rw [itms_len]; exact h) = itm i := by simp [itms]
theorem itms_take {n : Nat} (h : n ≤ 5) : (itms 5).take n = itms n := by
  unfold itms; rw [← List.map_take, List.take_range]; congr 2; omega
theorem itm_size (i : Nat) : (itm i).size = 3 := rfl
theorem itms_size {n : Nat} : ∀ x ∈ itms n, x.size ≤ 281474976710656 := fun x hx => by
  obtain ⟨i, _, rfl⟩ := List.mem_map.1 hx
  rw [itm_size]; decide
theorem texts5 (w : World) : Texts (w.alloc (.cells #[.string ⟨#[60, 48, 62]⟩, .string ⟨#[60, 49, 62]⟩, .string ⟨#[60, 50, 62]⟩, .string ⟨#[60, 51, 62]⟩, .string ⟨#[60, 52, 62]⟩] 9)) (w.heap.size + 1) (some ⟨w.heap.size, 0, none⟩) (itms 5) := fun _ => ⟨⟨w.heap.size, 0, none⟩, rfl, Nat.lt_succ_self _, fun j hj => by
  have hc := (Blk.new w 9 #[.string ⟨#[60, 48, 62]⟩, .string ⟨#[60, 49, 62]⟩, .string ⟨#[60, 50, 62]⟩, .string ⟨#[60, 51, 62]⟩, .string ⟨#[60, 52, 62]⟩]).cell j
  have he : (⟨w.heap.size, 0, none⟩ : Addr).add j = ⟨w.heap.size, j, none⟩ := by
    unfold Addr.add; split
    · rename_i h; rw [h]
    · simp
  rw [he, hc]
  match j, hj with
  | 0, _ => rfl
  | 1, _ => rfl
  | 2, _ => rfl
  | 3, _ => rfl
  | 4, _ => rfl⟩
theorem texts5n (w : World) {n : Nat} (hn : n ≤ 5) : Texts (w.alloc (.cells #[.string ⟨#[60, 48, 62]⟩, .string ⟨#[60, 49, 62]⟩, .string ⟨#[60, 50, 62]⟩, .string ⟨#[60, 51, 62]⟩, .string ⟨#[60, 52, 62]⟩] 9)) (w.heap.size + 1) (some ⟨w.heap.size, 0, none⟩) (itms n) := itms_take hn ▸ (texts5 w).take n
/-- what ComposeOrder sees after its own marks are laid -/
structure Lq (w : World) (B : Nat) (AA : Option Addr) (xs : List ByteArray) (cc : Nat) (st : ByteArray) (H2 : Nat) (A2 : Option Addr) (L2 : List Sd) (c2 : Nat) (H5 n : Nat) (W : World) : Prop where
  lw : Lw w B AA xs cc st H2 A2 L2 c2 W
  ow : Texts W (H5 + 1) (some ⟨H5, 0, none⟩) (itms n)
  lt : H5 < W.heap.size
section
variable {w : World} {B : Nat} {AA : Option Addr} {xs : List ByteArray} {cc : Nat} {st : ByteArray} {H2 : Nat} {A2 : Option Addr} {L2 : List Sd} {c2 : Nat} {H5 n : Nat} {W W' : World}
theorem Lq.call (h : Lq w B AA xs cc st H2 A2 L2 c2 H5 n W) (hb : Below W.heap.size W W') (hB : B ≤ w.heap.size) : Lq w B AA xs cc st H2 A2 L2 c2 H5 n W' :=
  ⟨h.lw.call hb hB, h.ow.below (hb.mono h.lt), Nat.lt_of_lt_of_le h.lt hb.size⟩
theorem Lq.own_at (h : Lq w B AA xs cc st H2 A2 L2 c2 H5 n W) {i : Nat} (hi : i < n) : W.cell? ⟨H5, i, none⟩ = some (.string (itm i)) := by
  obtain ⟨ad, e, _, hc⟩ := h.ow (by rw [itms_len]; omega)
  cases e
  have := hc i (by rw [itms_len]; exact hi)
  have he : (⟨H5, 0, none⟩ : Addr).add i = ⟨H5, i, none⟩ := by
    unfold Addr.add; split
    · rename_i h; rw [h]
    · simp
  rw [he, itms_get hi] at this
  exact this
end
theorem once_4096 {s : ByteArray} {n : Int} (h : onceT s n = true) : s.size ≤ 4096 := by
  unfold onceT at h
  split at h
  · rename_i he; exact he.choose_spec.1
  · cases h
theorem ltB_not {p : ByteArray} (h : ltB p = false) : (60 : UInt8) ∉ bytesOf p := by
  have := Lib.contains_iff_indexByte (bytesOf p) 60
  unfold ltB at h
  rw [show decide (0 ≤ Lib.indexByte (bytesOf p) 60) = false from h] at this
  simpa using this
theorem Within.index {x s : ByteArray} (h : Within x s) : 0 ≤ Lib.index (bytesOf s) (bytesOf x) := by
  have := h.contains
  unfold Lib.contains at this
  exact of_decide_eq_true this
def Ah (p : ByteArray) : Prop := Lib.index (bytesOf p) [123, 48, 125] < Lib.index (bytesOf p) [123, 49, 125]
set_option maxRecDepth 100000 in
set_option maxHeartbeats 8000000 in
theorem order_yes (A : Option Addr) (L : List Sd) (c B : Nat) (loc : ByteArray) (AA : Option Addr) (xs : List ByteArray) (cc : Nat) (st : ByteArray) (hn : L.length ≤ 281474976710656) (hx : ∀ x ∈ L, x.text.size ≤ 281474976710656) (hxs : ∀ x ∈ xs, x.size ≤ 281474976710656) (hxn : xs.length ≤ 281474976710656) (hcc : xs.length ≤ cc) (hA : AA = none → cc = 0) (hst : st.size ≤ 281474976710656) (w : World) (hg : Glob w) (hgp : GlobP w) (mx : Int) (hmx : w.cell? ⟨0, 0, none⟩ = some (.int .i64 mx)) (hL : Saids w B A L) (hX : Texts w B AA xs) (hB : B ≤ w.heap.size) :
    Calls Tryz.prog 5 #[.slice A L.length c, .string loc, .agg #[.slice AA xs.length cc, .string st]] w fun e w' => e = .returned (.bool true) ∧ Below w.heap.size w w' := by
  have HT := fun (w : World) (hL : Saids w B A L) (hB : B ≤ w.heap.size) => told_any A L c B hn hx w hL hB
  have hb0 := (Below.refl w.heap.size w).alloc (Nat.le_refl _) (.cells #[.slice AA xs.length cc, .string st] 25)
  have hq0 := Blk.new w 25 #[.slice AA xs.length cc, .string st]
  have HW := wakes_any (hg.below hb0 hg.size)
  have hz0 : (w.alloc (.cells #[.slice AA xs.length cc, .string st] 25)).heap.size = w.heap.size + 1 := by simp
  go_enter Tryz.func5, Tryz.ntmps5
  go_wp2_with fail
  refine HW.mono ?_
  rintro e w1 ⟨rfl, hb1⟩
  have B1 := hb0.trans (hb1.mono (by omega))
  have q1 := hq0.below hb1 (by omega)
  clear HW hb0 hq0 hb1 hz0
  have HT1 := HT w1 (hL.below (B1.mono hB)) (Nat.le_trans hB B1.size)
  clear HT
  have z1 := q1.lt
  go_wp2_with fail
  refine HT1.mono ?_
  rintro e w2 ⟨v, rfl, hown, hb2⟩
  obtain ⟨A2, c2, rfl, hS2⟩ := Saids.of_own hown
  have B2 := B1.trans (hb2.mono (by omega))
  have q2 := q1.below hb2 (by omega)
  have z2 := q2.lt
  obtain ⟨L2, hL2⟩ : ∃ l, toldL L = l := ⟨_, rfl⟩
  have hx2 : ∀ x ∈ L2, x.text.size ≤ 281474976710656 := hL2 ▸ toldL_text
  have hn2 : L2.length ≤ 281474976710656 := by rw [← hL2]; have := toldL_len L; omega
  rw [hL2] at hS2 ⊢
  clear hown hL2 HT1 q1 z1 hb2
  have sB := Blk.new w2 28 #[.slice A2 L2.length c2]
  have q3 := q2.alloc (.cells #[.slice A2 L2.length c2] 28)
  have B3 := B2.alloc (by omega) (.cells #[.slice A2 L2.length c2] 28)
  have S3 := hS2.alloc' (.cells #[.slice A2 L2.length c2] 28)
  have z3 : (w2.alloc (.cells #[.slice A2 L2.length c2] 28)).heap.size = w2.heap.size + 1 := by simp
  go_upto_region 4 with fail
  obtain ⟨H2, hH2⟩ : ∃ H, w2.heap.size = H := ⟨_, rfl⟩
  rw [hH2] at sB S3 z3 z2 ⊢
  have hle2 : w.heap.size ≤ H2 := by have := B2.size; omega
  clear hS2 q2 B2 hH2 B1
  have hlw : Lw w B AA xs cc st H2 A2 L2 c2 (w2.alloc (.cells #[.slice A2 L2.length c2] 28)) := ⟨B3, q3, sB, S3, hX.below (B3.mono hB)⟩
  clear sB S3 q3 B3
  have hlt2 : w.heap.size < H2 := z2
  clear z2
  generalize w2.alloc (.cells #[.slice A2 L2.length c2] 28) = w4 at *
  obtain ⟨n, hn5⟩ : ∃ n : Nat, n = min xs.length 5 := ⟨_, rfl⟩
  have hm1 : min (xs.length : Int) 5 = (n : Int) := by omega
  have hm2 : n ≤ 5 := by omega
  have hm3 : (n : Int) ≤ 5 := by omega
  have Z3 := Lib.hid z3
  clear hn5 z3
  have hlq5 : Lq w B AA xs cc st H2 A2 L2 c2 w4.heap.size n (w4.alloc (.cells #[.string ⟨#[60, 48, 62]⟩, .string ⟨#[60, 49, 62]⟩, .string ⟨#[60, 50, 62]⟩, .string ⟨#[60, 51, 62]⟩, .string ⟨#[60, 52, 62]⟩] 9)) := ⟨hlw.alloc hB _, texts5n w4 hm2, by simp⟩
  have d0 := hlq5.lw.bq.at_ 0 (v := .slice AA xs.length cc) rfl
  go_upto_region 5 with fail
  generalize w4.alloc (.cells #[.string ⟨#[60, 48, 62]⟩, .string ⟨#[60, 49, 62]⟩, .string ⟨#[60, 50, 62]⟩, .string ⟨#[60, 51, 62]⟩, .string ⟨#[60, 52, 62]⟩] 9) = w5 at *
  generalize w4.heap.size = H5 at *
  clear d0 hlw
  have d1 := hlq5.lw.bq.at_ 1 (v := .string st) rfl
  have d2 := hlq5.lw.bs.at_ 0 (v := .slice A2 L2.length c2) rfl
  have HLi := list_any A2 L2 c2 w5.heap.size loc st (some ⟨H5, 0, none⟩) (itms n) 5 hst (by rw [itms_len]; exact hm2) itms_size hn2 hx2 w5 (hgp.below hlq5.lw.bw hgp.size) (hlq5.lw.sd.more (Nat.le_of_lt hlq5.lw.bs.lt)) (hlq5.ow.more hlq5.lt) (Nat.le_refl _)
  rw [itms_len] at HLi
  obtain ⟨⟨r1, r2⟩, hr⟩ : ∃ q, listV L2 loc st (itms n) = q := ⟨_, rfl⟩
  rw [hr] at HLi
  dsimp only at HLi
  unfold srcV at HLi
  have HR := Lib.hid hr
  clear hr
  by_cases he : r2 = 0
  · subst he
    have hr := HR.out
    obtain ⟨hnm, hlen, hu, hll⟩ := listV_ok hr
    unfold listL at hll
    have hho := listP_holds (xs := itms n) (two := partT L2 loc st tTwo) (st := partT L2 loc st tSta) (mid := partT L2 loc st tMid) (ed := partT L2 loc st tEnd) (partT_once _ _ _ _) (partT_once _ _ _ _) (partT_once _ _ _ _) (partT_once _ _ _ _) (by rw [hll])
    have hle := listP_size (xs := itms n) hll
    have hris := fun h1 h2 h3 h4 => listP_rise (two := partT L2 loc st tTwo) (st := partT L2 loc st tSta) (mid := partT L2 loc st tMid) (ed := partT L2 loc st tEnd) n hm2 h1 h2 h3 h4 (by rw [hll])
    rw [hll] at hho hris
    dsimp only at hho hris
    obtain ⟨hw1, hw2⟩ := hho
    rw [itms_len] at hw1
    have hge : ∀ j, j < n → 0 ≤ Lib.index (bytesOf r1) (bytesOf (itm j)) := fun j hj => by have := (hw1 j hj).index; rwa [getT_itms hj] at this
    have HGE := Lib.hid hge
    have HRIS := Lib.hid hris
    clear hr hll hw1 hw2 hu HR hlen hris hge
    have h0w : 0 < w.heap.size := by have := hg.size; omega
    have hm0 : ∀ W, Below w.heap.size w W → W.cell? ⟨0, 0, none⟩ = some (.int .i64 mx) := fun W h => (h.cell (p := ⟨0, 0, none⟩) h0w).trans hmx
    have hs4 := name_size hnm
    have HLy := fun (nm : ByteArray) (h2 : nm.size ≤ 4096) (hp : isPartB nm = true) W (h : Lq w B AA xs cc st H2 A2 L2 c2 H5 n W) => listPart_yes A2 L2.length c2 loc st nm _ hnm hst hp W (part_any A2 L2 c2 H2 loc st nm hs4 h2 hn2 hx2 W (hgp.below h.lw.bw hgp.size) h.lw.sd (Nat.le_of_lt h.lw.bs.lt))
    have HCl := fun W (h : Lq w B AA xs cc st H2 A2 L2 c2 H5 n W) => clash_any A2 L2 c2 H2 loc st hnm hst hn2 hx2 W (hgp.below h.lw.bw hgp.size) h.lw.sd (Nat.le_of_lt h.lw.bs.lt)
    unfold srcV at HLy
    have HI0 := idx40
    have HI1 := idx41
    have HI2 := idx42
    have HI3 := idx43
    unfold n4 at HI0 HI1 HI2 HI3
    go_wp2_with (go_at_call 10; refine HLi.mono ?_; rintro e w6 ⟨rfl, hb6⟩; have hlq6 := hlq5.call hb6 hB)
    clear d1 d2
    go_loopw [44, 11] (fun u v wr => ∃ (i : Nat) (a : Bool), u = .int .i64 i ∧ v = .bool a ∧ i ≤ 4 ∧ Lq w B AA xs cc st H2 A2 L2 c2 H5 n wr ∧ (a = true → (0 < i → Ah (partT L2 loc st tTwo)) ∧ (1 < i → Ah (partT L2 loc st tSta)) ∧ (2 < i → Ah (partT L2 loc st tMid)) ∧ (3 < i → Ah (partT L2 loc st tEnd)))) (fun u _ _ => 4 - (intOf u).toNat)
    case atStart => exact ⟨0, true, rfl, rfl, by omega, hlq6, fun _ => ⟨fun h => absurd h (by omega), fun h => absurd h (by omega), fun h => absurd h (by omega), fun h => absurd h (by omega)⟩⟩
    case round =>
      clear hlq6 hlq5 HLi hb6
      obtain ⟨i, a, rfl, rfl, hi, hl, hah⟩ := hrel
      have s0 := hl.lw.bs.at_ 0 (v := .slice A2 L2.length c2) rfl
      have q0 := hl.lw.bq.at_ 1 (v := .string st) rfl
      rcases (show i = 0 ∨ i = 1 ∨ i = 2 ∨ i = 3 ∨ i = 4 by omega) with rfl | rfl | rfl | rfl | rfl
      case inl =>
        have HP := HLy ⟨#[50]⟩ (by decide) (by kernel_rfl) wr hl
        have hpe : partT L2 loc st ⟨#[50]⟩ = partT L2 loc st tTwo := rfl
        rw [hpe] at HP
        have hp9 := once_4096 (partT_once L2 loc st tTwo)
        obtain ⟨x0, hx0⟩ : ∃ x, Lib.index (bytesOf (partT L2 loc st tTwo)) [123, 48, 125] = x := ⟨_, rfl⟩
        obtain ⟨x1, hx1⟩ : ∃ x, Lib.index (bytesOf (partT L2 loc st tTwo)) [123, 49, 125] = x := ⟨_, rfl⟩
        have HX0 : ∀ W, Below w.heap.size w W → Calls Tryz.prog 18 #[.string (partT L2 loc st tTwo), .string ⟨#[123, 48, 125]⟩] W fun e w' => e = .returned (.int .i64 x0) ∧ w' = W := fun W h => hx0 ▸ Tryz.strings_Index (partT L2 loc st tTwo) ⟨#[123, 48, 125]⟩ mx W (by omega) (hm0 W h)
        have HX1 : ∀ W, Below w.heap.size w W → Calls Tryz.prog 18 #[.string (partT L2 loc st tTwo), .string ⟨#[123, 49, 125]⟩] W fun e w' => e = .returned (.int .i64 x1) ∧ w' = W := fun W h => hx1 ▸ Tryz.strings_Index (partT L2 loc st tTwo) ⟨#[123, 49, 125]⟩ mx W (by omega) (hm0 W h)
        have hAk : decide (x0 < x1) = true → Ah (partT L2 loc st tTwo) := fun h => by unfold Ah; rw [hx0, hx1]; exact of_decide_eq_true h
        clear HLy hm0 hpe hx0 hx1
        clear hp9
        generalize hpp : (partT L2 loc st tTwo) = p at HP HX0 HX1 hAk
        clear hpp
        have HAK := Lib.hid hAk
        clear hAk
        cases a with
        | false =>
          clear hah
          go_wp2_with (go_at_call 13; refine HP.mono ?_; rintro e w6 ⟨rfl, hb6⟩; have hl6 := hl.call hb6 hB; have q6 := hl6.lw.bq.at_ 1 (v := .string st) rfl)
          go_roundw
          case rel => exact ⟨1, false, rfl, rfl, by omega, hl6, fun h => by cases h⟩
          case measure => simp [intOf]
        | true =>
          have ha := hah rfl
          have HA := Lib.hid ha
          clear ha hah
          go_wp2_with (first | (go_at_call 13; refine HP.mono ?_; rintro e w6 ⟨rfl, hb6⟩; have hl6 := hl.call hb6 hB; have q6 := hl6.lw.bq.at_ 1 (v := .string st) rfl) | (go_at_call 18; with_reducible refine (HX0 _ hl6.lw.bw).mono ?_; rintro e w7 ⟨rfl, rfl⟩) | (go_at_call 18; with_reducible refine (HX1 _ hl6.lw.bw).mono ?_; rintro e w8 ⟨rfl, rfl⟩))
          have hAk := HAK.out
          go_roundw
          case rel => exact ⟨1, decide (x0 < x1), rfl, rfl, by omega, hl6, fun h => ⟨fun _ => hAk h, fun h => absurd h (by omega), fun h => absurd h (by omega), fun h => absurd h (by omega)⟩⟩
          case measure => simp [intOf]
      case inr.inl =>
        have HP := HLy ⟨#[115, 116, 97, 114, 116]⟩ (by decide) (by kernel_rfl) wr hl
        have hpe : partT L2 loc st ⟨#[115, 116, 97, 114, 116]⟩ = partT L2 loc st tSta := rfl
        rw [hpe] at HP
        have hp9 := once_4096 (partT_once L2 loc st tSta)
        obtain ⟨x0, hx0⟩ : ∃ x, Lib.index (bytesOf (partT L2 loc st tSta)) [123, 48, 125] = x := ⟨_, rfl⟩
        obtain ⟨x1, hx1⟩ : ∃ x, Lib.index (bytesOf (partT L2 loc st tSta)) [123, 49, 125] = x := ⟨_, rfl⟩
        have HX0 : ∀ W, Below w.heap.size w W → Calls Tryz.prog 18 #[.string (partT L2 loc st tSta), .string ⟨#[123, 48, 125]⟩] W fun e w' => e = .returned (.int .i64 x0) ∧ w' = W := fun W h => hx0 ▸ Tryz.strings_Index (partT L2 loc st tSta) ⟨#[123, 48, 125]⟩ mx W (by omega) (hm0 W h)
        have HX1 : ∀ W, Below w.heap.size w W → Calls Tryz.prog 18 #[.string (partT L2 loc st tSta), .string ⟨#[123, 49, 125]⟩] W fun e w' => e = .returned (.int .i64 x1) ∧ w' = W := fun W h => hx1 ▸ Tryz.strings_Index (partT L2 loc st tSta) ⟨#[123, 49, 125]⟩ mx W (by omega) (hm0 W h)
        have hAk : decide (x0 < x1) = true → Ah (partT L2 loc st tSta) := fun h => by unfold Ah; rw [hx0, hx1]; exact of_decide_eq_true h
        clear HLy hm0 hpe hx0 hx1
        clear hp9
        generalize hpp : (partT L2 loc st tSta) = p at HP HX0 HX1 hAk
        clear hpp
        have HAK := Lib.hid hAk
        clear hAk
        cases a with
        | false =>
          clear hah
          go_wp2_with (go_at_call 13; refine HP.mono ?_; rintro e w6 ⟨rfl, hb6⟩; have hl6 := hl.call hb6 hB; have q6 := hl6.lw.bq.at_ 1 (v := .string st) rfl)
          go_roundw
          case rel => exact ⟨2, false, rfl, rfl, by omega, hl6, fun h => by cases h⟩
          case measure => simp [intOf]
        | true =>
          have ha := hah rfl
          have HA := Lib.hid ha
          clear ha hah
          go_wp2_with (first | (go_at_call 13; refine HP.mono ?_; rintro e w6 ⟨rfl, hb6⟩; have hl6 := hl.call hb6 hB; have q6 := hl6.lw.bq.at_ 1 (v := .string st) rfl) | (go_at_call 18; with_reducible refine (HX0 _ hl6.lw.bw).mono ?_; rintro e w7 ⟨rfl, rfl⟩) | (go_at_call 18; with_reducible refine (HX1 _ hl6.lw.bw).mono ?_; rintro e w8 ⟨rfl, rfl⟩))
          have hAk := HAK.out
          go_roundw
          case rel => exact ⟨2, decide (x0 < x1), rfl, rfl, by omega, hl6, fun h => ⟨fun _ => HA.out.1 (by omega), fun _ => hAk h, fun h => absurd h (by omega), fun h => absurd h (by omega)⟩⟩
          case measure => simp [intOf]
      case inr.inr.inl =>
        have HP := HLy ⟨#[109, 105, 100, 100, 108, 101]⟩ (by decide) (by kernel_rfl) wr hl
        have hpe : partT L2 loc st ⟨#[109, 105, 100, 100, 108, 101]⟩ = partT L2 loc st tMid := rfl
        rw [hpe] at HP
        have hp9 := once_4096 (partT_once L2 loc st tMid)
        obtain ⟨x0, hx0⟩ : ∃ x, Lib.index (bytesOf (partT L2 loc st tMid)) [123, 48, 125] = x := ⟨_, rfl⟩
        obtain ⟨x1, hx1⟩ : ∃ x, Lib.index (bytesOf (partT L2 loc st tMid)) [123, 49, 125] = x := ⟨_, rfl⟩
        have HX0 : ∀ W, Below w.heap.size w W → Calls Tryz.prog 18 #[.string (partT L2 loc st tMid), .string ⟨#[123, 48, 125]⟩] W fun e w' => e = .returned (.int .i64 x0) ∧ w' = W := fun W h => hx0 ▸ Tryz.strings_Index (partT L2 loc st tMid) ⟨#[123, 48, 125]⟩ mx W (by omega) (hm0 W h)
        have HX1 : ∀ W, Below w.heap.size w W → Calls Tryz.prog 18 #[.string (partT L2 loc st tMid), .string ⟨#[123, 49, 125]⟩] W fun e w' => e = .returned (.int .i64 x1) ∧ w' = W := fun W h => hx1 ▸ Tryz.strings_Index (partT L2 loc st tMid) ⟨#[123, 49, 125]⟩ mx W (by omega) (hm0 W h)
        have hAk : decide (x0 < x1) = true → Ah (partT L2 loc st tMid) := fun h => by unfold Ah; rw [hx0, hx1]; exact of_decide_eq_true h
        clear HLy hm0 hpe hx0 hx1
        clear hp9
        generalize hpp : (partT L2 loc st tMid) = p at HP HX0 HX1 hAk
        clear hpp
        have HAK := Lib.hid hAk
        clear hAk
        cases a with
        | false =>
          clear hah
          go_wp2_with (go_at_call 13; refine HP.mono ?_; rintro e w6 ⟨rfl, hb6⟩; have hl6 := hl.call hb6 hB; have q6 := hl6.lw.bq.at_ 1 (v := .string st) rfl)
          go_roundw
          case rel => exact ⟨3, false, rfl, rfl, by omega, hl6, fun h => by cases h⟩
          case measure => simp [intOf]
        | true =>
          have ha := hah rfl
          have HA := Lib.hid ha
          clear ha hah
          go_wp2_with (first | (go_at_call 13; refine HP.mono ?_; rintro e w6 ⟨rfl, hb6⟩; have hl6 := hl.call hb6 hB; have q6 := hl6.lw.bq.at_ 1 (v := .string st) rfl) | (go_at_call 18; with_reducible refine (HX0 _ hl6.lw.bw).mono ?_; rintro e w7 ⟨rfl, rfl⟩) | (go_at_call 18; with_reducible refine (HX1 _ hl6.lw.bw).mono ?_; rintro e w8 ⟨rfl, rfl⟩))
          have hAk := HAK.out
          go_roundw
          case rel => exact ⟨3, decide (x0 < x1), rfl, rfl, by omega, hl6, fun h => ⟨fun _ => HA.out.1 (by omega), fun _ => HA.out.2.1 (by omega), fun _ => hAk h, fun h => absurd h (by omega)⟩⟩
          case measure => simp [intOf]
      case inr.inr.inr.inl =>
        have HP := HLy ⟨#[101, 110, 100]⟩ (by decide) (by kernel_rfl) wr hl
        have hpe : partT L2 loc st ⟨#[101, 110, 100]⟩ = partT L2 loc st tEnd := rfl
        rw [hpe] at HP
        have hp9 := once_4096 (partT_once L2 loc st tEnd)
        obtain ⟨x0, hx0⟩ : ∃ x, Lib.index (bytesOf (partT L2 loc st tEnd)) [123, 48, 125] = x := ⟨_, rfl⟩
        obtain ⟨x1, hx1⟩ : ∃ x, Lib.index (bytesOf (partT L2 loc st tEnd)) [123, 49, 125] = x := ⟨_, rfl⟩
        have HX0 : ∀ W, Below w.heap.size w W → Calls Tryz.prog 18 #[.string (partT L2 loc st tEnd), .string ⟨#[123, 48, 125]⟩] W fun e w' => e = .returned (.int .i64 x0) ∧ w' = W := fun W h => hx0 ▸ Tryz.strings_Index (partT L2 loc st tEnd) ⟨#[123, 48, 125]⟩ mx W (by omega) (hm0 W h)
        have HX1 : ∀ W, Below w.heap.size w W → Calls Tryz.prog 18 #[.string (partT L2 loc st tEnd), .string ⟨#[123, 49, 125]⟩] W fun e w' => e = .returned (.int .i64 x1) ∧ w' = W := fun W h => hx1 ▸ Tryz.strings_Index (partT L2 loc st tEnd) ⟨#[123, 49, 125]⟩ mx W (by omega) (hm0 W h)
        have hAk : decide (x0 < x1) = true → Ah (partT L2 loc st tEnd) := fun h => by unfold Ah; rw [hx0, hx1]; exact of_decide_eq_true h
        clear HLy hm0 hpe hx0 hx1
        clear hp9
        generalize hpp : (partT L2 loc st tEnd) = p at HP HX0 HX1 hAk
        clear hpp
        have HAK := Lib.hid hAk
        clear hAk
        cases a with
        | false =>
          clear hah
          go_wp2_with (go_at_call 13; refine HP.mono ?_; rintro e w6 ⟨rfl, hb6⟩; have hl6 := hl.call hb6 hB; have q6 := hl6.lw.bq.at_ 1 (v := .string st) rfl)
          go_roundw
          case rel => exact ⟨4, false, rfl, rfl, by omega, hl6, fun h => by cases h⟩
          case measure => simp [intOf]
        | true =>
          have ha := hah rfl
          have HA := Lib.hid ha
          clear ha hah
          go_wp2_with (first | (go_at_call 13; refine HP.mono ?_; rintro e w6 ⟨rfl, hb6⟩; have hl6 := hl.call hb6 hB; have q6 := hl6.lw.bq.at_ 1 (v := .string st) rfl) | (go_at_call 18; with_reducible refine (HX0 _ hl6.lw.bw).mono ?_; rintro e w7 ⟨rfl, rfl⟩) | (go_at_call 18; with_reducible refine (HX1 _ hl6.lw.bw).mono ?_; rintro e w8 ⟨rfl, rfl⟩))
          have hAk := HAK.out
          go_roundw
          case rel => exact ⟨4, decide (x0 < x1), rfl, rfl, by omega, hl6, fun h => ⟨fun _ => HA.out.1 (by omega), fun _ => HA.out.2.1 (by omega), fun _ => HA.out.2.2.1 (by omega), fun _ => hAk h⟩⟩
          case measure => simp [intOf]
      case inr.inr.inr.inr =>
        have HC1 := HCl wr hl
        have HAH := Lib.hid hah
        clear HLy hi hah HCl
        have hcl : clashB L2 loc st = (ltB (partT L2 loc st tTwo) || ltB (partT L2 loc st tSta) || ltB (partT L2 loc st tMid) || ltB (partT L2 loc st tEnd)) := rfl
        have HCL := Lib.hid hcl
        clear hcl
        generalize clashB L2 loc st = cl at *
        cases cl with
        | true =>
          clear HCL HAH
          go_wp2_with (go_at_call 19; refine HC1.mono ?_; rintro e w7 ⟨rfl, hb7⟩)
          refine bodyPost_ret (v := .bool true) ?_ rfl ⟨rfl, hl.lw.bw.trans (hb7.mono hl.lw.bw.size)⟩
          simp [results, Tryz.results5, go_sem]
        | false =>
          have hcl := HCL.out
          have hf4 : ltB (partT L2 loc st tTwo) = false ∧ ltB (partT L2 loc st tSta) = false ∧ ltB (partT L2 loc st tMid) = false ∧ ltB (partT L2 loc st tEnd) = false := by
            cases g1 : ltB (partT L2 loc st tTwo) <;> cases g2 : ltB (partT L2 loc st tSta) <;> cases g3 : ltB (partT L2 loc st tMid) <;> cases g4 : ltB (partT L2 loc st tEnd) <;> simp [g1, g2, g3, g4] at hcl ⊢
          obtain ⟨f1, f2, f3, f4⟩ := hf4
          have hrise : a = true → ∀ i j, i < j → j < n → Lib.index (bytesOf r1) (bytesOf (itm i)) < Lib.index (bytesOf r1) (bytesOf (itm j)) := fun h => by
            obtain ⟨a1, a2, a3, a4⟩ := HAH.out h
            exact HRIS.out ⟨partT_once _ _ _ _, ltB_not f1, a1 (by omega)⟩ ⟨partT_once _ _ _ _, ltB_not f2, a2 (by omega)⟩ ⟨partT_once _ _ _ _, ltB_not f4, a4 (by omega)⟩ ⟨partT_once _ _ _ _, ltB_not f3, a3 (by omega)⟩
          have HRI := Lib.hid hrise
          clear hrise f1 f2 f3 f4 hcl HCL HRIS HAH
          go_wp2_with (go_at_call 19; refine HC1.mono ?_; rintro e w7 ⟨rfl, hb7⟩; have hl7 := hl.call hb7 hB)
          clear HC1 s0 q0
          go_loopw [70, 15] (fun u v wr => ∃ (i : Nat) (k : Int), u = .int .i64 i ∧ v = .int .i64 k ∧ i ≤ n ∧ (i = 0 → k = -1) ∧ (∀ j, j + 1 = i → k = Lib.index (bytesOf r1) (bytesOf (itm j))) ∧ Lq w B AA xs cc st H2 A2 L2 c2 H5 n wr) (fun u _ _ => n - (intOf u).toNat)
          case atStart => exact ⟨0, -1, rfl, rfl, by omega, fun _ => rfl, fun j hj => absurd hj (by omega), hl7⟩
          case round =>
            clear hl7 hl hb7
            obtain ⟨i, k, rfl, rfl, hi, hk0, hk1, hl⟩ := hrel
            by_cases hlt : i < n
            · have d0 := hl.own_at hlt
              have hx := HGE.out i hlt
              have HX : Calls Tryz.prog 18 #[.string r1, .string (itm i)] _ fun e w' => e = .returned (.int .i64 (Lib.index (bytesOf r1) (bytesOf (itm i)))) ∧ w' = _ := Tryz.strings_Index r1 (itm i) mx _ (by omega) (hm0 _ hl.lw.bw)
              have hki : a = true → ¬ Lib.index (bytesOf r1) (bytesOf (itm i)) ≤ k := fun h => by
                by_cases h0 : i = 0
                · rw [hk0 h0]; omega
                · rw [hk1 (i - 1) (by omega)]
                  have := HRI.out h (i - 1) i (by omega) hlt
                  omega
              clear hk0 hk1
              obtain ⟨x, hxe⟩ : ∃ x, Lib.index (bytesOf r1) (bytesOf (itm i)) = x := ⟨_, rfl⟩
              have HXE := Lib.hid hxe
              rw [hxe] at hx HX hki
              have hx' : ¬ x < 0 := by omega
              clear hxe
              generalize hit : itm i = it at d0 HX
              clear hit
              cases a with
              | false =>
                clear hki
                go_wp2_with (go_at_call 18; refine HX.mono ?_; rintro e w8 ⟨rfl, rfl⟩)
                go_roundw
                case rel => exact ⟨i + 1, x, by go_num, rfl, by omega, fun h => absurd h (by omega), fun j hj => (by have e : j = i := (by omega); subst e; exact HXE.out.symm), hl⟩
                case measure => simp [intOf]; omega
              | true =>
                have hk := hki rfl
                clear hki
                go_wp2_with (go_at_call 18; refine HX.mono ?_; rintro e w8 ⟨rfl, rfl⟩)
                go_roundw
                case rel => exact ⟨i + 1, x, by go_num, rfl, by omega, fun h => absurd h (by omega), fun j hj => (by have e : j = i := (by omega); subst e; exact HXE.out.symm), hl⟩
                case measure => simp [intOf]; omega
            · obtain rfl : i = n := by omega
              go_wp2_with fail
              refine bodyPost_ret (v := .bool true) ?_ rfl ⟨rfl, hl.lw.bw⟩
              simp [results, Tryz.results5, go_sem]
  · have hr1 : r1 = ⟨#[]⟩ := by have := listV_err (L := L2) (loc := loc) (st := st) (xs := itms n) (by rw [HR.out]; exact he); rw [HR.out] at this; exact this
    subst hr1
    have he' : (r2 != 0) = true := by simpa using he
    go_wp2_with (go_at_call 10; refine HLi.mono ?_; rintro e w6 ⟨rfl, hb6⟩)
    have hl6 := hlq5.call hb6 hB
    refine bodyPost_ret (v := .bool true) ?_ rfl ⟨rfl, hl6.lw.bw⟩
    simp [results, Tryz.results5, go_sem]
end Go.Proofs.YtpcgcghhddnifaaGreatDoor
