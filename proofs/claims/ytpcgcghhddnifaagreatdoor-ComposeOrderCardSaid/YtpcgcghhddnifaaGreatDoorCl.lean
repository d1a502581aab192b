/-
  ComposeOrder's clash: do a style's parts themselves have the mark. Conditions: a name of a style; what the heap holds; sizes.
-/
import Derived.Test.YtpcgcghhddnifaaGreatDoorGh
import Derived.Test.YtpcgcghhddnifaaGreatDoorOr
set_option linter.unusedVariables false
namespace Go.Proofs.YtpcgcghhddnifaaGreatDoor
open Go.RowKit Go.Vx
open Ph
def n4 : Value := .agg #[.string ⟨#[50]⟩, .string ⟨#[115, 116, 97, 114, 116]⟩, .string ⟨#[109, 105, 100, 100, 108, 101]⟩, .string ⟨#[101, 110, 100]⟩]
set_option maxRecDepth 100000 in
theorem idx40 (W : World) : (Instr.index 43 n4 (.int .i64 0)).run Tryz.prog W = .ok (.string ⟨#[50]⟩) W := by kernel_rfl
set_option maxRecDepth 100000 in
theorem idx41 (W : World) : (Instr.index 43 n4 (.int .i64 1)).run Tryz.prog W = .ok (.string ⟨#[115, 116, 97, 114, 116]⟩) W := by kernel_rfl
set_option maxRecDepth 100000 in
theorem idx42 (W : World) : (Instr.index 43 n4 (.int .i64 2)).run Tryz.prog W = .ok (.string ⟨#[109, 105, 100, 100, 108, 101]⟩) W := by kernel_rfl
set_option maxRecDepth 100000 in
theorem idx43 (W : World) : (Instr.index 43 n4 (.int .i64 3)).run Tryz.prog W = .ok (.string ⟨#[101, 110, 100]⟩) W := by kernel_rfl
def ltB (p : ByteArray) : Bool := decide (0 ≤ Lib.indexByte p.data.toList 60)
noncomputable def clashB (L : List Sd) (loc st : ByteArray) : Bool := ltB (partT L loc st tTwo) || ltB (partT L loc st tSta) || ltB (partT L loc st tMid) || ltB (partT L loc st tEnd)
/-- what clash sees -/
structure Lc (w : World) (B : Nat) (A : Option Addr) (L : List Sd) (c : Nat) (W : World) : Prop where
  bw : Below w.heap.size w W
  bs : Blk W w.heap.size 28 #[.slice A L.length c]
  sd : Saids W B A L
theorem Lc.call {w : World} {B : Nat} {A : Option Addr} {L : List Sd} {c : Nat} {W W' : World} (h : Lc w B A L c W) (hb : Below W.heap.size W W') (hB : B ≤ w.heap.size) : Lc w B A L c W' :=
  ⟨h.bw.trans (hb.mono h.bw.size), h.bs.below hb h.bs.lt, h.sd.below (hb.mono (Nat.le_trans hB h.bw.size))⟩
set_option maxRecDepth 100000 in
set_option maxHeartbeats 8000000 in
theorem clash_any (A : Option Addr) (L : List Sd) (c B : Nat) (loc st : ByteArray) (hnm : isNameB st = true) (hst : st.size ≤ 281474976710656) (hn : L.length ≤ 281474976710656) (hx : ∀ x ∈ L, x.text.size ≤ 281474976710656) (w : World) (hgp : GlobP w) (hL : Saids w B A L) (hB : B ≤ w.heap.size) :
    Calls Tryz.prog 19 #[.agg #[.slice A L.length c], .string loc, .string st] w fun e w' => e = .returned (.bool (clashB L loc st)) ∧ Below w.heap.size w w' := by
  have hs4 := name_size hnm
  have hl : Lc w B A L c (w.alloc (.cells #[.slice A L.length c] 28)) := ⟨(Below.refl w.heap.size w).alloc (Nat.le_refl _) _, Blk.new w _ _, hL.below ((Below.refl _ _).alloc hB _)⟩
  have HLy := fun (nm : ByteArray) (h2 : nm.size ≤ 4096) (hp : isPartB nm = true) W (h : Lc w B A L c W) => listPart_yes A L.length c loc st nm _ hnm hst hp W (part_any A L c w.heap.size loc st nm hs4 h2 hn hx W (hgp.below h.bw hgp.size) (h.sd.more hB) h.bw.size)
  unfold srcV at HLy
  have HI0 := idx40
  have HI1 := idx41
  have HI2 := idx42
  have HI3 := idx43
  unfold n4 at HI0 HI1 HI2 HI3
  go_enter Tryz.func19, Tryz.ntmps19
  go_wp2_with fail
  go_loopw [10] (fun u wr => ∃ i : Nat, u = .int .i64 i ∧ i ≤ 4 ∧ Lc w B A L c wr ∧ (0 < i → ltB (partT L loc st tTwo) = false) ∧ (1 < i → ltB (partT L loc st tSta) = false) ∧ (2 < i → ltB (partT L loc st tMid) = false) ∧ (3 < i → ltB (partT L loc st tEnd) = false)) (fun u _ => 4 - (intOf u).toNat)
  case atStart => exact ⟨0, rfl, by omega, hl, fun h => absurd h (by omega), fun h => absurd h (by omega), fun h => absurd h (by omega), fun h => absurd h (by omega)⟩
  case round =>
    clear hl
    obtain ⟨i, rfl, hi, hl, h0, h1, h2, h3⟩ := hrel
    have s0 := hl.bs.at_ 0 (v := .slice A L.length c) rfl
    rcases (show i = 0 ∨ i = 1 ∨ i = 2 ∨ i = 3 ∨ i = 4 by omega) with rfl | rfl | rfl | rfl | rfl
    case inl =>
      have HP := HLy ⟨#[50]⟩ (by decide) (by kernel_rfl) wr hl
      have hpe : partT L loc st ⟨#[50]⟩ = partT L loc st tTwo := rfl
      rw [hpe] at HP
      have HC : ∀ W, Calls Tryz.prog 16 #[.string (partT L loc st tTwo), .string ⟨#[60]⟩] W fun e w' => e = .returned (.bool (ltB (partT L loc st tTwo))) ∧ w' = W := fun W => Tryz.strings_Contains_one _ 60 W
      clear hpe HLy
      have HCB : clashB L loc st = (ltB (partT L loc st tTwo) || ltB (partT L loc st tSta) || ltB (partT L loc st tMid) || ltB (partT L loc st tEnd)) := rfl
      cases hlb : ltB (partT L loc st tTwo) with
      | true =>
        have hcb : clashB L loc st = true := by rw [HCB, hlb]; simp
        simp only [hlb] at HC
        clear hlb h0 h1 h2 h3 HCB
        generalize partT L loc st tTwo = p at HP HC
        go_wp2_with (first | (go_at_call 13; refine HP.mono ?_; rintro e w6 ⟨rfl, hb6⟩; have hl6 := hl.call hb6 hB) | (go_at_call 16; refine (HC _).mono ?_; rintro e w7 ⟨rfl, rfl⟩))
        refine bodyPost_ret (v := .bool true) ?_ rfl ⟨by rw [hcb], hl6.bw⟩
        simp [results, Tryz.results19, go_sem]
      | false =>
        simp only [hlb] at HC
        have HL := Lib.hid hlb
        have H0 := Lib.hid h0
        have H1 := Lib.hid h1
        have H2 := Lib.hid h2
        have H3 := Lib.hid h3
        clear hlb h0 h1 h2 h3 HCB
        generalize hpp : partT L loc st tTwo = p at HP HC
        clear hpp
        go_wp2_with (first | (go_at_call 13; refine HP.mono ?_; rintro e w6 ⟨rfl, hb6⟩; have hl6 := hl.call hb6 hB) | (go_at_call 16; refine (HC _).mono ?_; rintro e w7 ⟨rfl, rfl⟩))
        go_roundw
        case rel => exact ⟨1, rfl, by omega, hl6, fun _ => by trivial, fun h => absurd h (by omega), fun h => absurd h (by omega), fun h => absurd h (by omega)⟩
        case measure => simp [intOf]
    case inr.inl =>
      have HP := HLy ⟨#[115, 116, 97, 114, 116]⟩ (by decide) (by kernel_rfl) wr hl
      have hpe : partT L loc st ⟨#[115, 116, 97, 114, 116]⟩ = partT L loc st tSta := rfl
      rw [hpe] at HP
      have HC : ∀ W, Calls Tryz.prog 16 #[.string (partT L loc st tSta), .string ⟨#[60]⟩] W fun e w' => e = .returned (.bool (ltB (partT L loc st tSta))) ∧ w' = W := fun W => Tryz.strings_Contains_one _ 60 W
      clear hpe HLy
      have HCB : clashB L loc st = (ltB (partT L loc st tTwo) || ltB (partT L loc st tSta) || ltB (partT L loc st tMid) || ltB (partT L loc st tEnd)) := rfl
      cases hlb : ltB (partT L loc st tSta) with
      | true =>
        have hcb : clashB L loc st = true := by rw [HCB, hlb]; simp
        simp only [hlb] at HC
        clear hlb h0 h1 h2 h3 HCB
        generalize partT L loc st tSta = p at HP HC
        go_wp2_with (first | (go_at_call 13; refine HP.mono ?_; rintro e w6 ⟨rfl, hb6⟩; have hl6 := hl.call hb6 hB) | (go_at_call 16; refine (HC _).mono ?_; rintro e w7 ⟨rfl, rfl⟩))
        refine bodyPost_ret (v := .bool true) ?_ rfl ⟨by rw [hcb], hl6.bw⟩
        simp [results, Tryz.results19, go_sem]
      | false =>
        simp only [hlb] at HC
        have HL := Lib.hid hlb
        have H0 := Lib.hid h0
        have H1 := Lib.hid h1
        have H2 := Lib.hid h2
        have H3 := Lib.hid h3
        clear hlb h0 h1 h2 h3 HCB
        generalize hpp : partT L loc st tSta = p at HP HC
        clear hpp
        go_wp2_with (first | (go_at_call 13; refine HP.mono ?_; rintro e w6 ⟨rfl, hb6⟩; have hl6 := hl.call hb6 hB) | (go_at_call 16; refine (HC _).mono ?_; rintro e w7 ⟨rfl, rfl⟩))
        go_roundw
        case rel => exact ⟨2, rfl, by omega, hl6, fun _ => H0.out (by omega), fun _ => by trivial, fun h => absurd h (by omega), fun h => absurd h (by omega)⟩
        case measure => simp [intOf]
    case inr.inr.inl =>
      have HP := HLy ⟨#[109, 105, 100, 100, 108, 101]⟩ (by decide) (by kernel_rfl) wr hl
      have hpe : partT L loc st ⟨#[109, 105, 100, 100, 108, 101]⟩ = partT L loc st tMid := rfl
      rw [hpe] at HP
      have HC : ∀ W, Calls Tryz.prog 16 #[.string (partT L loc st tMid), .string ⟨#[60]⟩] W fun e w' => e = .returned (.bool (ltB (partT L loc st tMid))) ∧ w' = W := fun W => Tryz.strings_Contains_one _ 60 W
      clear hpe HLy
      have HCB : clashB L loc st = (ltB (partT L loc st tTwo) || ltB (partT L loc st tSta) || ltB (partT L loc st tMid) || ltB (partT L loc st tEnd)) := rfl
      cases hlb : ltB (partT L loc st tMid) with
      | true =>
        have hcb : clashB L loc st = true := by rw [HCB, hlb]; simp
        simp only [hlb] at HC
        clear hlb h0 h1 h2 h3 HCB
        generalize partT L loc st tMid = p at HP HC
        go_wp2_with (first | (go_at_call 13; refine HP.mono ?_; rintro e w6 ⟨rfl, hb6⟩; have hl6 := hl.call hb6 hB) | (go_at_call 16; refine (HC _).mono ?_; rintro e w7 ⟨rfl, rfl⟩))
        refine bodyPost_ret (v := .bool true) ?_ rfl ⟨by rw [hcb], hl6.bw⟩
        simp [results, Tryz.results19, go_sem]
      | false =>
        simp only [hlb] at HC
        have HL := Lib.hid hlb
        have H0 := Lib.hid h0
        have H1 := Lib.hid h1
        have H2 := Lib.hid h2
        have H3 := Lib.hid h3
        clear hlb h0 h1 h2 h3 HCB
        generalize hpp : partT L loc st tMid = p at HP HC
        clear hpp
        go_wp2_with (first | (go_at_call 13; refine HP.mono ?_; rintro e w6 ⟨rfl, hb6⟩; have hl6 := hl.call hb6 hB) | (go_at_call 16; refine (HC _).mono ?_; rintro e w7 ⟨rfl, rfl⟩))
        go_roundw
        case rel => exact ⟨3, rfl, by omega, hl6, fun _ => H0.out (by omega), fun _ => H1.out (by omega), fun _ => by trivial, fun h => absurd h (by omega)⟩
        case measure => simp [intOf]
    case inr.inr.inr.inl =>
      have HP := HLy ⟨#[101, 110, 100]⟩ (by decide) (by kernel_rfl) wr hl
      have hpe : partT L loc st ⟨#[101, 110, 100]⟩ = partT L loc st tEnd := rfl
      rw [hpe] at HP
      have HC : ∀ W, Calls Tryz.prog 16 #[.string (partT L loc st tEnd), .string ⟨#[60]⟩] W fun e w' => e = .returned (.bool (ltB (partT L loc st tEnd))) ∧ w' = W := fun W => Tryz.strings_Contains_one _ 60 W
      clear hpe HLy
      have HCB : clashB L loc st = (ltB (partT L loc st tTwo) || ltB (partT L loc st tSta) || ltB (partT L loc st tMid) || ltB (partT L loc st tEnd)) := rfl
      cases hlb : ltB (partT L loc st tEnd) with
      | true =>
        have hcb : clashB L loc st = true := by rw [HCB, hlb]; simp
        simp only [hlb] at HC
        clear hlb h0 h1 h2 h3 HCB
        generalize partT L loc st tEnd = p at HP HC
        go_wp2_with (first | (go_at_call 13; refine HP.mono ?_; rintro e w6 ⟨rfl, hb6⟩; have hl6 := hl.call hb6 hB) | (go_at_call 16; refine (HC _).mono ?_; rintro e w7 ⟨rfl, rfl⟩))
        refine bodyPost_ret (v := .bool true) ?_ rfl ⟨by rw [hcb], hl6.bw⟩
        simp [results, Tryz.results19, go_sem]
      | false =>
        simp only [hlb] at HC
        have HL := Lib.hid hlb
        have H0 := Lib.hid h0
        have H1 := Lib.hid h1
        have H2 := Lib.hid h2
        have H3 := Lib.hid h3
        clear hlb h0 h1 h2 h3 HCB
        generalize hpp : partT L loc st tEnd = p at HP HC
        clear hpp
        go_wp2_with (first | (go_at_call 13; refine HP.mono ?_; rintro e w6 ⟨rfl, hb6⟩; have hl6 := hl.call hb6 hB) | (go_at_call 16; refine (HC _).mono ?_; rintro e w7 ⟨rfl, rfl⟩))
        go_roundw
        case rel => exact ⟨4, rfl, by omega, hl6, fun _ => H0.out (by omega), fun _ => H1.out (by omega), fun _ => H2.out (by omega), fun _ => by trivial⟩
        case measure => simp [intOf]
    case inr.inr.inr.inr =>
      have hcb : clashB L loc st = false := by unfold clashB; rw [h0 (by omega), h1 (by omega), h2 (by omega), h3 (by omega)]; rfl
      clear h0 h1 h2 h3 HLy
      go_wp2_with fail
      refine bodyPost_ret (v := .bool false) ?_ rfl ⟨by rw [hcb], hl.bw⟩
      simp [results, Tryz.results19, go_sem]
end Go.Proofs.YtpcgcghhddnifaaGreatDoor
