/-
  ref25's Source.Whole. Conditions: the slice reads as what is said, in right texts; sizes.
  numfmt.Whole without a source, and with what is refused; whatever is asked for. Conditions: those of each theorem.
  The law NumfmtWholes: its walk. Conditions: the slice reads as what is said; the tables are laid; sizes.
  The law NumfmtWholes: its walk. Conditions: the slice reads as what is said; the tables are laid; sizes.
-/
import Derived.Test.YtjmebclcmpfdmaaGreatDoorGj
import Derived.Test.YtjmebclcmpfdmaaGreatDoorVj
set_option linter.unusedVariables false
set_option linter.unusedSimpArgs false
namespace Go.Proofs.YtjmebclcmpfdmaaGreatDoor
open Go.RowKit Go.Fl
open Ph
def strSize : Value → Nat
  | .string s => s.size
  | _ => 0
theorem zeros_more (j : Nat) (D : ByteArray) : (⟨#[48]⟩ : ByteArray) ++ (zerosB j ++ D) = zerosB (j + 1) ++ D := by
  rw [← ByteArray.append_assoc]
  congr 1
set_option maxRecDepth 100000 in
set_option maxHeartbeats 8000000 in
theorem refWhole_any (A : Option Addr) (L : List Sd) (c B : Nat) (loc sy : ByteArray) (hv : namedB sy = true) (hS : SdOk L) (n : Int) (h0 : -9223372036854775808 ≤ n) (h1 : n ≤ 9223372036854775807) (least : Nat) (hl : least ≤ 20) (w : World) (hL : Saids w B A L) (hB : B ≤ w.heap.size) :
    Calls Tryz.prog 14 #[.agg #[.slice A L.length c], .string loc, .string sy, ofV n, .int .i64 (least : Int)] w fun e w' => e = .returned (.string (wholeV L loc sy n least)) ∧ Below w.heap.size w w' := by
  have hz := absB_size n h0 h1
  obtain ⟨k, hk⟩ : ∃ k, least - (absB n).size = k := ⟨_, rfl⟩
  have hk20 : k ≤ 20 := by omega
  have hpad : padT n least = zerosB k ++ absB n := by unfold padT; rw [hk]
  have HDg := fun (w2 : World) (h : Saids w2 B A L) (h2 : B ≤ w2.heap.size) => refDigits_any A L c B sy hv hS.n hS.x hS.r w2 h h2
  have HSg := fun (w2 : World) (h : Saids w2 B A L) (h2 : B ≤ w2.heap.size) => refSign_any sgn_minusSign A L c B loc sy hv hS.n w2 h h2
  have HDr := fun (A2 : Option Addr) (c2 : Nat) (w2 : World) (h : Runs w2 w2.heap.size A2 (digitsV L sy)) => Dress_any (padT n least) (digitsV L sy) (digits_len L sy) (padT_dig n least) (by have := padT_size n least h0 h1 hl; omega) A2 c2 w2.heap.size w2 h (Nat.le_refl _)
  unfold Digs at HDg
  have hDs : (dressT (digitsV L sy) (padT n least)).size ≤ 200 := by
    have := dressT_size (digitsV L sy) (padT n least)
    have := padT_size n least h0 h1 hl
    omega
  have hSz := signV_size (loc := loc) (v := sy) (nm := minusB) (p := ⟨#[45]⟩) hS.x (by decide)
  obtain ⟨DD, hDD⟩ : ∃ DD, dressT (digitsV L sy) (padT n least) = DD := ⟨_, rfl⟩
  obtain ⟨SS, hSS⟩ : ∃ SS, signV L loc sy minusB ⟨#[45]⟩ = SS := ⟨_, rfl⟩
  obtain ⟨WW, hWW⟩ : ∃ WW, wholeV L loc sy n least = WW := ⟨_, rfl⟩
  rw [hDD] at hDs HDr
  rw [hSS] at hSz HSg
  rw [hWW]
  unfold wholeV at hWW
  rw [hDD, hSS] at hWW
  have HW := Lib.hid hWW
  rw [hpad] at HDr
  obtain ⟨D, hD⟩ : ∃ D, absB n = D := ⟨_, rfl⟩
  unfold ofV
  rw [hD] at HDr hz hk ⊢
  have HK := Lib.hid hk
  obtain ⟨ng, hng⟩ : ∃ ng, decide (n < 0) = ng := ⟨_, rfl⟩
  rw [hng]
  have HNG := Lib.hid hng
  unfold minusB at HSg
  have B1 := (((Below.refl w.heap.size w).alloc (Nat.le_refl _) (.cells #[.slice A L.length c] 32)).alloc (by simp) (.cells #[.bool ng, .string D, .int .i64 0] 24))
  have K1 := (Blk.new w 32 #[.slice A L.length c]).alloc (.cells #[.bool ng, .string D, .int .i64 0] 24)
  have D1 := Blk.new (w.alloc (.cells #[.slice A L.length c] 32)) 24 #[.bool ng, .string D, .int .i64 0]
  rw [World.size_alloc] at D1
  clear hDD hSS hpad hWW hD hng hk
  go_enter Tryz.func14, Tryz.ntmps14
  go_wp2_with fail
  obtain ⟨w1, hw1⟩ : ∃ w1, (w.alloc (.cells #[.slice A L.length c] 32)).alloc (.cells #[.bool ng, .string D, .int .i64 0] 24) = w1 := ⟨_, rfl⟩
  rw [hw1] at B1 K1 D1 ⊢
  clear hw1
  go_loop [11] (fun u => ∃ j : Nat, u = .string (zerosB j ++ D) ∧ j ≤ k) (fun u => 100 - strSize u)
  case atStart => exact ⟨0, by congr 1, by omega⟩
  case round =>
    obtain ⟨j, rfl, hj⟩ := hrel
    have hs : (zerosB j ++ D).size = j + D.size := by rw [ByteArray.size_append, zerosB_size]
    have hs2 : (zerosB (j + 1) ++ D).size = j + 1 + D.size := by rw [ByteArray.size_append, zerosB_size]
    have hzm := zeros_more j D
    by_cases hjk : j < k
    · have hlt : ((j + D.size : Nat) : Int) < (least : Int) := by have := HK.out; omega
      have hlt2 : (j : Int) + (D.size : Int) < (least : Int) := by omega
      have HZM := Lib.hid hzm
      have HS2 := Lib.hid hs2
      have HS1 := Lib.hid hs
      obtain ⟨T, hT⟩ : ∃ T, zerosB j ++ D = T := ⟨_, rfl⟩
      rw [hT] at HZM hs HS1 ⊢
      have hTz : (T.size : Int) < (least : Int) := by omega
      have hT4 : T.size ≤ 40 := by omega
      clear hzm hs2 hs hT
      go_wp2_with fail
      go_round
      case rel => exact ⟨j + 1, by rw [HZM.out], hjk⟩
      case measure =>
        have := HS1.out
        have := HS2.out
        rw [← HZM.out] at this
        simp only [strSize]
        omega
    · obtain rfl : j = k := by omega
      have hnl : ¬ ((zerosB j ++ D).size : Int) < (least : Int) := by have := HK.out; omega
      obtain ⟨T, hT⟩ : ∃ T, zerosB j ++ D = T := ⟨_, rfl⟩
      rw [hT] at hnl HDr ⊢
      clear hs hs2 hzm hT
      have hL1 := hL.below (B1.mono hB)
      have hB1 := Nat.le_trans hB B1.size
      have k1 := K1.at_ 0 (v := .slice A L.length c) rfl
      have HWW := HW.out
      cases ng with
      | true =>
        rw [if_pos (of_decide_eq_true HNG.out)] at HWW
        have HW2 := Lib.hid HWW
        clear HWW HNG
        go_wp2_with (first | (go_at_call 43; refine (HDg _ hL1 hB1).mono ?_; rintro e w5 ⟨A5, c5, rfl, hr5, hb5⟩; have K5 := K1.below hb5 K1.lt; have D5 := D1.below hb5 D1.lt; have B5 := B1.trans (hb5.mono B1.size); have d50 := D5.at_ 0 (v := .bool true) rfl; have k50 := K5.at_ 0 (v := .slice A L.length c) rfl; have hL5 := hL.below (B5.mono hB); have hB5 := Nat.le_trans hB B5.size) | (go_at_call 42; refine (HDr _ _ _ hr5).mono ?_; rintro e w6 ⟨rfl, hw6⟩; subst hw6) | (go_at_call 44; refine (HSg _ hL5 hB5).mono ?_; rintro e w7 ⟨rfl, hb7⟩; have B7 := B5.trans (hb7.mono B5.size)))
        refine bodyPost_ret (v := .string (SS ++ DD)) ?_ rfl ⟨by rw [← HW2.out], B7⟩
        simp [results, Tryz.results14, go_sem]
      | false =>
        rw [if_neg (of_decide_eq_false HNG.out)] at HWW
        have HW2 := Lib.hid HWW
        clear HWW HNG
        go_wp2_with (first | (go_at_call 43; refine (HDg _ hL1 hB1).mono ?_; rintro e w5 ⟨A5, c5, rfl, hr5, hb5⟩; have K5 := K1.below hb5 K1.lt; have D5 := D1.below hb5 D1.lt; have B5 := B1.trans (hb5.mono B1.size); have d50 := D5.at_ 0 (v := .bool false) rfl; have k50 := K5.at_ 0 (v := .slice A L.length c) rfl; have hL5 := hL.below (B5.mono hB); have hB5 := Nat.le_trans hB B5.size) | (go_at_call 42; refine (HDr _ _ _ hr5).mono ?_; rintro e w6 ⟨rfl, hw6⟩; subst hw6))
        refine bodyPost_ret (v := .string DD) ?_ rfl ⟨by rw [← HW2.out], B5⟩
        simp [results, Tryz.results14, go_sem]
end Go.Proofs.YtjmebclcmpfdmaaGreatDoor
namespace Go.Proofs.YtjmebclcmpfdmaaGreatDoor
open Go.RowKit Go.Fl
open Ph
set_option maxRecDepth 100000 in
theorem Whole_nil (loc sys : ByteArray) (n least : Int) (w : World) :
    Calls Tryz.prog 11 #[.nilIface, .string loc, .string sys, .int .i64 n, .int .i64 least] w fun e w' => e = .returned (.tuple #[.string ⟨#[]⟩, .int .i64 1]) ∧ w' = w := by
  go_enter Tryz.func11, Tryz.ntmps11
  go_wp2_with fail
  refine bodyPost_ret (v := .tuple #[.string ⟨#[]⟩, .int .i64 1]) ?_ rfl ⟨rfl, by trivial⟩
  simp [results, Tryz.results11, go_sem]
/-- what may be asked for -/
def askB (sys : ByteArray) (least : Int) : Bool := decide (0 ≤ least) && (decide (least ≤ 20) && (sys.toList.isEmpty || namedB sys))
/-- the system that is asked for -/
def sysOf (L : List Sd) (loc sys : ByteArray) : ByteArray := if sys.toList.isEmpty then systemV L loc else sys
theorem sysOf_named {L : List Sd} {loc sys : ByteArray} {least : Int} (h : askB sys least = true) : namedB (sysOf L loc sys) = true := by
  unfold askB at h
  simp only [Bool.and_eq_true, Bool.or_eq_true] at h
  unfold sysOf
  split
  · exact system_named L loc
  · rename_i h2
    rcases h.2.2 with h3 | h3
    · exact absurd h3 h2
    · exact h3
set_option maxRecDepth 100000 in
set_option maxHeartbeats 4000000 in
theorem Whole_bad (A : Option Addr) (k c : Nat) (loc sys : ByteArray) (hz : sys.size ≤ 281474976710656) (n least : Int) (hb : askB sys least = false) (w : World) :
    Calls Tryz.prog 11 #[srcV A k c, .string loc, .string sys, .int .i64 n, .int .i64 least] w fun e w' => e = .returned (.tuple #[.string ⟨#[]⟩, .int .i64 2]) ∧ Below w.heap.size w w' := by
  unfold srcV
  obtain ⟨X, hX⟩ : ∃ X, Value.agg #[.slice A k c] = X := ⟨_, rfl⟩
  rw [hX]
  clear hX
  have HN := named_any sys hz
  by_cases h1 : least < 0
  · clear hb HN
    go_enter Tryz.func11, Tryz.ntmps11
    go_wp2_with fail
    refine bodyPost_ret (v := .tuple #[.string ⟨#[]⟩, .int .i64 2]) ?_ rfl ⟨rfl, Below.refl _ _⟩
    simp [results, Tryz.results11, go_sem]
  · by_cases h2 : 20 < least
    · clear hb HN
      go_enter Tryz.func11, Tryz.ntmps11
      go_wp2_with fail
      refine bodyPost_ret (v := .tuple #[.string ⟨#[]⟩, .int .i64 2]) ?_ rfl ⟨rfl, Below.refl _ _⟩
      simp [results, Tryz.results11, go_sem]
    · have h3 : sys.toList.isEmpty = false ∧ namedB sys = false := by
        unfold askB at hb
        rw [decide_eq_true (show 0 ≤ least by omega), decide_eq_true (show least ≤ 20 by omega)] at hb
        simpa using hb
      obtain ⟨h4, h5⟩ := h3
      rw [h5] at HN
      clear hb h5
      go_enter Tryz.func11, Tryz.ntmps11
      go_wp2_with (go_at_call 36; refine (HN _).mono ?_; rintro e w1 ⟨rfl, hb1⟩)
      refine bodyPost_ret (v := .tuple #[.string ⟨#[]⟩, .int .i64 2]) ?_ rfl ⟨rfl, hb1⟩
      simp [results, Tryz.results11, go_sem]
theorem empty_of {s : ByteArray} (h : s.toList.isEmpty = true) : s = ⟨#[]⟩ := by
  apply ba_ext
  rw [← ByteArray.toList_eq]
  simpa using h
theorem Whole_any (A : Option Addr) (L : List Sd) (c B : Nat) (loc sys : ByteArray) (hS : SdOk L) (n least : Int) (h0 : -9223372036854775808 ≤ n) (h1 : n ≤ 9223372036854775807) (hb : askB sys least = true) (w : World) (hL : Saids w B A L) (hB : B ≤ w.heap.size) (hT : Tabs w) :
    Calls Tryz.prog 11 #[srcV A L.length c, .string loc, .string sys, .int .i64 n, .int .i64 least] w fun e w' => e = .returned (.tuple #[.string (wholeV L loc (sysOf L loc sys) n least.toNat), .int .i64 0]) ∧ Below w.heap.size w w' := by
  have hv := sysOf_named (L := L) (loc := loc) hb
  unfold askB at hb
  simp only [Bool.and_eq_true, Bool.or_eq_true, decide_eq_true_eq] at hb
  obtain ⟨b1, b2, b3⟩ := hb
  obtain ⟨k, rfl⟩ : ∃ k : Nat, least = (k : Int) := ⟨least.toNat, by omega⟩
  have hk : k ≤ 20 := by omega
  rw [Int.toNat_natCast]
  unfold sysOf at hv ⊢
  cases he : sys.toList.isEmpty with
  | true =>
    rw [he] at hv
    rw [if_pos rfl]
    obtain rfl := empty_of he
    rcases Int.lt_trichotomy n 0 with h | h | h
    · exact Whole_neg_e A L c B loc _ rfl hS n h0 h1 h k hk w hL hB hT
    · by_cases hk0 : k = 0
      · subst hk0 h; exact Whole_zer_e A L c B loc _ rfl hS w hL hB hT
      · exact Whole_nul_e A L c B loc _ rfl hS n h0 h1 h k hk hk0 w hL hB hT
    · exact Whole_pos_e A L c B loc _ rfl hS n h0 h1 h k hk w hL hB hT
  | false =>
    rw [he] at hv
    rw [if_neg (by decide)] at hv ⊢
    rcases Int.lt_trichotomy n 0 with h | h | h
    · exact Whole_neg_s A L c B loc _ he hv hS n h0 h1 h k hk w hL hB hT
    · by_cases hk0 : k = 0
      · subst hk0 h; exact Whole_zer_s A L c B loc _ he hv hS w hL hB hT
      · exact Whole_nul_s A L c B loc _ he hv hS n h0 h1 h k hk hk0 w hL hB hT
    · exact Whole_pos_s A L c B loc _ he hv hS n h0 h1 h k hk w hL hB hT
end Go.Proofs.YtjmebclcmpfdmaaGreatDoor
namespace Go.Proofs.YtjmebclcmpfdmaaGreatDoor
open Go.RowKit Go.Fl Go.Vx
open Ph
/-- what the listed variables hold -/
structure Glob (w : World) : Prop where
  t : Tabs w
  es : ∃ te pe, w.cell? ⟨4, 0, none⟩ = some (.iface te pe)
theorem Glob.below {w w1 : World} (h : Glob w) (hb : Below w.heap.size w w1) : Glob w1 := by
  obtain ⟨ht, t1, p1, e1⟩ := h
  exact ⟨ht.below hb, t1, p1, (hb.cell (p := ⟨4, 0, none⟩) (World.block_lt_of_cell? _ _ e1)).trans e1⟩
theorem laid_cell {R : Vx.Ren} {w : World} {g e : Nat} {v : Value} {a : AV} (h : w.cell? ⟨g, 0, none⟩ = some v) (ha : conc R a = v) : ∃ x, w.heap[g]? = some x ∧ ORel R (.row [a] e .ro) x := by
  unfold World.cell? at h
  split at h
  · rename_i c t fz hc
    refine ⟨_, hc, ?_⟩
    simp only [ORel]
    refine ⟨trivial, fun i u hu => ?_⟩
    cases i with
    | zero =>
      simp only [List.getElem?_cons_zero, Option.some.injEq] at hu
      subst hu
      rw [ha]
      simpa using h
    | succ i => simp at hu
  · cases h
theorem wakes_yes {w : World} (h : Glob w) : Calls Tryz.prog 7 #[] w fun e w' => e = .returned (.bool true) ∧ Below w.heap.size w w' := by
  obtain ⟨_, te, pe, e1⟩ := h
  have hL : Laid (renOf [.iface te pe] (fun v hv => by simp at hv; subst hv; trivial)) tabs w := allC (laid_cell e1 rfl) allN
  exact wakes_told _ w hL (fun _ _ => rfl)
end Go.Proofs.YtjmebclcmpfdmaaGreatDoor
namespace Go.Proofs.YtjmebclcmpfdmaaGreatDoor
open Go.RowKit Go.Fl
open Ph
theorem fit_ok {L : List Sd} (h : fitB L = true) (hx : ∀ x ∈ L, x.text.size ≤ 10000000000000) : SdOk L := by
  unfold fitB at h
  simp only [Bool.and_eq_true, decide_eq_true_eq, List.all_eq_true] at h
  exact ⟨by omega, hx, h.1⟩
set_option maxRecDepth 100000 in
set_option maxHeartbeats 8000000 in
theorem wholes_few (A : Option Addr) (L : List Sd) (c B : Nat) (hn : L.length ≤ 281474976710656) (hx : ∀ x ∈ L, x.text.size ≤ 10000000000000) (loc sys : ByteArray) (hz : sys.size ≤ 281474976710656) (n least : Int) (h0 : -9223372036854775808 ≤ n) (h1 : n ≤ 9223372036854775807) (hf : fitB L = false) (w : World) (hL : Saids w B A L) (hB : B ≤ w.heap.size) (hG : Glob w) :
    Calls Tryz.prog 4 #[.slice A L.length c, .int .i64 n, .agg #[.string loc, .string sys, .int .i64 least]] w fun e w' => e = .returned (.bool true) ∧ Below w.heap.size w w' := by
  have B0 := (Below.refl w.heap.size w).alloc (Nat.le_refl _) (.cells #[.string loc, .string sys, .int .i64 least] 40)
  have K0 := Blk.new w 40 #[.string loc, .string sys, .int .i64 least]
  have HK := wakes_yes (hG.below B0)
  have HF := fun (w2 : World) (h : Saids w2 B A L) (h2 : B ≤ w2.heap.size) => few_any A L c B hn (fun x hx' => Nat.le_trans (hx x hx') (by decide)) w2 h h2
  have H0 := fun (w2 : World) => Whole_nil loc sys n least w2
  rw [hf] at HF
  clear hf
  go_enter Tryz.func4, Tryz.ntmps4
  go_wp2_with (first | (go_at_call 7; refine HK.mono ?_; rintro e w1 ⟨rfl, hb1⟩; have B1 := B0.trans (hb1.mono B0.size); have K1 := K0.below hb1 K0.lt; have hL1 := hL.below (B1.mono hB); have hB1 := Nat.le_trans hB B1.size) | (go_at_call 8; refine (HF _ hL1 hB1).mono ?_; rintro e w2 ⟨rfl, hw2⟩; subst hw2))
  refine bodyPost_ret (v := .bool true) ?_ rfl ⟨rfl, B1⟩
  simp [results, Tryz.results4, go_sem]
set_option maxRecDepth 100000 in
set_option maxHeartbeats 8000000 in
theorem wholes_low (A : Option Addr) (L : List Sd) (c B : Nat) (hn : L.length ≤ 281474976710656) (hx : ∀ x ∈ L, x.text.size ≤ 10000000000000) (loc sys : ByteArray) (hz : sys.size ≤ 281474976710656) (n least : Int) (h0 : -9223372036854775808 ≤ n) (h1 : n ≤ 9223372036854775807) (hf : fitB L = true) (hq : least < 0) (w : World) (hL : Saids w B A L) (hB : B ≤ w.heap.size) (hG : Glob w) :
    Calls Tryz.prog 4 #[.slice A L.length c, .int .i64 n, .agg #[.string loc, .string sys, .int .i64 least]] w fun e w' => e = .returned (.bool true) ∧ Below w.heap.size w w' := by
  have B0 := (Below.refl w.heap.size w).alloc (Nat.le_refl _) (.cells #[.string loc, .string sys, .int .i64 least] 40)
  have K0 := Blk.new w 40 #[.string loc, .string sys, .int .i64 least]
  have HK := wakes_yes (hG.below B0)
  have HF := fun (w2 : World) (h : Saids w2 B A L) (h2 : B ≤ w2.heap.size) => few_any A L c B hn (fun x hx' => Nat.le_trans (hx x hx') (by decide)) w2 h h2
  have H0 := fun (w2 : World) => Whole_nil loc sys n least w2
  rw [hf] at HF
  have hb : askB sys least = false := by unfold askB; rw [decide_eq_false (show ¬ 0 ≤ least by omega)]; rfl
  have HW := fun (w2 : World) => Whole_bad A L.length c loc sys hz n least hb w2
  unfold srcV at HW
  clear hf hb
  go_enter Tryz.func4, Tryz.ntmps4
  go_wp2_with (first | (go_at_call 7; refine HK.mono ?_; rintro e w1 ⟨rfl, hb1⟩; have B1 := B0.trans (hb1.mono B0.size); have K1 := K0.below hb1 K0.lt; have hL1 := hL.below (B1.mono hB); have hB1 := Nat.le_trans hB B1.size) | (go_at_call 8; refine (HF _ hL1 hB1).mono ?_; rintro e w2 ⟨rfl, hw2⟩; subst hw2; have B2 := B1.alloc B1.size (.cells #[.slice A L.length c] 32); have K2 := K1.alloc (.cells #[.slice A L.length c] 32); have S2 := Blk.new w2 32 #[.slice A L.length c]; have hL2 := hL.below (B2.mono hB); have hB2 := Nat.le_trans hB B2.size; have k20 := K2.at_ 0 (v := .string loc) rfl; have k21 := K2.at_ 1 (v := .string sys) rfl; have k22 := K2.at_ 2 (v := .int .i64 least) rfl; have hG2 := hG.below B2) | (go_at_call 11; (with_reducible refine (HW _).mono ?_); rintro e w3 ⟨rfl, hb3⟩; have B3 := B2.trans (hb3.mono B2.size); have K3 := K2.below hb3 K2.lt; have S3 := S2.below hb3 S2.lt; have k30 := K3.at_ 0 (v := .string loc) rfl; have k31 := K3.at_ 1 (v := .string sys) rfl; have k32 := K3.at_ 2 (v := .int .i64 least) rfl; have s30 := S3.at_ 0 (v := .slice A L.length c) rfl; have hL3 := hL.below (B3.mono hB); have hB3 := Nat.le_trans hB B3.size) | (go_at_call 11; (with_reducible refine (H0 _).mono ?_); rintro e w4 ⟨rfl, hw4⟩; subst hw4))
  refine bodyPost_ret (v := .bool true) ?_ rfl ⟨rfl, B3⟩
  simp [results, Tryz.results4, go_sem]
set_option maxRecDepth 100000 in
set_option maxHeartbeats 8000000 in
theorem wholes_high (A : Option Addr) (L : List Sd) (c B : Nat) (hn : L.length ≤ 281474976710656) (hx : ∀ x ∈ L, x.text.size ≤ 10000000000000) (loc sys : ByteArray) (hz : sys.size ≤ 281474976710656) (n least : Int) (h0 : -9223372036854775808 ≤ n) (h1 : n ≤ 9223372036854775807) (hf : fitB L = true) (hq : 20 < least) (w : World) (hL : Saids w B A L) (hB : B ≤ w.heap.size) (hG : Glob w) :
    Calls Tryz.prog 4 #[.slice A L.length c, .int .i64 n, .agg #[.string loc, .string sys, .int .i64 least]] w fun e w' => e = .returned (.bool true) ∧ Below w.heap.size w w' := by
  have B0 := (Below.refl w.heap.size w).alloc (Nat.le_refl _) (.cells #[.string loc, .string sys, .int .i64 least] 40)
  have K0 := Blk.new w 40 #[.string loc, .string sys, .int .i64 least]
  have HK := wakes_yes (hG.below B0)
  have HF := fun (w2 : World) (h : Saids w2 B A L) (h2 : B ≤ w2.heap.size) => few_any A L c B hn (fun x hx' => Nat.le_trans (hx x hx') (by decide)) w2 h h2
  have H0 := fun (w2 : World) => Whole_nil loc sys n least w2
  rw [hf] at HF
  have hb : askB sys least = false := by unfold askB; rw [decide_eq_false (show ¬ least ≤ 20 by omega), Bool.false_and, Bool.and_false]
  have hq2 : ¬ least < 0 := by omega
  have HW := fun (w2 : World) => Whole_bad A L.length c loc sys hz n least hb w2
  unfold srcV at HW
  clear hf hb
  go_enter Tryz.func4, Tryz.ntmps4
  go_wp2_with (first | (go_at_call 7; refine HK.mono ?_; rintro e w1 ⟨rfl, hb1⟩; have B1 := B0.trans (hb1.mono B0.size); have K1 := K0.below hb1 K0.lt; have hL1 := hL.below (B1.mono hB); have hB1 := Nat.le_trans hB B1.size) | (go_at_call 8; refine (HF _ hL1 hB1).mono ?_; rintro e w2 ⟨rfl, hw2⟩; subst hw2; have B2 := B1.alloc B1.size (.cells #[.slice A L.length c] 32); have K2 := K1.alloc (.cells #[.slice A L.length c] 32); have S2 := Blk.new w2 32 #[.slice A L.length c]; have hL2 := hL.below (B2.mono hB); have hB2 := Nat.le_trans hB B2.size; have k20 := K2.at_ 0 (v := .string loc) rfl; have k21 := K2.at_ 1 (v := .string sys) rfl; have k22 := K2.at_ 2 (v := .int .i64 least) rfl; have hG2 := hG.below B2) | (go_at_call 11; (with_reducible refine (HW _).mono ?_); rintro e w3 ⟨rfl, hb3⟩; have B3 := B2.trans (hb3.mono B2.size); have K3 := K2.below hb3 K2.lt; have S3 := S2.below hb3 S2.lt; have k30 := K3.at_ 0 (v := .string loc) rfl; have k31 := K3.at_ 1 (v := .string sys) rfl; have k32 := K3.at_ 2 (v := .int .i64 least) rfl; have s30 := S3.at_ 0 (v := .slice A L.length c) rfl; have hL3 := hL.below (B3.mono hB); have hB3 := Nat.le_trans hB B3.size) | (go_at_call 11; (with_reducible refine (H0 _).mono ?_); rintro e w4 ⟨rfl, hw4⟩; subst hw4))
  refine bodyPost_ret (v := .bool true) ?_ rfl ⟨rfl, B3⟩
  simp [results, Tryz.results4, go_sem]
set_option maxRecDepth 100000 in
set_option maxHeartbeats 8000000 in
theorem wholes_odd (A : Option Addr) (L : List Sd) (c B : Nat) (hn : L.length ≤ 281474976710656) (hx : ∀ x ∈ L, x.text.size ≤ 10000000000000) (loc sys : ByteArray) (hz : sys.size ≤ 281474976710656) (n least : Int) (h0 : -9223372036854775808 ≤ n) (h1 : n ≤ 9223372036854775807) (hf : fitB L = true) (hq : 0 ≤ least) (hq2 : least ≤ 20) (hq3 : sys.toList.isEmpty = false) (hq4 : namedB sys = false) (w : World) (hL : Saids w B A L) (hB : B ≤ w.heap.size) (hG : Glob w) :
    Calls Tryz.prog 4 #[.slice A L.length c, .int .i64 n, .agg #[.string loc, .string sys, .int .i64 least]] w fun e w' => e = .returned (.bool true) ∧ Below w.heap.size w w' := by
  have B0 := (Below.refl w.heap.size w).alloc (Nat.le_refl _) (.cells #[.string loc, .string sys, .int .i64 least] 40)
  have K0 := Blk.new w 40 #[.string loc, .string sys, .int .i64 least]
  have HK := wakes_yes (hG.below B0)
  have HF := fun (w2 : World) (h : Saids w2 B A L) (h2 : B ≤ w2.heap.size) => few_any A L c B hn (fun x hx' => Nat.le_trans (hx x hx') (by decide)) w2 h h2
  have H0 := fun (w2 : World) => Whole_nil loc sys n least w2
  rw [hf] at HF
  have hb : askB sys least = false := by unfold askB; rw [hq3, hq4, Bool.or_false, Bool.and_false, Bool.and_false]
  have HNm := refNamed_any sys hz
  rw [hq4] at HNm
  have hq5 : ¬ least < 0 := by omega
  have hq6 : ¬ 20 < least := by omega
  clear hq4
  have HW := fun (w2 : World) => Whole_bad A L.length c loc sys hz n least hb w2
  unfold srcV at HW
  clear hf hb
  go_enter Tryz.func4, Tryz.ntmps4
  go_wp2_with (first | (go_at_call 7; refine HK.mono ?_; rintro e w1 ⟨rfl, hb1⟩; have B1 := B0.trans (hb1.mono B0.size); have K1 := K0.below hb1 K0.lt; have hL1 := hL.below (B1.mono hB); have hB1 := Nat.le_trans hB B1.size) | (go_at_call 8; refine (HF _ hL1 hB1).mono ?_; rintro e w2 ⟨rfl, hw2⟩; subst hw2; have B2 := B1.alloc B1.size (.cells #[.slice A L.length c] 32); have K2 := K1.alloc (.cells #[.slice A L.length c] 32); have S2 := Blk.new w2 32 #[.slice A L.length c]; have hL2 := hL.below (B2.mono hB); have hB2 := Nat.le_trans hB B2.size; have k20 := K2.at_ 0 (v := .string loc) rfl; have k21 := K2.at_ 1 (v := .string sys) rfl; have k22 := K2.at_ 2 (v := .int .i64 least) rfl; have hG2 := hG.below B2) | (go_at_call 11; (with_reducible refine (HW _).mono ?_); rintro e w3 ⟨rfl, hb3⟩; have B3 := B2.trans (hb3.mono B2.size); have K3 := K2.below hb3 K2.lt; have S3 := S2.below hb3 S2.lt; have k30 := K3.at_ 0 (v := .string loc) rfl; have k31 := K3.at_ 1 (v := .string sys) rfl; have k32 := K3.at_ 2 (v := .int .i64 least) rfl; have s30 := S3.at_ 0 (v := .slice A L.length c) rfl; have hL3 := hL.below (B3.mono hB); have hB3 := Nat.le_trans hB B3.size) | (go_at_call 11; (with_reducible refine (H0 _).mono ?_); rintro e w4 ⟨rfl, hw4⟩; subst hw4) | (go_at_call 12; refine (HNm _).mono ?_; rintro e w5 ⟨rfl, hb5⟩; have B5 := B3.trans (hb5.mono B3.size)))
  refine bodyPost_ret (v := .bool true) ?_ rfl ⟨rfl, B5⟩
  simp [results, Tryz.results4, go_sem]
set_option maxRecDepth 100000 in
set_option maxHeartbeats 8000000 in
theorem wholes_own (A : Option Addr) (L : List Sd) (c B : Nat) (hn : L.length ≤ 281474976710656) (hx : ∀ x ∈ L, x.text.size ≤ 10000000000000) (loc sys : ByteArray) (hz : sys.size ≤ 281474976710656) (n least : Int) (h0 : -9223372036854775808 ≤ n) (h1 : n ≤ 9223372036854775807) (hf : fitB L = true) (hq : 0 ≤ least) (hq2 : least ≤ 20) (hq3 : sys.toList.isEmpty = true) (w : World) (hL : Saids w B A L) (hB : B ≤ w.heap.size) (hG : Glob w) :
    Calls Tryz.prog 4 #[.slice A L.length c, .int .i64 n, .agg #[.string loc, .string sys, .int .i64 least]] w fun e w' => e = .returned (.bool true) ∧ Below w.heap.size w w' := by
  have B0 := (Below.refl w.heap.size w).alloc (Nat.le_refl _) (.cells #[.string loc, .string sys, .int .i64 least] 40)
  have K0 := Blk.new w 40 #[.string loc, .string sys, .int .i64 least]
  have HK := wakes_yes (hG.below B0)
  have HF := fun (w2 : World) (h : Saids w2 B A L) (h2 : B ≤ w2.heap.size) => few_any A L c B hn (fun x hx' => Nat.le_trans (hx x hx') (by decide)) w2 h h2
  have H0 := fun (w2 : World) => Whole_nil loc sys n least w2
  rw [hf] at HF
  have hS := fit_ok hf hx
  have hb : askB sys least = true := by unfold askB; rw [decide_eq_true hq, decide_eq_true hq2, hq3]; rfl
  have hv := sysOf_named (L := L) (loc := loc) hb
  have HW := fun (w2 : World) (h : Saids w2 B A L) (h2 : B ≤ w2.heap.size) h3 => Whole_any A L c B loc sys hS n least h0 h1 hb w2 h h2 h3
  have HRW := fun (w2 : World) (h : Saids w2 B A L) (h2 : B ≤ w2.heap.size) => refWhole_any A L c B loc (sysOf L loc sys) hv hS n h0 h1 least.toNat (by omega) w2 h h2
  have HLW := fun (w2 : World) => whole_any n h0 h1 w2
  rw [show ((least.toNat : Nat) : Int) = least by omega] at HRW
  have HSy := fun (w2 : World) (h : Saids w2 B A L) (h2 : B ≤ w2.heap.size) => refSystem_any A L c B loc hn (fun x hx' => Nat.le_trans (hx x hx') (by decide)) w2 h h2
  rw [show sysOf L loc sys = systemV L loc from if_pos hq3] at HW HRW
  obtain ⟨SY, hSY⟩ : ∃ SY, systemV L loc = SY := ⟨_, rfl⟩
  rw [hSY] at HW HRW HSy
  obtain ⟨WW, hWW⟩ : ∃ WW, wholeV L loc SY n least.toNat = WW := ⟨_, rfl⟩
  rw [hWW] at HW HRW
  obtain ⟨DV, hDV⟩ : ∃ DV, ofV n = DV := ⟨_, rfl⟩
  rw [hDV] at HRW HLW
  unfold srcV at HW
  have hq5 : ¬ least < 0 := by omega
  have hq6 : ¬ 20 < least := by omega
  clear hf hb hv hWW hDV hSY
  go_enter Tryz.func4, Tryz.ntmps4
  go_wp2_with (first | (go_at_call 7; refine HK.mono ?_; rintro e w1 ⟨rfl, hb1⟩; have B1 := B0.trans (hb1.mono B0.size); have K1 := K0.below hb1 K0.lt; have hL1 := hL.below (B1.mono hB); have hB1 := Nat.le_trans hB B1.size) | (go_at_call 8; refine (HF _ hL1 hB1).mono ?_; rintro e w2 ⟨rfl, hw2⟩; subst hw2; have B2 := B1.alloc B1.size (.cells #[.slice A L.length c] 32); have K2 := K1.alloc (.cells #[.slice A L.length c] 32); have S2 := Blk.new w2 32 #[.slice A L.length c]; have hL2 := hL.below (B2.mono hB); have hB2 := Nat.le_trans hB B2.size; have k20 := K2.at_ 0 (v := .string loc) rfl; have k21 := K2.at_ 1 (v := .string sys) rfl; have k22 := K2.at_ 2 (v := .int .i64 least) rfl; have hG2 := hG.below B2) | (go_at_call 11; (with_reducible refine (HW _ hL2 hB2 hG2.t).mono ?_); rintro e w3 ⟨rfl, hb3⟩; have B3 := B2.trans (hb3.mono B2.size); have K3 := K2.below hb3 K2.lt; have S3 := S2.below hb3 S2.lt; have k30 := K3.at_ 0 (v := .string loc) rfl; have k31 := K3.at_ 1 (v := .string sys) rfl; have k32 := K3.at_ 2 (v := .int .i64 least) rfl; have s30 := S3.at_ 0 (v := .slice A L.length c) rfl; have hL3 := hL.below (B3.mono hB); have hB3 := Nat.le_trans hB B3.size) | (go_at_call 11; (with_reducible refine (H0 _).mono ?_); rintro e w4 ⟨rfl, hw4⟩; subst hw4) | (go_at_call 13; refine (HSy _ hL3 hB3).mono ?_; rintro e w5 ⟨rfl, hb5⟩; have B5 := B3.trans (hb5.mono B3.size); have K5 := K3.below hb5 K3.lt; have S5 := S3.below hb5 S3.lt))
  have hB5 := Nat.le_trans hB B5.size
  have z0 := S5.at_ 0 (v := .slice A L.length c) rfl
  have z1 := K5.at_ 0 (v := .string loc) rfl
  have z2 := K5.at_ 2 (v := .int .i64 least) rfl
  have hL5 := hL.below (B5.mono hB)
  go_region_held3 (fun w' => w'.cell? ⟨w2.heap.size, 0, none⟩ = some (.slice A L.length c) ∧ w'.cell? ⟨w.heap.size, 0, none⟩ = some (.string loc) ∧ w'.cell? ⟨w.heap.size, 2, none⟩ = some (.int .i64 least)) (first | (with_reducible exact ⟨y20, y21, y22⟩) | (with_reducible exact ⟨y10, y11, y12⟩) | (with_reducible exact ⟨z0, z1, z2⟩) | go_keep) ((first | (go_at_call 15; refine (HLW _).mono ?_; rintro e y1 ⟨rfl, hc1⟩; have S6 := S5.drew.below hc1 S5.lt; have K6 := K5.drew.below hc1 K5.lt; have B6 := (blw_drew B5).trans (hc1.mono B5.size); have hL6 := hL.below (B6.mono hB); have hB6 := Nat.le_trans hB B6.size; have y10 := S6.at_ 0 (v := .slice A L.length c) rfl; have y11 := K6.at_ 0 (v := .string loc) rfl; have y12 := K6.at_ 2 (v := .int .i64 least) rfl) | (go_at_call 14; refine (HRW _ hL6 hB6).mono ?_; rintro e y2 ⟨rfl, hc2⟩; have S7 := S6.below hc2 S6.lt; have K7 := K6.below hc2 K6.lt; have B7 := B6.trans (hc2.mono B6.size); have y20 := S7.at_ 0 (v := .slice A L.length c) rfl; have y21 := K7.at_ 0 (v := .string loc) rfl; have y22 := K7.at_ 2 (v := .int .i64 least) rfl)))
  all_goals
    go_wp2_with fail
    refine bodyPost_ret (v := .bool true) ?_ rfl ⟨rfl, B7⟩
    simp [results, Tryz.results4, go_sem]
set_option maxRecDepth 100000 in
set_option maxHeartbeats 8000000 in
theorem wholes_sys (A : Option Addr) (L : List Sd) (c B : Nat) (hn : L.length ≤ 281474976710656) (hx : ∀ x ∈ L, x.text.size ≤ 10000000000000) (loc sys : ByteArray) (hz : sys.size ≤ 281474976710656) (n least : Int) (h0 : -9223372036854775808 ≤ n) (h1 : n ≤ 9223372036854775807) (hf : fitB L = true) (hq : 0 ≤ least) (hq2 : least ≤ 20) (hq3 : sys.toList.isEmpty = false) (hq4 : namedB sys = true) (w : World) (hL : Saids w B A L) (hB : B ≤ w.heap.size) (hG : Glob w) :
    Calls Tryz.prog 4 #[.slice A L.length c, .int .i64 n, .agg #[.string loc, .string sys, .int .i64 least]] w fun e w' => e = .returned (.bool true) ∧ Below w.heap.size w w' := by
  have B0 := (Below.refl w.heap.size w).alloc (Nat.le_refl _) (.cells #[.string loc, .string sys, .int .i64 least] 40)
  have K0 := Blk.new w 40 #[.string loc, .string sys, .int .i64 least]
  have HK := wakes_yes (hG.below B0)
  have HF := fun (w2 : World) (h : Saids w2 B A L) (h2 : B ≤ w2.heap.size) => few_any A L c B hn (fun x hx' => Nat.le_trans (hx x hx') (by decide)) w2 h h2
  have H0 := fun (w2 : World) => Whole_nil loc sys n least w2
  rw [hf] at HF
  have hS := fit_ok hf hx
  have hb : askB sys least = true := by unfold askB; rw [decide_eq_true hq, decide_eq_true hq2, hq3, hq4]; rfl
  have hv := sysOf_named (L := L) (loc := loc) hb
  have HW := fun (w2 : World) (h : Saids w2 B A L) (h2 : B ≤ w2.heap.size) h3 => Whole_any A L c B loc sys hS n least h0 h1 hb w2 h h2 h3
  have HRW := fun (w2 : World) (h : Saids w2 B A L) (h2 : B ≤ w2.heap.size) => refWhole_any A L c B loc (sysOf L loc sys) hv hS n h0 h1 least.toNat (by omega) w2 h h2
  have HLW := fun (w2 : World) => whole_any n h0 h1 w2
  rw [show ((least.toNat : Nat) : Int) = least by omega] at HRW
  have HNm := refNamed_any sys hz
  rw [hq4] at HNm
  rw [show sysOf L loc sys = sys from by unfold sysOf; rw [hq3]; rfl] at HW HRW
  obtain ⟨WW, hWW⟩ : ∃ WW, wholeV L loc sys n least.toNat = WW := ⟨_, rfl⟩
  rw [hWW] at HW HRW
  obtain ⟨DV, hDV⟩ : ∃ DV, ofV n = DV := ⟨_, rfl⟩
  rw [hDV] at HRW HLW
  unfold srcV at HW
  have hq5 : ¬ least < 0 := by omega
  have hq6 : ¬ 20 < least := by omega
  clear hf hb hv hWW hDV hq4
  go_enter Tryz.func4, Tryz.ntmps4
  go_wp2_with (first | (go_at_call 7; refine HK.mono ?_; rintro e w1 ⟨rfl, hb1⟩; have B1 := B0.trans (hb1.mono B0.size); have K1 := K0.below hb1 K0.lt; have hL1 := hL.below (B1.mono hB); have hB1 := Nat.le_trans hB B1.size) | (go_at_call 8; refine (HF _ hL1 hB1).mono ?_; rintro e w2 ⟨rfl, hw2⟩; subst hw2; have B2 := B1.alloc B1.size (.cells #[.slice A L.length c] 32); have K2 := K1.alloc (.cells #[.slice A L.length c] 32); have S2 := Blk.new w2 32 #[.slice A L.length c]; have hL2 := hL.below (B2.mono hB); have hB2 := Nat.le_trans hB B2.size; have k20 := K2.at_ 0 (v := .string loc) rfl; have k21 := K2.at_ 1 (v := .string sys) rfl; have k22 := K2.at_ 2 (v := .int .i64 least) rfl; have hG2 := hG.below B2) | (go_at_call 11; (with_reducible refine (HW _ hL2 hB2 hG2.t).mono ?_); rintro e w3 ⟨rfl, hb3⟩; have B3 := B2.trans (hb3.mono B2.size); have K3 := K2.below hb3 K2.lt; have S3 := S2.below hb3 S2.lt; have k30 := K3.at_ 0 (v := .string loc) rfl; have k31 := K3.at_ 1 (v := .string sys) rfl; have k32 := K3.at_ 2 (v := .int .i64 least) rfl; have s30 := S3.at_ 0 (v := .slice A L.length c) rfl; have hL3 := hL.below (B3.mono hB); have hB3 := Nat.le_trans hB B3.size) | (go_at_call 11; (with_reducible refine (H0 _).mono ?_); rintro e w4 ⟨rfl, hw4⟩; subst hw4) | (go_at_call 12; refine (HNm _).mono ?_; rintro e w5 ⟨rfl, hb5⟩; have B5 := B3.trans (hb5.mono B3.size); have K5 := K3.below hb5 K3.lt; have S5 := S3.below hb5 S3.lt; have k51 := K5.at_ 1 (v := .string sys) rfl))
  have hB5 := Nat.le_trans hB B5.size
  have z0 := S5.at_ 0 (v := .slice A L.length c) rfl
  have z1 := K5.at_ 0 (v := .string loc) rfl
  have z2 := K5.at_ 2 (v := .int .i64 least) rfl
  have hL5 := hL.below (B5.mono hB)
  go_region_held3 (fun w' => w'.cell? ⟨w2.heap.size, 0, none⟩ = some (.slice A L.length c) ∧ w'.cell? ⟨w.heap.size, 0, none⟩ = some (.string loc) ∧ w'.cell? ⟨w.heap.size, 2, none⟩ = some (.int .i64 least)) (first | (with_reducible exact ⟨y20, y21, y22⟩) | (with_reducible exact ⟨y10, y11, y12⟩) | (with_reducible exact ⟨z0, z1, z2⟩) | go_keep) ((first | (go_at_call 15; refine (HLW _).mono ?_; rintro e y1 ⟨rfl, hc1⟩; have S6 := S5.drew.below hc1 S5.lt; have K6 := K5.drew.below hc1 K5.lt; have B6 := (blw_drew B5).trans (hc1.mono B5.size); have hL6 := hL.below (B6.mono hB); have hB6 := Nat.le_trans hB B6.size; have y10 := S6.at_ 0 (v := .slice A L.length c) rfl; have y11 := K6.at_ 0 (v := .string loc) rfl; have y12 := K6.at_ 2 (v := .int .i64 least) rfl) | (go_at_call 14; refine (HRW _ hL6 hB6).mono ?_; rintro e y2 ⟨rfl, hc2⟩; have S7 := S6.below hc2 S6.lt; have K7 := K6.below hc2 K6.lt; have B7 := B6.trans (hc2.mono B6.size); have y20 := S7.at_ 0 (v := .slice A L.length c) rfl; have y21 := K7.at_ 0 (v := .string loc) rfl; have y22 := K7.at_ 2 (v := .int .i64 least) rfl)))
  all_goals
    go_wp2_with fail
    refine bodyPost_ret (v := .bool true) ?_ rfl ⟨rfl, B7⟩
    simp [results, Tryz.results4, go_sem]
theorem wholes_law (A : Option Addr) (L : List Sd) (c B : Nat) (hn : L.length ≤ 281474976710656) (hx : ∀ x ∈ L, x.text.size ≤ 10000000000000) (loc sys : ByteArray) (hz : sys.size ≤ 281474976710656) (n least : Int) (h0 : -9223372036854775808 ≤ n) (h1 : n ≤ 9223372036854775807) (w : World) (hL : Saids w B A L) (hB : B ≤ w.heap.size) (hG : Glob w) :
    Calls Tryz.prog 4 #[.slice A L.length c, .int .i64 n, .agg #[.string loc, .string sys, .int .i64 least]] w fun e w' => e = .returned (.bool true) ∧ Below w.heap.size w w' := by
  cases hf : fitB L with
  | false => exact wholes_few A L c B hn hx loc sys hz n least h0 h1 hf w hL hB hG
  | true =>
    by_cases q1 : least < 0
    · exact wholes_low A L c B hn hx loc sys hz n least h0 h1 hf q1 w hL hB hG
    by_cases q2 : 20 < least
    · exact wholes_high A L c B hn hx loc sys hz n least h0 h1 hf q2 w hL hB hG
    cases q3 : sys.toList.isEmpty with
    | true => exact wholes_own A L c B hn hx loc sys hz n least h0 h1 hf (by omega) (by omega) q3 w hL hB hG
    | false =>
      cases q4 : namedB sys with
      | true => exact wholes_sys A L c B hn hx loc sys hz n least h0 h1 hf (by omega) (by omega) q3 q4 w hL hB hG
      | false => exact wholes_odd A L c B hn hx loc sys hz n least h0 h1 hf (by omega) (by omega) q3 q4 w hL hB hG
end Go.Proofs.YtjmebclcmpfdmaaGreatDoor
