/-
  The sign of a system by its name: numfmt's voice.sign. Conditions: the slice reads as what is said; the system and the sign's name are names; sizes.
  The sign of a system by its name: ref25's Source.Sign. Conditions: the slice reads as what is said; the system and the sign's name are names; sizes.
-/
import Derived.Test.YtjmebclcmpfdmaaGreatDoorGg
set_option linter.unusedVariables false
set_option linter.unusedSimpArgs false
namespace Go.Proofs.YtjmebclcmpfdmaaGreatDoor
open Go.RowKit
open Ph
/-- a voice's box and its source kept since a world -/
structure Vr (g : Nat) (B : Nat) (A : Option Addr) (L : List Sd) (sv : Value) (loc : ByteArray) (W0 wx : World) : Prop where
  k : Blk wx g 71 #[sv, .string loc]
  s : Saids wx B A L
  b : Below W0.heap.size W0 wx
section
variable {g B : Nat} {A : Option Addr} {L : List Sd} {sv : Value} {loc : ByteArray} {W0 wx wy : World}
theorem Vr.drew (h : Vr g B A L sv loc W0 wx) : Vr g B A L sv loc W0 wx.drew := ⟨h.k.drew, h.s, blw_drew h.b⟩
theorem Vr.call (h : Vr g B A L sv loc W0 wx) (hb : Below wx.heap.size wx wy) (hB : B ≤ W0.heap.size) : Vr g B A L sv loc W0 wy := ⟨h.k.below hb h.k.lt, h.s.below (hb.mono (Nat.le_trans hB h.b.size)), h.b.trans (hb.mono h.b.size)⟩
theorem Vr.alloc (h : Vr g B A L sv loc W0 wx) (hB : B ≤ W0.heap.size) (o : Obj) : Vr g B A L sv loc W0 (wx.alloc o) := h.call ((Below.refl _ _).alloc (Nat.le_refl _) o) hB
theorem Vr.c0 (h : Vr g B A L sv loc W0 wx) : wx.cell? ⟨g, 0, none⟩ = some sv := h.k.at_ 0 rfl
theorem Vr.c1 (h : Vr g B A L sv loc W0 wx) : wx.cell? ⟨g, 1, none⟩ = some (.string loc) := h.k.at_ 1 rfl
theorem Vr.le (h : Vr g B A L sv loc W0 wx) : W0.heap.size ≤ wx.heap.size := h.b.size
end
theorem blk_first {w y : World} {t : TypeId} {cs : Array Value} (h : Below (w.alloc (.cells cs t)).drew.heap.size (w.alloc (.cells cs t)).drew y) : Blk y w.heap.size t cs :=
  (Blk.new w t cs).drew.below h (by simp)
/-- the systems at which a sign is asked for -/
def sysAt (v : ByteArray) (i : Nat) : ByteArray := if i = 0 then v else latnB
def sgnAt (L : List Sd) (loc v nm : ByteArray) (i : Nat) : Option ByteArray := valueOf L loc (leftT (sgnP nm (sysAt v i)))
theorem sign_some {L : List Sd} {loc v nm p t : ByteArray} {i : Nat} (hi : i < 2) (hno : ∀ k, k < i → sgnAt L loc v nm k = none) (h : sgnAt L loc v nm i = some t) : signV L loc v nm p = t := by
  rcases (show i = 0 ∨ i = 1 by omega) with rfl | rfl
  · unfold signV
    rw [show valueOf L loc (leftT (sgnP nm v)) = some t from h]
    rfl
  · unfold signV
    rw [show valueOf L loc (leftT (sgnP nm v)) = none from hno 0 (by omega), show valueOf L loc (leftT (sgnP nm latnB)) = some t from h]
    rfl
theorem sign_none {L : List Sd} {loc v nm p : ByteArray} (hno : ∀ k, k < 2 → sgnAt L loc v nm k = none) : signV L loc v nm p = p := by
  unfold signV
  rw [show valueOf L loc (leftT (sgnP nm v)) = none from hno 0 (by omega), show valueOf L loc (leftT (sgnP nm latnB)) = none from hno 1 (by omega)]
  rfl
theorem sysAt_named {v : ByteArray} (h : namedB v = true) (i : Nat) : namedB (sysAt v i) = true := by
  unfold sysAt
  split
  · exact h
  · exact latn_named
set_option maxRecDepth 100000 in
set_option maxHeartbeats 8000000 in
theorem sign_any {nm p : ByteArray} (hsn : Sgn nm p) (A : Option Addr) (L : List Sd) (c B : Nat) (loc v : ByteArray) (hv : namedB v = true) (hn : L.length ≤ 281474976710656) (w : World) (hL : Saids w B A L) (hB : B ≤ w.heap.size) :
    Calls Tryz.prog 39 #[.agg #[srcV A L.length c, .string loc], .string v, .string nm] w fun e w' => e = .returned (.string (signV L loc v nm p)) ∧ Below w.heap.size w w' := by
  have HP := hsn.prog
  have hpe := hsn.ne
  have H1 := at_nil numbersB
  have H2 := at_nil nm
  have HK := fun (w2 : World) (g : Nat) (u : ByteArray) h => at_key symbolsB nsB u g w2 h
  have HS := fun (w2 : World) (u : ByteArray) (hu : namedB u = true) (h1 : Saids w2 B A L) (h2 : B ≤ w2.heap.size) (A1 : Option Addr) (c1 : Nat) h3 => say_sgn hsn A L c B loc u hu hn w2 h1 h2 A1 c1 h3
  have K := Blk.new w 71 #[srcV A L.length c, .string loc]
  have B1 := (Below.refl w.heap.size w).alloc (Nat.le_refl _) (.cells #[srcV A L.length c, .string loc] 71)
  obtain ⟨res, hres⟩ : ∃ res, signV L loc v nm p = res := ⟨_, rfl⟩
  rw [hres]
  have HR := Lib.hid hres
  clear hres
  unfold symbolsB nsB stepV at HK
  unfold sgnObj numbersB symbolsB nsB at HS
  unfold numbersB at H1
  obtain ⟨sv, hsv⟩ : ∃ sv, srcV A L.length c = sv := ⟨_, rfl⟩
  rw [hsv] at K HS B1 ⊢
  clear hsv
  go_enter Tryz.func39, Tryz.ntmps39
  go_wp2_with (go_at_call 91; refine (HP _).mono ?_; rintro e w1 ⟨rfl, hw1⟩; subst hw1)
  go_loopw [17] (fun u wr => (u = .int .i64 0 ∨ (u = .int .i64 1 ∧ sgnAt L loc v nm 0 = none) ∨ (u = .int .i64 2 ∧ sgnAt L loc v nm 0 = none ∧ sgnAt L loc v nm 1 = none)) ∧ Blk wr w.heap.size 71 #[sv, .string loc] ∧ Blk wr (w.heap.size + 1) 9 #[.string v, .string ⟨#[108, 97, 116, 110]⟩] ∧ Saids wr B A L ∧ Below w.heap.size w wr) (fun u _ => 2 - (intOf u).toNat)
  case atStart =>
    refine ⟨Or.inl rfl, K.alloc _, ?_, hL.below (B1.alloc B1.size _ |>.mono hB), B1.alloc B1.size _⟩
    have := Blk.new (w.alloc (.cells #[sv, .string loc] 71)) 9 #[.string v, .string ⟨#[108, 97, 116, 110]⟩]
    simpa using this
  case round =>
    clear K B1
    obtain ⟨hu, K, Q, hs, hb⟩ := hrel
    have hz0 := K.lt
    have hz1 := Q.lt
    have hBr := Nat.le_trans hB hb.size
    have q0 := Q.at_ 0 (v := .string v) rfl
    have q1 := Q.at_ 1 (v := .string ⟨#[108, 97, 116, 110]⟩) rfl
    have v0 : Vr w.heap.size B A L sv loc wr wr := ⟨K, hs, Below.refl _ _⟩
    have z0 := v0.c0
    have z1 := v0.c1
    have QH := Lib.hid Q
    have HB := Lib.hid hb
    rcases hu with rfl | ⟨rfl, r0⟩ | ⟨rfl, r0, r1⟩
    · have HSv := fun (w2 : World) (h : Vr w.heap.size B A L sv loc wr w2) (A1 : Option Addr) (c1 : Nat) h3 => (HS w2 v hv h.s (Nat.le_trans hBr h.le) A1 c1 h3).mono (fun e w' (hh : _ ∧ _) => (⟨hh.1, (h.alloc hBr _).call (hh.2.mono (by simp)) hBr⟩ : _ ∧ Vr w.heap.size B A L sv loc wr w'))
      obtain ⟨r, hr⟩ : ∃ r, sgnAt L loc v nm 0 = r := ⟨_, rfl⟩
      rw [show valueOf L loc (leftT (sgnP nm v)) = r from hr] at HSv
      have HRR := Lib.hid hr
      clear hr HS
      cases r with
      | none =>
        unfold valR at HSv
        go_wp2_with fail
        clear K Q hs hz0 q0 q1 hb
        go_region_held3 (fun w' => w'.cell? ⟨w.heap.size, 0, none⟩ = some sv ∧ w'.cell? ⟨w.heap.size, 1, none⟩ = some (.string loc)) (first | (with_reducible exact ⟨y40, y41⟩) | (with_reducible exact ⟨y30, y31⟩) | (with_reducible exact ⟨y20, y21⟩) | (with_reducible exact ⟨y10, y11⟩) | (with_reducible exact ⟨z0, z1⟩) | go_keep) ((first | (go_at_call 73; (with_reducible refine (H1 _).mono ?_); rintro e y1 ⟨rfl, hc1⟩; have v1 := (by first | (with_reducible exact Vr.call (Vr.drew v0) hc1 hBr) | (with_reducible exact Vr.call (Vr.drew (Vr.alloc v0 hBr _)) hc1 hBr) : Vr w.heap.size B A L sv loc wr y1); (try (with_reducible have g1 := blk_first hc1)); have y10 := v1.c0; have y11 := v1.c1) | (go_at_call 73; (with_reducible refine (H2 _).mono ?_); rintro e y3 ⟨rfl, hc3⟩; have v3 := Vr.call v2 hc3 hBr; have hp3 := (hp2.below hc3).more hc3.size; have y30 := v3.c0; have y31 := v3.c1) | (go_at_call 73; (first | (with_reducible refine (HK _ _ _ (Blk.new _ _ _)).mono ?_) | (with_reducible refine (HK _ _ _ g1).mono ?_)); rintro e y2 ⟨A1, c1, rfl, hp2, hc2⟩; have v2 := (by first | (with_reducible exact Vr.call v1 hc2 hBr) | (with_reducible exact Vr.call (Vr.alloc v1 hBr _) hc2 hBr) : Vr w.heap.size B A L sv loc wr y2); have y20 := v2.c0; have y21 := v2.c1) | (go_at_call 72; refine (HSv _ v3 A1 c1 hp3).mono ?_; rintro e y4 ⟨rfl, v4⟩; have y40 := v4.c0; have y41 := v4.c1)))
        all_goals
          go_wp2_with fail
          go_roundw
          case rel => exact ⟨Or.inr (Or.inl ⟨by trivial, HRR.out⟩), v4.k, QH.out.below v4.b hz1, v4.s, HB.out.trans (v4.b.mono HB.out.size)⟩
          case measure => simp [intOf]
      | some t =>
        unfold valR at HSv
        dsimp only at HSv
        go_wp2_with fail
        clear K Q hs hz0 q0 q1 hb
        go_region_held3 (fun w' => w'.cell? ⟨w.heap.size, 0, none⟩ = some sv ∧ w'.cell? ⟨w.heap.size, 1, none⟩ = some (.string loc)) (first | (with_reducible exact ⟨y40, y41⟩) | (with_reducible exact ⟨y30, y31⟩) | (with_reducible exact ⟨y20, y21⟩) | (with_reducible exact ⟨y10, y11⟩) | (with_reducible exact ⟨z0, z1⟩) | go_keep) ((first | (go_at_call 73; (with_reducible refine (H1 _).mono ?_); rintro e y1 ⟨rfl, hc1⟩; have v1 := (by first | (with_reducible exact Vr.call (Vr.drew v0) hc1 hBr) | (with_reducible exact Vr.call (Vr.drew (Vr.alloc v0 hBr _)) hc1 hBr) : Vr w.heap.size B A L sv loc wr y1); (try (with_reducible have g1 := blk_first hc1)); have y10 := v1.c0; have y11 := v1.c1) | (go_at_call 73; (with_reducible refine (H2 _).mono ?_); rintro e y3 ⟨rfl, hc3⟩; have v3 := Vr.call v2 hc3 hBr; have hp3 := (hp2.below hc3).more hc3.size; have y30 := v3.c0; have y31 := v3.c1) | (go_at_call 73; (first | (with_reducible refine (HK _ _ _ (Blk.new _ _ _)).mono ?_) | (with_reducible refine (HK _ _ _ g1).mono ?_)); rintro e y2 ⟨A1, c1, rfl, hp2, hc2⟩; have v2 := (by first | (with_reducible exact Vr.call v1 hc2 hBr) | (with_reducible exact Vr.call (Vr.alloc v1 hBr _) hc2 hBr) : Vr w.heap.size B A L sv loc wr y2); have y20 := v2.c0; have y21 := v2.c1) | (go_at_call 72; refine (HSv _ v3 A1 c1 hp3).mono ?_; rintro e y4 ⟨rfl, v4⟩; have y40 := v4.c0; have y41 := v4.c1)))
        all_goals
          go_wp2_with fail
          refine bodyPost_ret (v := .string t) ?_ rfl ⟨by rw [← HR.out, sign_some (i := 0) (by omega) (fun k hk => absurd hk (Nat.not_lt_zero k)) HRR.out], HB.out.trans (v4.b.mono HB.out.size)⟩
          simp [results, Tryz.results39, go_sem]
    · have R0 := Lib.hid r0
      clear r0
      have HSv := fun (w2 : World) (h : Vr w.heap.size B A L sv loc wr w2) (A1 : Option Addr) (c1 : Nat) h3 => (HS w2 ⟨#[108, 97, 116, 110]⟩ latn_named h.s (Nat.le_trans hBr h.le) A1 c1 h3).mono (fun e w' (hh : _ ∧ _) => (⟨hh.1, (h.alloc hBr _).call (hh.2.mono (by simp)) hBr⟩ : _ ∧ Vr w.heap.size B A L sv loc wr w'))
      obtain ⟨r, hr⟩ : ∃ r, sgnAt L loc v nm 1 = r := ⟨_, rfl⟩
      rw [show valueOf L loc (leftT (sgnP nm ⟨#[108, 97, 116, 110]⟩)) = r from hr] at HSv
      have HRR := Lib.hid hr
      clear hr HS
      cases r with
      | none =>
        unfold valR at HSv
        go_wp2_with fail
        clear K Q hs hz0 q0 q1 hb
        go_region_held3 (fun w' => w'.cell? ⟨w.heap.size, 0, none⟩ = some sv ∧ w'.cell? ⟨w.heap.size, 1, none⟩ = some (.string loc)) (first | (with_reducible exact ⟨y40, y41⟩) | (with_reducible exact ⟨y30, y31⟩) | (with_reducible exact ⟨y20, y21⟩) | (with_reducible exact ⟨y10, y11⟩) | (with_reducible exact ⟨z0, z1⟩) | go_keep) ((first | (go_at_call 73; (with_reducible refine (H1 _).mono ?_); rintro e y1 ⟨rfl, hc1⟩; have v1 := (by first | (with_reducible exact Vr.call (Vr.drew v0) hc1 hBr) | (with_reducible exact Vr.call (Vr.drew (Vr.alloc v0 hBr _)) hc1 hBr) : Vr w.heap.size B A L sv loc wr y1); (try (with_reducible have g1 := blk_first hc1)); have y10 := v1.c0; have y11 := v1.c1) | (go_at_call 73; (with_reducible refine (H2 _).mono ?_); rintro e y3 ⟨rfl, hc3⟩; have v3 := Vr.call v2 hc3 hBr; have hp3 := (hp2.below hc3).more hc3.size; have y30 := v3.c0; have y31 := v3.c1) | (go_at_call 73; (first | (with_reducible refine (HK _ _ _ (Blk.new _ _ _)).mono ?_) | (with_reducible refine (HK _ _ _ g1).mono ?_)); rintro e y2 ⟨A1, c1, rfl, hp2, hc2⟩; have v2 := (by first | (with_reducible exact Vr.call v1 hc2 hBr) | (with_reducible exact Vr.call (Vr.alloc v1 hBr _) hc2 hBr) : Vr w.heap.size B A L sv loc wr y2); have y20 := v2.c0; have y21 := v2.c1) | (go_at_call 72; refine (HSv _ v3 A1 c1 hp3).mono ?_; rintro e y4 ⟨rfl, v4⟩; have y40 := v4.c0; have y41 := v4.c1)))
        all_goals
          go_wp2_with fail
          go_roundw
          case rel => exact ⟨Or.inr (Or.inr ⟨by trivial, R0.out, HRR.out⟩), v4.k, QH.out.below v4.b hz1, v4.s, HB.out.trans (v4.b.mono HB.out.size)⟩
          case measure => simp [intOf]
      | some t =>
        unfold valR at HSv
        dsimp only at HSv
        go_wp2_with fail
        clear K Q hs hz0 q0 q1 hb
        go_region_held3 (fun w' => w'.cell? ⟨w.heap.size, 0, none⟩ = some sv ∧ w'.cell? ⟨w.heap.size, 1, none⟩ = some (.string loc)) (first | (with_reducible exact ⟨y40, y41⟩) | (with_reducible exact ⟨y30, y31⟩) | (with_reducible exact ⟨y20, y21⟩) | (with_reducible exact ⟨y10, y11⟩) | (with_reducible exact ⟨z0, z1⟩) | go_keep) ((first | (go_at_call 73; (with_reducible refine (H1 _).mono ?_); rintro e y1 ⟨rfl, hc1⟩; have v1 := (by first | (with_reducible exact Vr.call (Vr.drew v0) hc1 hBr) | (with_reducible exact Vr.call (Vr.drew (Vr.alloc v0 hBr _)) hc1 hBr) : Vr w.heap.size B A L sv loc wr y1); (try (with_reducible have g1 := blk_first hc1)); have y10 := v1.c0; have y11 := v1.c1) | (go_at_call 73; (with_reducible refine (H2 _).mono ?_); rintro e y3 ⟨rfl, hc3⟩; have v3 := Vr.call v2 hc3 hBr; have hp3 := (hp2.below hc3).more hc3.size; have y30 := v3.c0; have y31 := v3.c1) | (go_at_call 73; (first | (with_reducible refine (HK _ _ _ (Blk.new _ _ _)).mono ?_) | (with_reducible refine (HK _ _ _ g1).mono ?_)); rintro e y2 ⟨A1, c1, rfl, hp2, hc2⟩; have v2 := (by first | (with_reducible exact Vr.call v1 hc2 hBr) | (with_reducible exact Vr.call (Vr.alloc v1 hBr _) hc2 hBr) : Vr w.heap.size B A L sv loc wr y2); have y20 := v2.c0; have y21 := v2.c1) | (go_at_call 72; refine (HSv _ v3 A1 c1 hp3).mono ?_; rintro e y4 ⟨rfl, v4⟩; have y40 := v4.c0; have y41 := v4.c1)))
        all_goals
          go_wp2_with fail
          refine bodyPost_ret (v := .string t) ?_ rfl ⟨by rw [← HR.out, sign_some (i := 1) (by omega) (fun k hk => (show k = 0 by omega) ▸ R0.out) HRR.out], HB.out.trans (v4.b.mono HB.out.size)⟩
          simp [results, Tryz.results39, go_sem]
    · have HF := Lib.hid (sign_none (p := p) (fun k hk => by
        rcases (show k = 0 ∨ k = 1 by omega) with rfl | rfl
        · exact r0
        · exact r1) : signV L loc v nm p = p)
      clear r0 r1 K Q hs hz0 q0 q1 hb
      go_wp2_with (go_at_call 91; refine (HP _).mono ?_; rintro e w1 ⟨rfl, hw1⟩; subst hw1)
      refine bodyPost_ret (v := .string p) ?_ rfl ⟨by rw [← HR.out, HF.out], HB.out⟩
      simp [results, Tryz.results39, go_sem]
end Go.Proofs.YtjmebclcmpfdmaaGreatDoor
namespace Go.Proofs.YtjmebclcmpfdmaaGreatDoor
open Go.RowKit
open Ph
set_option maxRecDepth 100000 in
set_option maxHeartbeats 8000000 in
theorem refSign_any {nm p : ByteArray} (hsn : Sgn nm p) (A : Option Addr) (L : List Sd) (c B : Nat) (loc v : ByteArray) (hv : namedB v = true) (hn : L.length ≤ 281474976710656) (w : World) (hL : Saids w B A L) (hB : B ≤ w.heap.size) :
    Calls Tryz.prog 44 #[.agg #[.slice A L.length c], .string loc, .string v, .string nm] w fun e w' => e = .returned (.string (signV L loc v nm p)) ∧ Below w.heap.size w w' := by
  have HP := hsn.ref
  have hpe := hsn.ne
  have HK := fun (w2 : World) (u : ByteArray) => Step_one symbolsB nsB u (by decide) w2
  have HS := fun (w2 : World) (u : ByteArray) (hu : namedB u = true) (h1 : Saids w2 B A L) (h2 : B ≤ w2.heap.size) (A1 : Option Addr) (c1 : Nat) h3 => ask_sgn hsn A L c B loc u hu hn w2 h1 h2 A1 c1 h3
  have v0 := Sw.new (c := c) hL hB
  have HS0 := fun (w2 : World) (h : Sw w B A L c w2) (A1 : Option Addr) (c1 : Nat) h3 => (HS w2 v hv h.s (Nat.le_trans hB h.b.size) A1 c1 h3).mono (fun e w' (hh : _ ∧ _) => (⟨hh.1, (h.alloc hB _).call (hh.2.mono (by simp)) hB⟩ : _ ∧ Sw w B A L c w'))
  have HS1 := fun (w2 : World) (h : Sw w B A L c w2) (A1 : Option Addr) (c1 : Nat) h3 => (HS w2 latnB latn_named h.s (Nat.le_trans hB h.b.size) A1 c1 h3).mono (fun e w' (hh : _ ∧ _) => (⟨hh.1, (h.alloc hB _).call (hh.2.mono (by simp)) hB⟩ : _ ∧ Sw w B A L c w'))
  obtain ⟨res, hres⟩ : ∃ res, signV L loc v nm p = res := ⟨_, rfl⟩
  rw [hres]
  obtain ⟨r, hr⟩ : ∃ r, valueOf L loc (leftT (sgnP nm v)) = r := ⟨_, rfl⟩
  obtain ⟨q, hq⟩ : ∃ q, valueOf L loc (leftT (sgnP nm latnB)) = q := ⟨_, rfl⟩
  unfold signV at hres
  rw [hr] at HS0 hres
  rw [hq] at HS1 hres
  unfold symbolsB nsB stepV at HK
  unfold sgnObj numbersB symbolsB nsB at HS0 HS1
  clear hr hq HS hL
  have HKL := fun (w2 : World) => HK w2 latnB
  unfold latnB at HKL HS1
  cases r with
  | some t =>
    have HR := Lib.hid hres
    clear hres HS1 HKL
    unfold valR at HS0
    dsimp only at HS0
    go_enter Tryz.func44, Tryz.ntmps44
    go_wp2_with (go_at_call 98; refine (HP _).mono ?_; rintro e w1 ⟨rfl, hw1⟩; subst hw1)
    have z0 := v0.c0
    go_region_held3 (fun w' => w'.cell? ⟨w.heap.size, 0, none⟩ = some (.slice A L.length c)) (first | (with_reducible exact y20) | (with_reducible exact y10) | (with_reducible exact z0) | go_keep) ((first | (go_at_call 96; (with_reducible refine (HK _ _).mono ?_); rintro e y1 ⟨A1, c1, rfl, hp1, hc1⟩; have v1 := (by first | (with_reducible exact Sw.call (Sw.drew v0) hc1 hB) | (with_reducible exact Sw.call v0 hc1 hB) : Sw w B A L c y1); have y10 := v1.c0) | (go_at_call 41; refine (HS0 _ v1 A1 c1 hp1).mono ?_; rintro e y2 ⟨rfl, v2⟩; have y20 := v2.c0)))
    all_goals
      go_wp2_with fail
      refine bodyPost_ret (v := .string t) ?_ rfl ⟨by rw [← HR.out]; rfl, v2.b⟩
      simp [results, Tryz.results44, go_sem]
  | none =>
    unfold valR at HS0 HS1
    dsimp only at HS0
    cases q with
    | some t =>
      have HR := Lib.hid hres
      clear hres
      dsimp only at HS1
      go_enter Tryz.func44, Tryz.ntmps44
      go_wp2_with (go_at_call 98; refine (HP _).mono ?_; rintro e w1 ⟨rfl, hw1⟩; subst hw1)
      have z0 := v0.c0
      go_region_held3 (fun w' => w'.cell? ⟨w.heap.size, 0, none⟩ = some (.slice A L.length c)) (first | (with_reducible exact y20) | (with_reducible exact y10) | (with_reducible exact z0) | go_keep) ((first | (go_at_call 96; (with_reducible refine (HK _ _).mono ?_); rintro e y1 ⟨A1, c1, rfl, hp1, hc1⟩; have v1 := (by first | (with_reducible exact Sw.call (Sw.drew v0) hc1 hB) | (with_reducible exact Sw.call v0 hc1 hB) : Sw w B A L c y1); have y10 := v1.c0) | (go_at_call 41; refine (HS0 _ v1 A1 c1 hp1).mono ?_; rintro e y2 ⟨rfl, v2⟩; have y20 := v2.c0)))
      all_goals
        go_wp2_with fail
        go_region_held3 (fun w' => w'.cell? ⟨w.heap.size, 0, none⟩ = some (.slice A L.length c)) (first | (with_reducible exact y40) | (with_reducible exact y30) | (with_reducible exact y20) | go_keep) ((first | (go_at_call 96; (with_reducible refine (HKL _).mono ?_); rintro e y3 ⟨A3, c3, rfl, hp3, hc3⟩; have v3 := (by first | (with_reducible exact Sw.call (Sw.drew v2) hc3 hB) | (with_reducible exact Sw.call v2 hc3 hB) : Sw w B A L c y3); have y30 := v3.c0) | (go_at_call 41; refine (HS1 _ v3 A3 c3 hp3).mono ?_; rintro e y4 ⟨rfl, v4⟩; have y40 := v4.c0)))
        all_goals
          go_wp2_with fail
          refine bodyPost_ret (v := .string t) ?_ rfl ⟨by rw [← HR.out]; rfl, v4.b⟩
          simp [results, Tryz.results44, go_sem]
    | none =>
      have HR := Lib.hid hres
      clear hres
      dsimp only at HS1
      go_enter Tryz.func44, Tryz.ntmps44
      go_wp2_with (go_at_call 98; refine (HP _).mono ?_; rintro e w1 ⟨rfl, hw1⟩; subst hw1)
      have z0 := v0.c0
      go_region_held3 (fun w' => w'.cell? ⟨w.heap.size, 0, none⟩ = some (.slice A L.length c)) (first | (with_reducible exact y20) | (with_reducible exact y10) | (with_reducible exact z0) | go_keep) ((first | (go_at_call 96; (with_reducible refine (HK _ _).mono ?_); rintro e y1 ⟨A1, c1, rfl, hp1, hc1⟩; have v1 := (by first | (with_reducible exact Sw.call (Sw.drew v0) hc1 hB) | (with_reducible exact Sw.call v0 hc1 hB) : Sw w B A L c y1); have y10 := v1.c0) | (go_at_call 41; refine (HS0 _ v1 A1 c1 hp1).mono ?_; rintro e y2 ⟨rfl, v2⟩; have y20 := v2.c0)))
      all_goals
        go_wp2_with fail
        go_region_held3 (fun w' => w'.cell? ⟨w.heap.size, 0, none⟩ = some (.slice A L.length c)) (first | (with_reducible exact y40) | (with_reducible exact y30) | (with_reducible exact y20) | go_keep) ((first | (go_at_call 96; (with_reducible refine (HKL _).mono ?_); rintro e y3 ⟨A3, c3, rfl, hp3, hc3⟩; have v3 := (by first | (with_reducible exact Sw.call (Sw.drew v2) hc3 hB) | (with_reducible exact Sw.call v2 hc3 hB) : Sw w B A L c y3); have y30 := v3.c0) | (go_at_call 41; refine (HS1 _ v3 A3 c3 hp3).mono ?_; rintro e y4 ⟨rfl, v4⟩; have y40 := v4.c0)))
        all_goals
          go_wp2_with (go_at_call 98; refine (HP _).mono ?_; rintro e w1 ⟨rfl, hw1⟩; subst hw1)
          refine bodyPost_ret (v := .string p) ?_ rfl ⟨by rw [← HR.out]; rfl, v4.b⟩
          simp [results, Tryz.results44, go_sem]
end Go.Proofs.YtjmebclcmpfdmaaGreatDoor
