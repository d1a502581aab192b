/-
  ComposeLists: the law's walk. Conditions: what the listed variables hold; the slices read as what is said, as these texts; sizes.
-/
import Derived.Test.YtpcgcghhddnifaaGreatDoorGh
import Derived.Test.YtpcgcghhddnifaaGreatDoorRi
import Derived.Deep.RegionHeld3
import Derived.Lib.QuietBelow
import Derived.Deep.DeepCutAuto
import Derived.BigQuiet
set_option linter.unusedVariables false
namespace Go.Proofs.YtpcgcghhddnifaaGreatDoor
open Go.RowKit Go.Vx
open Ph
/-- what ComposeLists sees after its own copy of the things is laid -/
structure Lo (w : World) (B : Nat) (AA : Option Addr) (xs : List ByteArray) (cc : Nat) (st : ByteArray) (H2 : Nat) (A2 : Option Addr) (L2 : List Sd) (c2 : Nat) (H5 : Nat) (ys : List ByteArray) (W : World) : Prop where
  lw : Lw w B AA xs cc st H2 A2 L2 c2 W
  ow : Texts W (H5 + 1) (some ⟨H5, 0, none⟩) ys
  tl : W.cell? ⟨H5, ys.length, none⟩ = some (.string ⟨#[126]⟩)
  lt : H5 < W.heap.size
theorem Lo.call {w : World} {B : Nat} {AA : Option Addr} {xs : List ByteArray} {cc : Nat} {st : ByteArray} {H2 : Nat} {A2 : Option Addr} {L2 : List Sd} {c2 : Nat} {H5 : Nat} {ys : List ByteArray} {W W' : World} (h : Lo w B AA xs cc st H2 A2 L2 c2 H5 ys W) (hb : Below W.heap.size W W') (hB : B ≤ w.heap.size) : Lo w B AA xs cc st H2 A2 L2 c2 H5 ys W' :=
  ⟨h.lw.call hb hB, h.ow.below (hb.mono h.lt), (hb.cell (p := ⟨H5, ys.length, none⟩) h.lt).trans h.tl, Nat.lt_of_lt_of_le h.lt hb.size⟩
theorem Lo.alloc {w : World} {B : Nat} {AA : Option Addr} {xs : List ByteArray} {cc : Nat} {st : ByteArray} {H2 : Nat} {A2 : Option Addr} {L2 : List Sd} {c2 : Nat} {H5 : Nat} {ys : List ByteArray} {W : World} (h : Lo w B AA xs cc st H2 A2 L2 c2 H5 ys W) (hB : B ≤ w.heap.size) (o : Obj) : Lo w B AA xs cc st H2 A2 L2 c2 H5 ys (W.alloc o) := h.call ((Below.refl _ _).alloc (Nat.le_refl _) o) hB
theorem Lo.drew {w : World} {B : Nat} {AA : Option Addr} {xs : List ByteArray} {cc : Nat} {st : ByteArray} {H2 : Nat} {A2 : Option Addr} {L2 : List Sd} {c2 : Nat} {H5 : Nat} {ys : List ByteArray} {W : World} (h : Lo w B AA xs cc st H2 A2 L2 c2 H5 ys W) (hB : B ≤ w.heap.size) : Lo w B AA xs cc st H2 A2 L2 c2 H5 ys W.drew := h.call (blw_drew (Below.refl _ _)) hB
theorem Lo.drewN {w : World} {B : Nat} {AA : Option Addr} {xs : List ByteArray} {cc : Nat} {st : ByteArray} {H2 : Nat} {A2 : Option Addr} {L2 : List Sd} {c2 : Nat} {H5 : Nat} {ys : List ByteArray} {W : World} (h : Lo w B AA xs cc st H2 A2 L2 c2 H5 ys W) (hB : B ≤ w.heap.size) (n : Nat) : Lo w B AA xs cc st H2 A2 L2 c2 H5 ys (W.drewN n) := h.call (blw_drewN (Below.refl _ _) n) hB
theorem cellA {W : World} {a : Addr} {v : Value} (o : Obj) (h : W.cell? a = some v) : (W.alloc o).cell? a = some v := (World.cell?_alloc_lt W o a (World.block_lt_of_cell? W a h)).trans h
theorem cellD {W : World} {a : Addr} {v : Value} (o : Obj) (h : W.cell? a = some v) : (W.alloc o).drew.cell? a = some v := cellA o h
theorem cellW {W : World} {a : Addr} {v : Value} (h : W.cell? a = some v) : W.drew.cell? a = some v := h
theorem drew_lt (w : World) (o : Obj) : w.heap.size < (w.alloc o).drew.heap.size := by show _ < (w.alloc o).heap.size; simp
theorem alloc_lt (w : World) (o : Obj) : w.heap.size < (w.alloc o).heap.size := by simp
theorem Blk.set4 {w : World} {G : Nat} {t : TypeId} {a b c d : Value} (h : Blk w G t #[a, b, c, d]) (p q r s : Value) : Blk ((((w.setCell ⟨G, 0, none⟩ p).setCell ⟨G, 1, none⟩ q).setCell ⟨G, 2, none⟩ r).setCell ⟨G, 3, none⟩ s) G t #[p, q, r, s] :=
  (((h.set_ 0 p).set_ 1 q).set_ 2 r).set_ 3 s
theorem Lo.set4 {w : World} {B : Nat} {AA : Option Addr} {xs : List ByteArray} {cc : Nat} {st : ByteArray} {H2 : Nat} {A2 : Option Addr} {L2 : List Sd} {c2 : Nat} {H5 : Nat} {ys : List ByteArray} {W : World} {G : Nat} (h : Lo w B AA xs cc st H2 A2 L2 c2 H5 ys W) (hB : B ≤ w.heap.size) (hG : H2 < G) (hG5 : H5 < G) (p q r s : Value) (hw : w.heap.size ≤ H2) :
    Lo w B AA xs cc st H2 A2 L2 c2 H5 ys ((((W.setCell ⟨G, 0, none⟩ p).setCell ⟨G, 1, none⟩ q).setCell ⟨G, 2, none⟩ r).setCell ⟨G, 3, none⟩ s) := by
  have hb : ∀ n, n ≤ G → Below n W ((((W.setCell ⟨G, 0, none⟩ p).setCell ⟨G, 1, none⟩ q).setCell ⟨G, 2, none⟩ r).setCell ⟨G, 3, none⟩ s) := fun n hn => ((((Below.refl n W).setCell (p := ⟨G, 0, none⟩) hn p).setCell (p := ⟨G, 1, none⟩) hn q).setCell (p := ⟨G, 2, none⟩) hn r).setCell (p := ⟨G, 3, none⟩) hn s
  refine ⟨⟨h.lw.bw.trans (hb _ (by omega)), h.lw.bq.below (hb G (Nat.le_refl _)) (by omega), h.lw.bs.below (hb G (Nat.le_refl _)) hG, h.lw.sd.below (hb _ (by omega)), h.lw.tx.below (hb _ (by omega))⟩, h.ow.below (hb _ (by omega)), ((hb G (Nat.le_refl _)).cell (p := ⟨H5, ys.length, none⟩) hG5).trans h.tl, Nat.lt_of_lt_of_le h.lt (hb 0 (Nat.zero_le _)).size⟩
def n5 : Value := .agg #[.string ⟨#[50]⟩, .string ⟨#[115, 116, 97, 114, 116]⟩, .string ⟨#[109, 105, 100, 100, 108, 101]⟩, .string ⟨#[101, 110, 100]⟩, .string ⟨#[51]⟩]
theorem Lo.own_at {w : World} {B : Nat} {AA : Option Addr} {xs : List ByteArray} {cc : Nat} {st : ByteArray} {H2 : Nat} {A2 : Option Addr} {L2 : List Sd} {c2 : Nat} {H5 : Nat} {ys : List ByteArray} {W : World} (h : Lo w B AA xs cc st H2 A2 L2 c2 H5 ys W) {i : Nat} (hi : i < ys.length) : W.cell? ⟨H5, i, none⟩ = some (.string ys[i]) := by
  obtain ⟨ad, e, _, hc⟩ := h.ow (by omega)
  cases e
  have := hc i hi
  have he : (⟨H5, 0, none⟩ : Addr).add i = ⟨H5, i, none⟩ := by
    unfold Addr.add; split
    · rename_i h; rw [h]
    · simp
  rwa [he] at this
set_option maxRecDepth 100000 in
theorem idx50 (W : World) : (Instr.index 33 n5 (.int .i64 0)).run Tryz.prog W = .ok (.string ⟨#[50]⟩) W := by kernel_rfl
set_option maxRecDepth 100000 in
theorem idx51 (W : World) : (Instr.index 33 n5 (.int .i64 1)).run Tryz.prog W = .ok (.string ⟨#[115, 116, 97, 114, 116]⟩) W := by kernel_rfl
set_option maxRecDepth 100000 in
theorem idx52 (W : World) : (Instr.index 33 n5 (.int .i64 2)).run Tryz.prog W = .ok (.string ⟨#[109, 105, 100, 100, 108, 101]⟩) W := by kernel_rfl
set_option maxRecDepth 100000 in
theorem idx53 (W : World) : (Instr.index 33 n5 (.int .i64 3)).run Tryz.prog W = .ok (.string ⟨#[101, 110, 100]⟩) W := by kernel_rfl
set_option maxRecDepth 100000 in
theorem idx54 (W : World) : (Instr.index 33 n5 (.int .i64 4)).run Tryz.prog W = .ok (.string ⟨#[51]⟩) W := by kernel_rfl
set_option maxRecDepth 100000 in
set_option maxHeartbeats 8000000 in
theorem lists_no (A : Option Addr) (L : List Sd) (c B : Nat) (loc : ByteArray) (AA : Option Addr) (xs : List ByteArray) (cc : Nat) (st : ByteArray) (hn : L.length ≤ 281474976710656) (hx : ∀ x ∈ L, x.text.size ≤ 281474976710656) (hxs : ∀ x ∈ xs, x.size ≤ 281474976710656) (hxn : xs.length ≤ 281474976710656) (hcc : xs.length ≤ cc) (hA : AA = none → cc = 0) (hst : st.size ≤ 281474976710656) (hnm : isNameB st = false) (w : World) (hg : Glob w) (hgp : GlobP w) (hL : Saids w B A L) (hX : Texts w B AA xs) (hB : B ≤ w.heap.size) :
    Calls Tryz.prog 3 #[.slice A L.length c, .string loc, .agg #[.slice AA xs.length cc, .string st]] w fun e w' => e = .returned (.bool true) ∧ Below w.heap.size w w' := by
  have HT := fun (w : World) (hL : Saids w B A L) (hB : B ≤ w.heap.size) => told_any A L c B hn hx w hL hB
  have hb0 := (Below.refl w.heap.size w).alloc (Nat.le_refl _) (.cells #[.slice AA xs.length cc, .string st] 25)
  have hq0 := Blk.new w 25 #[.slice AA xs.length cc, .string st]
  have HW := wakes_any (hg.below hb0 hg.size)
  have hz0 : (w.alloc (.cells #[.slice AA xs.length cc, .string st] 25)).heap.size = w.heap.size + 1 := by simp
  go_enter Tryz.func3, Tryz.ntmps3
  go_wp2_with fail
  refine HW.mono ?_
  rintro e w1 ⟨rfl, hb1⟩
  have B1 := hb0.trans (hb1.mono (by omega))
  have q1 := hq0.below hb1 (by omega)
  clear HW hb0 hq0 hb1 hz0
  have HT1 := HT w1 (hL.below (B1.mono hB)) (Nat.le_trans hB B1.size)
  clear HT
  have z1 := q1.lt
  go_wp2_with fail
  refine HT1.mono ?_
  rintro e w2 ⟨v, rfl, hown, hb2⟩
  obtain ⟨A2, c2, rfl, hS2⟩ := Saids.of_own hown
  have B2 := B1.trans (hb2.mono (by omega))
  have q2 := q1.below hb2 (by omega)
  have z2 := q2.lt
  obtain ⟨L2, hL2⟩ : ∃ l, toldL L = l := ⟨_, rfl⟩
  have hx2 : ∀ x ∈ L2, x.text.size ≤ 281474976710656 := hL2 ▸ toldL_text
  have hn2 : L2.length ≤ 281474976710656 := by rw [← hL2]; have := toldL_len L; omega
  rw [hL2] at hS2 ⊢
  clear hown hL2 HT1 q1 z1 hb2
  have sB := Blk.new w2 28 #[.slice A2 L2.length c2]
  have q3 := q2.alloc (.cells #[.slice A2 L2.length c2] 28)
  have B3 := B2.alloc (by omega) (.cells #[.slice A2 L2.length c2] 28)
  have S3 := hS2.alloc' (.cells #[.slice A2 L2.length c2] 28)
  have z3 : (w2.alloc (.cells #[.slice A2 L2.length c2] 28)).heap.size = w2.heap.size + 1 := by simp
  go_upto_region 4 with fail
  obtain ⟨H2, hH2⟩ : ∃ H, w2.heap.size = H := ⟨_, rfl⟩
  rw [hH2] at sB S3 z3 z2 ⊢
  have hle2 : w.heap.size ≤ H2 := by have := B2.size; omega
  clear hS2 q2 B2 hH2 B1
  have hlw : Lw w B AA xs cc st H2 A2 L2 c2 (w2.alloc (.cells #[.slice A2 L2.length c2] 28)) := ⟨B3, q3, sB, S3, hX.below (B3.mono hB)⟩
  clear sB S3 q3 B3
  have hlt2 : w.heap.size < H2 := z2
  clear z2
  generalize w2.alloc (.cells #[.slice A2 L2.length c2] 28) = w4 at *
  obtain ⟨ys, hys⟩ : ∃ ys, ys = xs.take 1025 := ⟨_, rfl⟩
  have hyl : ys.length = min xs.length 1025 := by rw [hys, List.length_take]; omega
  have hm1 : min (xs.length : Int) 1025 = (ys.length : Int) := by omega
  have hm2 : ys.length ≤ cc := by omega
  have hm3 : (ys.length : Int) ≤ (cc : Int) := by omega
  have hY : ∀ W, Texts W B AA xs → Texts W B AA ys := fun W h => hys ▸ h.take 1025
  have hysz : ∀ x ∈ ys, x.size ≤ 281474976710656 := fun x hx => hxs x (List.mem_of_mem_take (hys ▸ hx))
  have hAy : AA = none → ys.length = 0 ∧ cc = 0 := fun h => by have := hA h; omega
  have hy5 : ys.length ≤ 1025 := by omega
  clear hys hyl hxs
  have d0 := hlw.bq.at_ 0 (v := .slice AA xs.length cc) rfl
  obtain ⟨i0, hi0, hz0, hz1, hz2⟩ := info_parts infoStr
  have hc1 := fun (w1 : World) (hg : w4.grownBy w1 none) => ((hY _ hlw.tx).grown hg (by have := hlw.bw.size; omega) (fun k hk => by cases hk)).cells
  have hmk : IntKind.i64.wrap ((ys.length : Int) + 2) = ((ys.length + 2 : Nat) : Int) := i64wrap (by omega) (by omega)
  have Z3 := Lib.hid z3
  clear z3
  go_upto_region 6 with (first
    | (at_make; refine wpList_make_own _ rfl _ _ 23 rfl w4.heap.size 9 i0 _ 1 Tryz.underlying23 hi0 hz0 hz1 .i64 .i64 _ (ys.length + 2) rfl rfl (by simp) (by rw [hz2]; omega) (by unfold maxLen; omega) (Nat.le_refl _) ?_; intro m1 hown1 hg1)
    | (at_builtin; go_loud (refine wpList_append_fits_any _ rfl (.tmp 35) (.tmp 36) 23 rfl w4.heap.size 9 i0 1 Tryz.underlying23 hi0 hz1 w4.heap.size 0 (ys.length + 2) [] rfl hown1 AA ys.length cc (tcells ys) rfl (by simp [tcells]) hAy (hc1 m1 hg1) (tcells_one _) (by omega) ?_); intro m2 hown2 hg2; simp only [Nat.zero_add, List.nil_append] at hown2 ⊢)
    | (at_builtin; go_loud (refine wpList_append_fits _ rfl (.tmp 37) (.tmp 38) 23 rfl w4.heap.size 9 i0 1 Tryz.underlying23 hi0 hz1 w4.heap.size ys.length (ys.length + 2) _ rfl (hown2.alloc _) ⟨m2.heap.size, 0, none⟩ 1 1 [.string ⟨#[126]⟩] rfl rfl (reads_new1c m2 _ _) (by intro u hu; simp at hu; rcases hu with rfl; rfl) (by omega) ?_); intro m3 hown3 hg3)
    | go_in)
  have hlw3 : Lw w B AA xs cc st H2 A2 L2 c2 m3 := (((hlw.grown hB hg1 hle2 (by intro k hk; cases hk)).grown hB hg2 hle2 (by intro k hk; cases hk; have := Z3.out; omega)).alloc hB _).grown hB hg3 hle2 (by intro k hk; cases hk; have := Z3.out; omega)
  have ht3 : tcells ys ++ [.string ⟨#[126]⟩] = tcells (ys ++ [tilde]) := by simp [tcells, tilde]
  have hT3 : Texts m3 m3.heap.size (some ⟨w4.heap.size, 0, none⟩) ys := Texts.of_own (ys := [tilde]) (by rw [← ht3, List.length_append]; exact hown3)
  have hc3 : m3.cell? ⟨w4.heap.size, ys.length, none⟩ = some (.string ⟨#[126]⟩) := by rw [hown3.cellAt ys.length (by omega)]; simp [tcells]
  have hl3 := (hown3.lt w4.heap.size rfl).2
  have hH52 : H2 < w4.heap.size := by have := Z3.out; omega
  clear hown1 hown2 hown3 hg1 hg2 hg3 ht3 hlw hc1 hmk hi0 hz0 hz1 hz2 d0 Z3 hm1 hm3 hX
  generalize w4.heap.size = H5 at *
  have hlo : Lo w B AA xs cc st H2 A2 L2 c2 H5 ys m3 := ⟨hlw3, fun hn => by obtain ⟨ad, e, _, hc⟩ := hT3 hn; cases e; exact ⟨_, rfl, Nat.lt_succ_self _, hc⟩, hc3, hl3⟩
  clear hT3 hc3 hl3 hlw3
  have hgm := hgp.below hlo.lw.bw hgp.size
  have pS := fun dr os => cell_regrown (hlo.lw.bs.at_ 0 (v := .slice A2 L2.length c2) rfl) dr os
  have pQ := fun dr os => cell_regrown (hlo.lw.bq.at_ 1 (v := .string st) rfl) dr os
  have HLi := fun dr os => list_any A2 L2 c2 m3.heap.size loc st (some ⟨H5, 0, none⟩) ys (ys.length + 2) hst (by omega) hysz hn2 hx2 (Sort.grow (redrawn m3 dr) os) (hgm.below (below_regrown m3 dr os) hgm.size) ((hlo.lw.sd.more (Nat.le_of_lt hlo.lw.bs.lt)).below (below_regrown m3 dr os)) ((hlo.ow.more hlo.lt).below (below_regrown m3 dr os)) (below_regrown m3 dr os).size
  obtain ⟨⟨r1, r2⟩, hr⟩ : ∃ q, listV L2 loc st ys = q := ⟨_, rfl⟩
  rw [hr] at HLi
  dsimp only at HLi
  unfold srcV at HLi
  have HR := Lib.hid hr
  clear hr
  refine wp_region_quiet_below (by kernel_rfl) (by kernel_rfl) ?_
  repeat (go_big_quiet_step ((go_at_call 10; exact Calls.regrown_of (HLi _ _))))
  refine wpQuiet_nil ?_
  intro _ hw'
  obtain ⟨⟨dq, osq⟩, hw''⟩ := hw'
  subst hw''
  have hlo := hlo.call (below_regrown m3 dq osq) hB
  clear HLi pS pQ hgm
  generalize Sort.grow (redrawn m3 dq) osq = w8 at *
  go_wp2_with fail
  go_loopw [55] (fun u wr => ∃ i : Nat, u = .int .i64 i ∧ i ≤ ys.length ∧ Lo w B AA xs cc st H2 A2 L2 c2 H5 ys wr) (fun u _ => ys.length - (intOf u).toNat)
  case atStart => exact ⟨0, rfl, Nat.zero_le _, hlo⟩
  case round =>
    clear hlo
    obtain ⟨i, rfl, hi, hlo⟩ := hrel
    by_cases hlt : i < ys.length
    · have o0 := hlo.own_at hlt
      obtain ⟨ad, rfl, _, hcx⟩ := hY _ hlo.lw.tx (by omega)
      have d0 := hcx i hlt
      clear hcx
      go_wp2_with fail
      go_quiet (fail)
      go_wp2_with fail
      go_roundw
      case rel => exact ⟨i + 1, by go_num, by omega, hlo.drewN hB _⟩
      case measure => simp [intOf]; omega
    · obtain rfl : i = ys.length := by omega
      rename World => wz
      have o1 := hlo.tl
      go_wp2_with fail
      clear o1
      have HI0 := idx50
      have HI1 := idx51
      have HI2 := idx52
      have HI3 := idx53
      have HI4 := idx54
      unfold n5 at HI0 HI1 HI2 HI3 HI4
      have HN := refIsName_any st hst
      rw [hnm] at HN
      have HLn := fun nm W => listPart_no A2 L2.length c2 loc st nm hnm hst W
      have HLz := fun nm W => listPart_nil loc st nm W
      unfold srcV at HLn
      go_loopw [75] (fun u wr => ∃ i : Nat, u = .int .i64 i ∧ i ≤ 5 ∧ Lo w B AA xs cc st H2 A2 L2 c2 H5 ys wr) (fun u _ => 5 - (intOf u).toNat)
      case atStart => exact ⟨0, rfl, by omega, hlo⟩
      case round =>
        clear hlo
        obtain ⟨i, rfl, hi, hlo⟩ := hrel
        have s0 := hlo.lw.bs.at_ 0 (v := .slice A2 L2.length c2) rfl
        have q0 := hlo.lw.bq.at_ 1 (v := .string st) rfl
        rcases (show i = 0 ∨ i = 1 ∨ i = 2 ∨ i = 3 ∨ i = 4 ∨ i = 5 by omega) with rfl | rfl | rfl | rfl | rfl | rfl
        case inr.inr.inr.inr.inr =>
          have hr := HR.out
          unfold listV at hr
          rw [hnm, if_neg (by decide)] at hr
          cases hr
          go_wp2_with (go_at_call 11; refine (HN _).mono ?_; rintro e w9 ⟨rfl, rfl⟩)
          refine bodyPost_ret (v := .bool true) ?_ rfl ⟨rfl, hlo.lw.bw⟩
          simp [results, Tryz.results3, go_sem]
        all_goals
          go_wp2_with (first | (go_at_call 11; refine (HN _).mono ?_; rintro e w9 ⟨rfl, rfl⟩) | (go_at_call 13; with_reducible refine (HLn _ _).mono ?_; rintro e w9 ⟨rfl, rfl⟩) | (go_at_call 13; with_reducible refine (HLz _ _).mono ?_; rintro e w9 ⟨rfl, rfl⟩))
          go_roundw
        all_goals first
          | exact ⟨1, rfl, by omega, hlo⟩
          | exact ⟨2, rfl, by omega, hlo⟩
          | exact ⟨3, rfl, by omega, hlo⟩
          | exact ⟨4, rfl, by omega, hlo⟩
          | exact ⟨5, rfl, by omega, hlo⟩
          | (simp [intOf])
set_option maxRecDepth 100000 in
set_option maxHeartbeats 8000000 in
theorem lists_yes (A : Option Addr) (L : List Sd) (c B : Nat) (loc : ByteArray) (AA : Option Addr) (xs : List ByteArray) (cc : Nat) (st : ByteArray) (hn : L.length ≤ 281474976710656) (hx : ∀ x ∈ L, x.text.size ≤ 281474976710656) (hxs : ∀ x ∈ xs, x.size ≤ 281474976710656) (hxn : xs.length ≤ 281474976710656) (hcc : xs.length ≤ cc) (hA : AA = none → cc = 0) (hst : st.size ≤ 281474976710656) (hnm : isNameB st = true) (w : World) (hg : Glob w) (hgp : GlobP w) (hL : Saids w B A L) (hX : Texts w B AA xs) (hB : B ≤ w.heap.size) :
    Calls Tryz.prog 3 #[.slice A L.length c, .string loc, .agg #[.slice AA xs.length cc, .string st]] w fun e w' => e = .returned (.bool true) ∧ Below w.heap.size w w' := by
  have HT := fun (w : World) (hL : Saids w B A L) (hB : B ≤ w.heap.size) => told_any A L c B hn hx w hL hB
  have hb0 := (Below.refl w.heap.size w).alloc (Nat.le_refl _) (.cells #[.slice AA xs.length cc, .string st] 25)
  have hq0 := Blk.new w 25 #[.slice AA xs.length cc, .string st]
  have HW := wakes_any (hg.below hb0 hg.size)
  have hz0 : (w.alloc (.cells #[.slice AA xs.length cc, .string st] 25)).heap.size = w.heap.size + 1 := by simp
  go_enter Tryz.func3, Tryz.ntmps3
  go_wp2_with fail
  refine HW.mono ?_
  rintro e w1 ⟨rfl, hb1⟩
  have B1 := hb0.trans (hb1.mono (by omega))
  have q1 := hq0.below hb1 (by omega)
  clear HW hb0 hq0 hb1 hz0
  have HT1 := HT w1 (hL.below (B1.mono hB)) (Nat.le_trans hB B1.size)
  clear HT
  have z1 := q1.lt
  go_wp2_with fail
  refine HT1.mono ?_
  rintro e w2 ⟨v, rfl, hown, hb2⟩
  obtain ⟨A2, c2, rfl, hS2⟩ := Saids.of_own hown
  have B2 := B1.trans (hb2.mono (by omega))
  have q2 := q1.below hb2 (by omega)
  have z2 := q2.lt
  obtain ⟨L2, hL2⟩ : ∃ l, toldL L = l := ⟨_, rfl⟩
  have hx2 : ∀ x ∈ L2, x.text.size ≤ 281474976710656 := hL2 ▸ toldL_text
  have hn2 : L2.length ≤ 281474976710656 := by rw [← hL2]; have := toldL_len L; omega
  rw [hL2] at hS2 ⊢
  clear hown hL2 HT1 q1 z1 hb2
  have sB := Blk.new w2 28 #[.slice A2 L2.length c2]
  have q3 := q2.alloc (.cells #[.slice A2 L2.length c2] 28)
  have B3 := B2.alloc (by omega) (.cells #[.slice A2 L2.length c2] 28)
  have S3 := hS2.alloc' (.cells #[.slice A2 L2.length c2] 28)
  have z3 : (w2.alloc (.cells #[.slice A2 L2.length c2] 28)).heap.size = w2.heap.size + 1 := by simp
  go_upto_region 4 with fail
  obtain ⟨H2, hH2⟩ : ∃ H, w2.heap.size = H := ⟨_, rfl⟩
  rw [hH2] at sB S3 z3 z2 ⊢
  have hle2 : w.heap.size ≤ H2 := by have := B2.size; omega
  clear hS2 q2 B2 hH2 B1
  have hlw : Lw w B AA xs cc st H2 A2 L2 c2 (w2.alloc (.cells #[.slice A2 L2.length c2] 28)) := ⟨B3, q3, sB, S3, hX.below (B3.mono hB)⟩
  clear sB S3 q3 B3
  have hlt2 : w.heap.size < H2 := z2
  clear z2
  generalize w2.alloc (.cells #[.slice A2 L2.length c2] 28) = w4 at *
  obtain ⟨ys, hys⟩ : ∃ ys, ys = xs.take 1025 := ⟨_, rfl⟩
  have hyl : ys.length = min xs.length 1025 := by rw [hys, List.length_take]; omega
  have hm1 : min (xs.length : Int) 1025 = (ys.length : Int) := by omega
  have hm2 : ys.length ≤ cc := by omega
  have hm3 : (ys.length : Int) ≤ (cc : Int) := by omega
  have hY : ∀ W, Texts W B AA xs → Texts W B AA ys := fun W h => hys ▸ h.take 1025
  have hysz : ∀ x ∈ ys, x.size ≤ 281474976710656 := fun x hx => hxs x (List.mem_of_mem_take (hys ▸ hx))
  have hAy : AA = none → ys.length = 0 ∧ cc = 0 := fun h => by have := hA h; omega
  have hy5 : ys.length ≤ 1025 := by omega
  clear hys hyl hxs
  have d0 := hlw.bq.at_ 0 (v := .slice AA xs.length cc) rfl
  obtain ⟨i0, hi0, hz0, hz1, hz2⟩ := info_parts infoStr
  have hc1 := fun (w1 : World) (hg : w4.grownBy w1 none) => ((hY _ hlw.tx).grown hg (by have := hlw.bw.size; omega) (fun k hk => by cases hk)).cells
  have hmk : IntKind.i64.wrap ((ys.length : Int) + 2) = ((ys.length + 2 : Nat) : Int) := i64wrap (by omega) (by omega)
  have Z3 := Lib.hid z3
  clear z3
  go_upto_region 6 with (first
    | (at_make; refine wpList_make_own _ rfl _ _ 23 rfl w4.heap.size 9 i0 _ 1 Tryz.underlying23 hi0 hz0 hz1 .i64 .i64 _ (ys.length + 2) rfl rfl (by simp) (by rw [hz2]; omega) (by unfold maxLen; omega) (Nat.le_refl _) ?_; intro m1 hown1 hg1)
    | (at_builtin; go_loud (refine wpList_append_fits_any _ rfl (.tmp 35) (.tmp 36) 23 rfl w4.heap.size 9 i0 1 Tryz.underlying23 hi0 hz1 w4.heap.size 0 (ys.length + 2) [] rfl hown1 AA ys.length cc (tcells ys) rfl (by simp [tcells]) hAy (hc1 m1 hg1) (tcells_one _) (by omega) ?_); intro m2 hown2 hg2; simp only [Nat.zero_add, List.nil_append] at hown2 ⊢)
    | (at_builtin; go_loud (refine wpList_append_fits _ rfl (.tmp 37) (.tmp 38) 23 rfl w4.heap.size 9 i0 1 Tryz.underlying23 hi0 hz1 w4.heap.size ys.length (ys.length + 2) _ rfl (hown2.alloc _) ⟨m2.heap.size, 0, none⟩ 1 1 [.string ⟨#[126]⟩] rfl rfl (reads_new1c m2 _ _) (by intro u hu; simp at hu; rcases hu with rfl; rfl) (by omega) ?_); intro m3 hown3 hg3)
    | go_in)
  have hlw3 : Lw w B AA xs cc st H2 A2 L2 c2 m3 := (((hlw.grown hB hg1 hle2 (by intro k hk; cases hk)).grown hB hg2 hle2 (by intro k hk; cases hk; have := Z3.out; omega)).alloc hB _).grown hB hg3 hle2 (by intro k hk; cases hk; have := Z3.out; omega)
  have ht3 : tcells ys ++ [.string ⟨#[126]⟩] = tcells (ys ++ [tilde]) := by simp [tcells, tilde]
  have hT3 : Texts m3 m3.heap.size (some ⟨w4.heap.size, 0, none⟩) ys := Texts.of_own (ys := [tilde]) (by rw [← ht3, List.length_append]; exact hown3)
  have hc3 : m3.cell? ⟨w4.heap.size, ys.length, none⟩ = some (.string ⟨#[126]⟩) := by rw [hown3.cellAt ys.length (by omega)]; simp [tcells]
  have hl3 := (hown3.lt w4.heap.size rfl).2
  have hH52 : H2 < w4.heap.size := by have := Z3.out; omega
  clear hown1 hown2 hown3 hg1 hg2 hg3 ht3 hlw hc1 hmk hi0 hz0 hz1 hz2 d0 Z3 hm1 hm3 hX
  generalize w4.heap.size = H5 at *
  have hlo : Lo w B AA xs cc st H2 A2 L2 c2 H5 ys m3 := ⟨hlw3, fun hn => by obtain ⟨ad, e, _, hc⟩ := hT3 hn; cases e; exact ⟨_, rfl, Nat.lt_succ_self _, hc⟩, hc3, hl3⟩
  clear hT3 hc3 hl3 hlw3
  have hgm := hgp.below hlo.lw.bw hgp.size
  have pS := fun dr os => cell_regrown (hlo.lw.bs.at_ 0 (v := .slice A2 L2.length c2) rfl) dr os
  have pQ := fun dr os => cell_regrown (hlo.lw.bq.at_ 1 (v := .string st) rfl) dr os
  have HLi := fun dr os => list_any A2 L2 c2 m3.heap.size loc st (some ⟨H5, 0, none⟩) ys (ys.length + 2) hst (by omega) hysz hn2 hx2 (Sort.grow (redrawn m3 dr) os) (hgm.below (below_regrown m3 dr os) hgm.size) ((hlo.lw.sd.more (Nat.le_of_lt hlo.lw.bs.lt)).below (below_regrown m3 dr os)) ((hlo.ow.more hlo.lt).below (below_regrown m3 dr os)) (below_regrown m3 dr os).size
  obtain ⟨⟨r1, r2⟩, hr⟩ : ∃ q, listV L2 loc st ys = q := ⟨_, rfl⟩
  rw [hr] at HLi
  dsimp only at HLi
  unfold srcV at HLi
  have HR := Lib.hid hr
  clear hr
  refine wp_region_quiet_below (by kernel_rfl) (by kernel_rfl) ?_
  repeat (go_big_quiet_step ((go_at_call 10; exact Calls.regrown_of (HLi _ _))))
  refine wpQuiet_nil ?_
  intro _ hw'
  obtain ⟨⟨dq, osq⟩, hw''⟩ := hw'
  subst hw''
  have hlo := hlo.call (below_regrown m3 dq osq) hB
  clear HLi pS pQ hgm
  generalize Sort.grow (redrawn m3 dq) osq = w8 at *
  go_wp2_with fail
  go_loopw [55] (fun u wr => ∃ i : Nat, u = .int .i64 i ∧ i ≤ ys.length ∧ Lo w B AA xs cc st H2 A2 L2 c2 H5 ys wr) (fun u _ => ys.length - (intOf u).toNat)
  case atStart => exact ⟨0, rfl, Nat.zero_le _, hlo⟩
  case round =>
    clear hlo
    obtain ⟨i, rfl, hi, hlo⟩ := hrel
    by_cases hlt : i < ys.length
    · have o0 := hlo.own_at hlt
      obtain ⟨ad, rfl, _, hcx⟩ := hY _ hlo.lw.tx (by omega)
      have d0 := hcx i hlt
      clear hcx
      go_wp2_with fail
      go_quiet (fail)
      go_wp2_with fail
      go_roundw
      case rel => exact ⟨i + 1, by go_num, by omega, hlo.drewN hB _⟩
      case measure => simp [intOf]; omega
    · obtain rfl : i = ys.length := by omega
      rename World => wz
      have o1 := hlo.tl
      go_wp2_with fail
      clear o1
      have HI0 := idx50
      have HI1 := idx51
      have HI2 := idx52
      have HI3 := idx53
      have HI4 := idx54
      unfold n5 at HI0 HI1 HI2 HI3 HI4
      have hs4 := name_size hnm
      have HN := refIsName_any st hst
      rw [hnm] at HN
      have HPt := fun (nm : ByteArray) (h2 : nm.size ≤ 4096) W (h : Lo w B AA xs cc st H2 A2 L2 c2 H5 ys W) => lpart_any A2 L2 c2 H2 loc st nm hs4 h2 hn2 hx2 W h.lw.sd (Nat.le_of_lt h.lw.bs.lt)
      have HLy := fun (nm : ByteArray) (h2 : nm.size ≤ 4096) (hp : isPartB nm = true) W (h : Lo w B AA xs cc st H2 A2 L2 c2 H5 ys W) => listPart_yes A2 L2.length c2 loc st nm _ hnm hst hp W (part_any A2 L2 c2 H2 loc st nm hs4 h2 hn2 hx2 W (hgp.below h.lw.bw hgp.size) h.lw.sd (Nat.le_of_lt h.lw.bs.lt))
      have HLo := fun W => listPart_other A2 L2.length c2 loc st ⟨#[51]⟩ hnm hst (by kernel_rfl) W
      have HLz := fun nm W => listPart_nil loc st nm W
      unfold srcV at HLy HLo
      go_loopw [75] (fun u wr => ∃ i : Nat, u = .int .i64 i ∧ i ≤ 5 ∧ Lo w B AA xs cc st H2 A2 L2 c2 H5 ys wr) (fun u _ => 5 - (intOf u).toNat)
      case atStart => exact ⟨0, rfl, by omega, hlo⟩
      case round =>
        clear hlo
        obtain ⟨i, rfl, hi, hlo⟩ := hrel
        have s0 := hlo.lw.bs.at_ 0 (v := .slice A2 L2.length c2) rfl
        have q0 := hlo.lw.bq.at_ 1 (v := .string st) rfl
        rcases (show i = 0 ∨ i = 1 ∨ i = 2 ∨ i = 3 ∨ i = 4 ∨ i = 5 by omega) with rfl | rfl | rfl | rfl | rfl | rfl
        case inl =>
          have HP1 := HPt ⟨#[50]⟩ (by decide) wr hlo
          have HQ1 := HLy ⟨#[50]⟩ (by decide) (by kernel_rfl)
          generalize partT L2 loc st ⟨#[50]⟩ = p at HP1 HQ1
          clear HPt HLy HLo
          go_wp2_with (first | (go_at_call 11; refine (HN _).mono ?_; rintro e w9 ⟨rfl, rfl⟩) | (go_at_call 12; refine HP1.mono ?_; rintro e w10 ⟨rfl, hb10⟩; have hlo10 := hlo.call hb10 hB; have HQ2 := HQ1 w10 hlo10; have q10 := hlo10.lw.bq.at_ 1 (v := .string st) rfl; have s10 := hlo10.lw.bs.at_ 0 (v := .slice A2 L2.length c2) rfl) | (go_at_call 13; with_reducible refine HQ2.mono ?_; rintro e w11 ⟨rfl, hb11⟩; have hlo11 := hlo10.call hb11 hB; have q11 := hlo11.lw.bq.at_ 1 (v := .string st) rfl) | (go_at_call 13; with_reducible refine (HLz _ _).mono ?_; rintro e w12 ⟨rfl, rfl⟩))
          go_roundw
          case rel => exact ⟨1, rfl, by omega, hlo11⟩
          case measure => simp [intOf]
        case inr.inl =>
          have HP1 := HPt ⟨#[115, 116, 97, 114, 116]⟩ (by decide) wr hlo
          have HQ1 := HLy ⟨#[115, 116, 97, 114, 116]⟩ (by decide) (by kernel_rfl)
          generalize partT L2 loc st ⟨#[115, 116, 97, 114, 116]⟩ = p at HP1 HQ1
          clear HPt HLy HLo
          go_wp2_with (first | (go_at_call 11; refine (HN _).mono ?_; rintro e w9 ⟨rfl, rfl⟩) | (go_at_call 12; refine HP1.mono ?_; rintro e w10 ⟨rfl, hb10⟩; have hlo10 := hlo.call hb10 hB; have HQ2 := HQ1 w10 hlo10; have q10 := hlo10.lw.bq.at_ 1 (v := .string st) rfl; have s10 := hlo10.lw.bs.at_ 0 (v := .slice A2 L2.length c2) rfl) | (go_at_call 13; with_reducible refine HQ2.mono ?_; rintro e w11 ⟨rfl, hb11⟩; have hlo11 := hlo10.call hb11 hB; have q11 := hlo11.lw.bq.at_ 1 (v := .string st) rfl) | (go_at_call 13; with_reducible refine (HLz _ _).mono ?_; rintro e w12 ⟨rfl, rfl⟩))
          go_roundw
          case rel => exact ⟨2, rfl, by omega, hlo11⟩
          case measure => simp [intOf]
        case inr.inr.inl =>
          have HP1 := HPt ⟨#[109, 105, 100, 100, 108, 101]⟩ (by decide) wr hlo
          have HQ1 := HLy ⟨#[109, 105, 100, 100, 108, 101]⟩ (by decide) (by kernel_rfl)
          generalize partT L2 loc st ⟨#[109, 105, 100, 100, 108, 101]⟩ = p at HP1 HQ1
          clear HPt HLy HLo
          go_wp2_with (first | (go_at_call 11; refine (HN _).mono ?_; rintro e w9 ⟨rfl, rfl⟩) | (go_at_call 12; refine HP1.mono ?_; rintro e w10 ⟨rfl, hb10⟩; have hlo10 := hlo.call hb10 hB; have HQ2 := HQ1 w10 hlo10; have q10 := hlo10.lw.bq.at_ 1 (v := .string st) rfl; have s10 := hlo10.lw.bs.at_ 0 (v := .slice A2 L2.length c2) rfl) | (go_at_call 13; with_reducible refine HQ2.mono ?_; rintro e w11 ⟨rfl, hb11⟩; have hlo11 := hlo10.call hb11 hB; have q11 := hlo11.lw.bq.at_ 1 (v := .string st) rfl) | (go_at_call 13; with_reducible refine (HLz _ _).mono ?_; rintro e w12 ⟨rfl, rfl⟩))
          go_roundw
          case rel => exact ⟨3, rfl, by omega, hlo11⟩
          case measure => simp [intOf]
        case inr.inr.inr.inl =>
          have HP1 := HPt ⟨#[101, 110, 100]⟩ (by decide) wr hlo
          have HQ1 := HLy ⟨#[101, 110, 100]⟩ (by decide) (by kernel_rfl)
          generalize partT L2 loc st ⟨#[101, 110, 100]⟩ = p at HP1 HQ1
          clear HPt HLy HLo
          go_wp2_with (first | (go_at_call 11; refine (HN _).mono ?_; rintro e w9 ⟨rfl, rfl⟩) | (go_at_call 12; refine HP1.mono ?_; rintro e w10 ⟨rfl, hb10⟩; have hlo10 := hlo.call hb10 hB; have HQ2 := HQ1 w10 hlo10; have q10 := hlo10.lw.bq.at_ 1 (v := .string st) rfl; have s10 := hlo10.lw.bs.at_ 0 (v := .slice A2 L2.length c2) rfl) | (go_at_call 13; with_reducible refine HQ2.mono ?_; rintro e w11 ⟨rfl, hb11⟩; have hlo11 := hlo10.call hb11 hB; have q11 := hlo11.lw.bq.at_ 1 (v := .string st) rfl) | (go_at_call 13; with_reducible refine (HLz _ _).mono ?_; rintro e w12 ⟨rfl, rfl⟩))
          go_roundw
          case rel => exact ⟨4, rfl, by omega, hlo11⟩
          case measure => simp [intOf]
        case inr.inr.inr.inr.inl =>
          clear HPt HLy
          go_wp2_with (first | (go_at_call 11; refine (HN _).mono ?_; rintro e w9 ⟨rfl, rfl⟩) | (go_at_call 13; with_reducible refine (HLo _).mono ?_; rintro e w11 ⟨rfl, rfl⟩) | (go_at_call 13; with_reducible refine (HLz _ _).mono ?_; rintro e w12 ⟨rfl, rfl⟩))
          go_roundw
          case rel => exact ⟨5, rfl, by omega, hlo⟩
          case measure => simp [intOf]
        case inr.inr.inr.inr.inr =>
          clear HLy HLo HLz HI0 HI1 HI2 HI3 HI4
          have hr := HR.out
          unfold listV at hr
          rw [if_pos hnm] at hr
          by_cases hl : 1024 < ys.length
          · rw [if_pos hl] at hr
            cases hr
            have hl' : (1024 : Int) < (ys.length : Int) := by omega
            clear HPt
            go_wp2_with (go_at_call 11; refine (HN _).mono ?_; rintro e w9 ⟨rfl, rfl⟩)
            refine bodyPost_ret (v := .bool true) ?_ rfl ⟨rfl, hlo.lw.bw⟩
            simp [results, Tryz.results3, go_sem]
          · rw [if_neg hl] at hr
            have hl' : ¬ (1024 : Int) < (ys.length : Int) := by omega
            have HR2 := Lib.hid hr
            clear hr HR
            go_wp2_with (go_at_call 11; refine (HN _).mono ?_; rintro e w9 ⟨rfl, rfl⟩)
            clear HN s0 q0 hi
            go_loopw [132] (fun u wr => ∃ i : Nat, u = .int .i64 i ∧ i ≤ ys.length ∧ Lo w B AA xs cc st H2 A2 L2 c2 H5 ys wr ∧ (ys.take i).any wrongU = false) (fun u _ => ys.length - (intOf u).toNat)
            case atStart => exact ⟨0, rfl, by omega, hlo, by simp⟩
            case round =>
              clear hlo
              obtain ⟨i, rfl, hi, hlo, hno⟩ := hrel
              by_cases hlt : i < ys.length
              · obtain ⟨ad, rfl, _, hcx⟩ := hY _ hlo.lw.tx (by omega)
                have d0 := hcx i hlt
                have hyz := hysz _ (List.getElem_mem hlt)
                have htk := wr_take hlt
                rw [hno, Bool.false_or] at htk
                cases hwu : wrongU ys[i] with
                | true =>
                  have hr := HR2.out
                  rw [if_pos (wr_hit hlt hwu)] at hr
                  cases hr
                  have HRi := right_any ys[i] hyz false (by unfold wrongU at hwu; simpa using hwu)
                  clear hcx hwu htk hno
                  go_wp2_with (go_at_call 14; refine (HRi _).mono ?_; rintro e w9 ⟨rfl, rfl⟩)
                  refine bodyPost_ret (v := .bool true) ?_ rfl ⟨rfl, hlo.lw.bw⟩
                  simp [results, Tryz.results3, go_sem]
                | false =>
                  have HRi := right_any ys[i] hyz true (by unfold wrongU at hwu; simpa using hwu)
                  rw [hwu] at htk
                  have HTK := Lib.hid htk
                  clear hcx hwu htk hno
                  go_wp2_with (go_at_call 14; refine (HRi _).mono ?_; rintro e w9 ⟨rfl, rfl⟩)
                  go_roundw
                  case rel => exact ⟨i + 1, by go_num, by omega, hlo, HTK.out⟩
                  case measure => simp [intOf]; omega
              · obtain rfl : i = ys.length := by omega
                rw [List.take_length] at hno
                have hr := HR2.out
                rw [hno, if_neg (by decide)] at hr
                have HR3 := Lib.hid hr
                clear hr HR2 hno
                go_upto_region 34 with fail
                have s0 := hlo.lw.bs.at_ 0 (v := .slice A2 L2.length c2) rfl
                have q0 := hlo.lw.bq.at_ 1 (v := .string st) rfl
                have nA0 := Nat.ne_of_lt hlo.lw.bs.lt
                have nA0' := nA0.symm
                have nB0 := Nat.ne_of_lt hlo.lw.bq.lt
                have nB0' := nB0.symm
                have HP1 := fun W h => HPt ⟨#[50]⟩ (by decide) W h
                have HP2 := fun W h => HPt ⟨#[115, 116, 97, 114, 116]⟩ (by decide) W h
                have HP3 := fun W h => HPt ⟨#[109, 105, 100, 100, 108, 101]⟩ (by decide) W h
                have HP4 := fun W h => HPt ⟨#[101, 110, 100]⟩ (by decide) W h
                have hlist := HR3.out
                unfold listL tTwo tSta tMid tEnd at hlist
                have zp1 := partT_size L2 loc st ⟨#[50]⟩ hx2
                have zp2 := partT_size L2 loc st ⟨#[115, 116, 97, 114, 116]⟩ hx2
                have zp3 := partT_size L2 loc st ⟨#[109, 105, 100, 100, 108, 101]⟩ hx2
                have zp4 := partT_size L2 loc st ⟨#[101, 110, 100]⟩ hx2
                clear HPt HR3
                generalize partT L2 loc st ⟨#[50]⟩ = p1 at *
                generalize partT L2 loc st ⟨#[115, 116, 97, 114, 116]⟩ = p2 at *
                generalize partT L2 loc st ⟨#[109, 105, 100, 100, 108, 101]⟩ = p3 at *
                generalize partT L2 loc st ⟨#[101, 110, 100]⟩ = p4 at *
                have HLI := Lib.hid hlist
                clear hlist hi hlt
                go_cut [18] (fun s18 wc => ∃ G, s18 = .pointer (some ⟨G, 0, none⟩) ∧ Lo w B AA xs cc st H2 A2 L2 c2 H5 ys wc ∧ Blk wc G 38 #[.string p1, .string p2, .string p3, .string p4])
                case first =>
                  clear HLI zp1 zp2 zp3 zp4 hY hysz hx2 hn2 hg hgp hx hL hcc hxn hAy hm2
                  go_region_held3 (fun w' => w'.cell? ⟨H2, 0, none⟩ = some (.slice A2 L2.length c2) ∧ w'.cell? ⟨w.heap.size, 1, none⟩ = some (.string st)) (first | (with_reducible exact ⟨cellW s0, cellW q0⟩) | (with_reducible exact ⟨s4, q4⟩) | (with_reducible exact ⟨s3, q3⟩) | (with_reducible exact ⟨s2, q2⟩) | (with_reducible exact ⟨s1, q1⟩) | (with_reducible exact ⟨s0, q0⟩) | (with_reducible exact ⟨cellA _ s4, cellA _ q4⟩) | (with_reducible exact ⟨cellA _ s3, cellA _ q3⟩) | (with_reducible exact ⟨cellA _ s2, cellA _ q2⟩) | (with_reducible exact ⟨cellA _ s1, cellA _ q1⟩) | (with_reducible exact ⟨cellA _ s0, cellA _ q0⟩) | (with_reducible exact ⟨cellD _ s0, cellD _ q0⟩) | (refine ⟨?_, ?_⟩ <;> (repeat rw [World.cell?_setCell_far _ _ _ _ (by first | exact nA0 | exact nA0' | exact nB0 | exact nB0' | exact nA1 | exact nA1' | exact nB1 | exact nB1' | exact nA2 | exact nA2' | exact nB2 | exact nB2' | exact nA3 | exact nA3' | exact nB3 | exact nB3')]) <;> with_reducible assumption)) ((first | (go_at_call 12; with_reducible refine (HP1 _ ?_).mono ?_; (repeat (first | (with_reducible assumption) | (with_reducible refine Lo.drew ?_ hB) | (with_reducible refine Lo.alloc ?_ hB _))); rintro e x1 ⟨rfl, hc1⟩; have hl1 : Lo w B AA xs cc st H2 A2 L2 c2 H5 ys x1 := (by (refine Lo.call ?_ hc1 hB); (repeat (first | (with_reducible assumption) | (with_reducible refine Lo.drew ?_ hB) | (with_reducible refine Lo.alloc ?_ hB _)))); have s1 := hl1.lw.bs.at_ 0 (v := .slice A2 L2.length c2) rfl; have q1 := hl1.lw.bq.at_ 1 (v := .string st) rfl; have lA1 := hl1.lw.bs.lt; have lB1 := hl1.lw.bq.lt; have nA1 := Nat.ne_of_lt lA1; have nA1' := nA1.symm; have nB1 := Nat.ne_of_lt lB1; have nB1' := nB1.symm; (try (have bn0_1 : Blk x1 wr.heap.size 38 #[.string ⟨#[]⟩, .string ⟨#[]⟩, .string ⟨#[]⟩, .string ⟨#[]⟩] := Blk.below (Blk.drew (Blk.new wr 38 #[.string ⟨#[]⟩, .string ⟨#[]⟩, .string ⟨#[]⟩, .string ⟨#[]⟩])) hc1 (drew_lt wr (.cells #[.string ⟨#[]⟩, .string ⟨#[]⟩, .string ⟨#[]⟩, .string ⟨#[]⟩] 38))))) | (go_at_call 12; with_reducible refine (HP2 _ ?_).mono ?_; (repeat (first | (with_reducible assumption) | (with_reducible refine Lo.drew ?_ hB) | (with_reducible refine Lo.alloc ?_ hB _))); rintro e x2 ⟨rfl, hc2⟩; have hl2 : Lo w B AA xs cc st H2 A2 L2 c2 H5 ys x2 := (by (refine Lo.call ?_ hc2 hB); (repeat (first | (with_reducible assumption) | (with_reducible refine Lo.drew ?_ hB) | (with_reducible refine Lo.alloc ?_ hB _)))); have s2 := hl2.lw.bs.at_ 0 (v := .slice A2 L2.length c2) rfl; have q2 := hl2.lw.bq.at_ 1 (v := .string st) rfl; have lA2 := hl2.lw.bs.lt; have lB2 := hl2.lw.bq.lt; have nA2 := Nat.ne_of_lt lA2; have nA2' := nA2.symm; have nB2 := Nat.ne_of_lt lB2; have nB2' := nB2.symm; (try (have bn0_2 : Blk x2 wr.heap.size 38 #[.string ⟨#[]⟩, .string ⟨#[]⟩, .string ⟨#[]⟩, .string ⟨#[]⟩] := Blk.below bn0_1 hc2 bn0_1.lt)); (try (have bn1_2 : Blk x2 x1.heap.size 38 #[.string ⟨#[]⟩, .string ⟨#[]⟩, .string ⟨#[]⟩, .string ⟨#[]⟩] := Blk.below (Blk.new x1 38 #[.string ⟨#[]⟩, .string ⟨#[]⟩, .string ⟨#[]⟩, .string ⟨#[]⟩]) hc2 (alloc_lt x1 (.cells #[.string ⟨#[]⟩, .string ⟨#[]⟩, .string ⟨#[]⟩, .string ⟨#[]⟩] 38))))) | (go_at_call 12; with_reducible refine (HP3 _ ?_).mono ?_; (repeat (first | (with_reducible assumption) | (with_reducible refine Lo.drew ?_ hB) | (with_reducible refine Lo.alloc ?_ hB _))); rintro e x3 ⟨rfl, hc3⟩; have hl3 : Lo w B AA xs cc st H2 A2 L2 c2 H5 ys x3 := (by (refine Lo.call ?_ hc3 hB); (repeat (first | (with_reducible assumption) | (with_reducible refine Lo.drew ?_ hB) | (with_reducible refine Lo.alloc ?_ hB _)))); have s3 := hl3.lw.bs.at_ 0 (v := .slice A2 L2.length c2) rfl; have q3 := hl3.lw.bq.at_ 1 (v := .string st) rfl; have lA3 := hl3.lw.bs.lt; have lB3 := hl3.lw.bq.lt; have nA3 := Nat.ne_of_lt lA3; have nA3' := nA3.symm; have nB3 := Nat.ne_of_lt lB3; have nB3' := nB3.symm; (try (have bn0_3 : Blk x3 wr.heap.size 38 #[.string ⟨#[]⟩, .string ⟨#[]⟩, .string ⟨#[]⟩, .string ⟨#[]⟩] := Blk.below bn0_2 hc3 bn0_2.lt)); (try (have bn1_3 : Blk x3 x1.heap.size 38 #[.string ⟨#[]⟩, .string ⟨#[]⟩, .string ⟨#[]⟩, .string ⟨#[]⟩] := Blk.below bn1_2 hc3 bn1_2.lt)); (try (have bn2_3 : Blk x3 x2.heap.size 38 #[.string ⟨#[]⟩, .string ⟨#[]⟩, .string ⟨#[]⟩, .string ⟨#[]⟩] := Blk.below (Blk.new x2 38 #[.string ⟨#[]⟩, .string ⟨#[]⟩, .string ⟨#[]⟩, .string ⟨#[]⟩]) hc3 (alloc_lt x2 (.cells #[.string ⟨#[]⟩, .string ⟨#[]⟩, .string ⟨#[]⟩, .string ⟨#[]⟩] 38))))) | (go_at_call 12; with_reducible refine (HP4 _ ?_).mono ?_; (repeat (first | (with_reducible assumption) | (with_reducible refine Lo.drew ?_ hB) | (with_reducible refine Lo.alloc ?_ hB _))); rintro e x4 ⟨rfl, hc4⟩; have hl4 : Lo w B AA xs cc st H2 A2 L2 c2 H5 ys x4 := (by (refine Lo.call ?_ hc4 hB); (repeat (first | (with_reducible assumption) | (with_reducible refine Lo.drew ?_ hB) | (with_reducible refine Lo.alloc ?_ hB _)))); have s4 := hl4.lw.bs.at_ 0 (v := .slice A2 L2.length c2) rfl; have q4 := hl4.lw.bq.at_ 1 (v := .string st) rfl; have lA4 := hl4.lw.bs.lt; have lB4 := hl4.lw.bq.lt; have nA4 := Nat.ne_of_lt lA4; have nA4' := nA4.symm; have nB4 := Nat.ne_of_lt lB4; have nB4' := nB4.symm; (try (have bn0_4 : Blk x4 wr.heap.size 38 #[.string ⟨#[]⟩, .string ⟨#[]⟩, .string ⟨#[]⟩, .string ⟨#[]⟩] := Blk.below bn0_3 hc4 bn0_3.lt)); (try (have bn1_4 : Blk x4 x1.heap.size 38 #[.string ⟨#[]⟩, .string ⟨#[]⟩, .string ⟨#[]⟩, .string ⟨#[]⟩] := Blk.below bn1_3 hc4 bn1_3.lt)); (try (have bn2_4 : Blk x4 x2.heap.size 38 #[.string ⟨#[]⟩, .string ⟨#[]⟩, .string ⟨#[]⟩, .string ⟨#[]⟩] := Blk.below bn2_3 hc4 bn2_3.lt)); (try (have bn3_4 : Blk x4 x3.heap.size 38 #[.string ⟨#[]⟩, .string ⟨#[]⟩, .string ⟨#[]⟩, .string ⟨#[]⟩] := Blk.below (Blk.new x3 38 #[.string ⟨#[]⟩, .string ⟨#[]⟩, .string ⟨#[]⟩, .string ⟨#[]⟩]) hc4 (alloc_lt x3 (.cells #[.string ⟨#[]⟩, .string ⟨#[]⟩, .string ⟨#[]⟩, .string ⟨#[]⟩] 38)))); (try (have z00 := bn0_4.at_ 0 (v := .string ⟨#[]⟩) rfl)); (try (have z01 := bn0_4.at_ 1 (v := .string ⟨#[]⟩) rfl)); (try (have z02 := bn0_4.at_ 2 (v := .string ⟨#[]⟩) rfl)); (try (have z03 := bn0_4.at_ 3 (v := .string ⟨#[]⟩) rfl)); (try (have z0f := bn0_4.frozen)); (try (have z10 := bn1_4.at_ 0 (v := .string ⟨#[]⟩) rfl)); (try (have z11 := bn1_4.at_ 1 (v := .string ⟨#[]⟩) rfl)); (try (have z12 := bn1_4.at_ 2 (v := .string ⟨#[]⟩) rfl)); (try (have z13 := bn1_4.at_ 3 (v := .string ⟨#[]⟩) rfl)); (try (have z1f := bn1_4.frozen)); (try (have z20 := bn2_4.at_ 0 (v := .string ⟨#[]⟩) rfl)); (try (have z21 := bn2_4.at_ 1 (v := .string ⟨#[]⟩) rfl)); (try (have z22 := bn2_4.at_ 2 (v := .string ⟨#[]⟩) rfl)); (try (have z23 := bn2_4.at_ 3 (v := .string ⟨#[]⟩) rfl)); (try (have z2f := bn2_4.frozen)); (try (have z30 := bn3_4.at_ 0 (v := .string ⟨#[]⟩) rfl)); (try (have z31 := bn3_4.at_ 1 (v := .string ⟨#[]⟩) rfl)); (try (have z32 := bn3_4.at_ 2 (v := .string ⟨#[]⟩) rfl)); (try (have z33 := bn3_4.at_ 3 (v := .string ⟨#[]⟩) rfl)); (try (have z3f := bn3_4.frozen)))))
                  all_goals go_wp2_with fail
                  all_goals go_meet
                  all_goals first
                    | exact ⟨_, rfl, (hl4.alloc hB _), Blk.new _ _ _⟩
                    | exact ⟨_, rfl, Lo.set4 hl4 hB (by have := hlo.lw.bs.lt; omega) (by have := hlo.lt; omega) _ _ _ _ hle2, Blk.set4 bn0_4 _ _ _ _⟩
                    | exact ⟨_, rfl, Lo.set4 hl4 hB (by have := hl1.lw.bs.lt; omega) (by have := hl1.lt; omega) _ _ _ _ hle2, Blk.set4 bn1_4 _ _ _ _⟩
                    | exact ⟨_, rfl, Lo.set4 hl4 hB (by have := hl2.lw.bs.lt; omega) (by have := hl2.lt; omega) _ _ _ _ hle2, Blk.set4 bn2_4 _ _ _ _⟩
                    | exact ⟨_, rfl, Lo.set4 hl4 hB (by have := hl3.lw.bs.lt; omega) (by have := hl3.lt; omega) _ _ _ _ hle2, Blk.set4 bn3_4 _ _ _ _⟩
                    | trace_state
                case rest =>
                  obtain ⟨G, rfl, hlo9, hPb⟩ := hcut
                  have g0 := hPb.at_ 0 (v := .string p1) rfl
                  have g1 := hPb.at_ 1 (v := .string p2) rfl
                  have g2 := hPb.at_ 2 (v := .string p3) rfl
                  have g3 := hPb.at_ 3 (v := .string p4) rfl
                  have HF := reflist_any p1 p2 p3 p4 AA ys cc B (by omega) hysz zp1 zp2 zp3 zp4 wc (hY _ hlo9.lw.tx) (Nat.le_trans hB hlo9.lw.bw.size)
                  rw [HLI.out] at HF
                  dsimp only at HF
                  clear hlo s0 q0 HP1 HP2 HP3 HP4
                  go_wp2_with (go_at_call 15; refine HF.mono ?_; rintro e w9 ⟨rfl, hb9⟩)
                  refine bodyPost_ret (v := .bool true) ?_ rfl ⟨rfl, hlo9.lw.bw.trans (hb9.mono hlo9.lw.bw.size)⟩
                  simp [results, Tryz.results3, go_sem]
theorem lists_law (A : Option Addr) (L : List Sd) (c B : Nat) (loc : ByteArray) (AA : Option Addr) (xs : List ByteArray) (cc : Nat) (st : ByteArray) (hn : L.length ≤ 281474976710656) (hx : ∀ x ∈ L, x.text.size ≤ 281474976710656) (hxs : ∀ x ∈ xs, x.size ≤ 281474976710656) (hxn : xs.length ≤ 281474976710656) (hcc : xs.length ≤ cc) (hA : AA = none → cc = 0) (hst : st.size ≤ 281474976710656) (w : World) (hg : Glob w) (hgp : GlobP w) (hL : Saids w B A L) (hX : Texts w B AA xs) (hB : B ≤ w.heap.size) :
    Calls Tryz.prog 3 #[.slice A L.length c, .string loc, .agg #[.slice AA xs.length cc, .string st]] w fun e w' => e = .returned (.bool true) ∧ Below w.heap.size w w' := by
  cases hnm : isNameB st with
  | false => exact lists_no A L c B loc AA xs cc st hn hx hxs hxn hcc hA hst hnm w hg hgp hL hX hB
  | true => exact lists_yes A L c B loc AA xs cc st hn hx hxs hxn hcc hA hst hnm w hg hgp hL hX hB
end Go.Proofs.YtpcgcghhddnifaaGreatDoor
