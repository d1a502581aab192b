/-
  ComposeHolds: the law's walk. Conditions: what the listed variables hold; the slices read as what is said, as these texts; sizes.
-/
import Derived.Test.YtpcgcghhddnifaaGreatDoorGh
import Derived.Test.YtpcgcghhddnifaaGreatDoorGf
import Derived.Deep.RegionHeld3
import Derived.Lib.QuietBelow
import Derived.Deep.DeepCutAuto
import Derived.BigQuiet
set_option linter.unusedVariables false
namespace Go.Proofs.YtpcgcghhddnifaaGreatDoor
open Go.RowKit Go.Vx
open Ph
set_option maxRecDepth 100000 in
set_option maxHeartbeats 8000000 in
theorem holds_yes (A : Option Addr) (L : List Sd) (c B : Nat) (loc : ByteArray) (AA : Option Addr) (xs : List ByteArray) (cc : Nat) (st : ByteArray) (hn : L.length ≤ 281474976710656) (hx : ∀ x ∈ L, x.text.size ≤ 281474976710656) (hxs : ∀ x ∈ xs, x.size ≤ 281474976710656) (hxn : xs.length ≤ 281474976710656) (hcc : xs.length ≤ cc) (hA : AA = none → cc = 0) (hst : st.size ≤ 281474976710656) (w : World) (hg : Glob w) (hgp : GlobP w) (mx : Int) (hmx : w.cell? ⟨0, 0, none⟩ = some (.int .i64 mx)) (hL : Saids w B A L) (hX : Texts w B AA xs) (hB : B ≤ w.heap.size) :
    Calls Tryz.prog 4 #[.slice A L.length c, .string loc, .agg #[.slice AA xs.length cc, .string st]] w fun e w' => e = .returned (.bool true) ∧ Below w.heap.size w w' := by
  have HT := fun (w : World) (hL : Saids w B A L) (hB : B ≤ w.heap.size) => told_any A L c B hn hx w hL hB
  have hb0 := (Below.refl w.heap.size w).alloc (Nat.le_refl _) (.cells #[.slice AA xs.length cc, .string st] 25)
  have hq0 := Blk.new w 25 #[.slice AA xs.length cc, .string st]
  have HW := wakes_any (hg.below hb0 hg.size)
  have hz0 : (w.alloc (.cells #[.slice AA xs.length cc, .string st] 25)).heap.size = w.heap.size + 1 := by simp
  go_enter Tryz.func4, Tryz.ntmps4
  go_wp2_with fail
  refine HW.mono ?_
  rintro e w1 ⟨rfl, hb1⟩
  have B1 := hb0.trans (hb1.mono (by omega))
  have q1 := hq0.below hb1 (by omega)
  clear HW hb0 hq0 hb1 hz0
  have HT1 := HT w1 (hL.below (B1.mono hB)) (Nat.le_trans hB B1.size)
  clear HT
  have z1 := q1.lt
  go_wp2_with fail
  refine HT1.mono ?_
  rintro e w2 ⟨v, rfl, hown, hb2⟩
  obtain ⟨A2, c2, rfl, hS2⟩ := Saids.of_own hown
  have B2 := B1.trans (hb2.mono (by omega))
  have q2 := q1.below hb2 (by omega)
  have z2 := q2.lt
  obtain ⟨L2, hL2⟩ : ∃ l, toldL L = l := ⟨_, rfl⟩
  have hx2 : ∀ x ∈ L2, x.text.size ≤ 281474976710656 := hL2 ▸ toldL_text
  have hn2 : L2.length ≤ 281474976710656 := by rw [← hL2]; have := toldL_len L; omega
  rw [hL2] at hS2 ⊢
  clear hown hL2 HT1 q1 z1 hb2
  have sB := Blk.new w2 28 #[.slice A2 L2.length c2]
  have q3 := q2.alloc (.cells #[.slice A2 L2.length c2] 28)
  have B3 := B2.alloc (by omega) (.cells #[.slice A2 L2.length c2] 28)
  have S3 := hS2.alloc' (.cells #[.slice A2 L2.length c2] 28)
  have z3 : (w2.alloc (.cells #[.slice A2 L2.length c2] 28)).heap.size = w2.heap.size + 1 := by simp
  go_upto_region 4 with fail
  obtain ⟨H2, hH2⟩ : ∃ H, w2.heap.size = H := ⟨_, rfl⟩
  rw [hH2] at sB S3 z3 z2 ⊢
  have hle2 : w.heap.size ≤ H2 := by have := B2.size; omega
  clear hS2 q2 B2 hH2 B1
  have hlw : Lw w B AA xs cc st H2 A2 L2 c2 (w2.alloc (.cells #[.slice A2 L2.length c2] 28)) := ⟨B3, q3, sB, S3, hX.below (B3.mono hB)⟩
  clear sB S3 q3 B3
  have hlt2 : w.heap.size < H2 := z2
  clear z2
  generalize w2.alloc (.cells #[.slice A2 L2.length c2] 28) = w4 at *
  obtain ⟨ys, hys⟩ : ∃ ys, ys = xs.take 60 := ⟨_, rfl⟩
  have hyl : ys.length = min xs.length 60 := by rw [hys, List.length_take]; omega
  have hm1 : min (xs.length : Int) 60 = (ys.length : Int) := by omega
  have hm2 : ys.length ≤ cc := by omega
  have hm3 : (ys.length : Int) ≤ (cc : Int) := by omega
  have hY : ∀ W, Texts W B AA xs → Texts W B AA ys := fun W h => hys ▸ h.take 60
  have hysz : ∀ x ∈ ys, x.size ≤ 281474976710656 := fun x hx => hxs x (List.mem_of_mem_take (hys ▸ hx))
  have hy5 : ys.length ≤ 60 := by omega
  clear hys hyl hxs z3
  have d0 := hlw.bq.at_ 0 (v := .slice AA xs.length cc) rfl
  have d1 := hlw.bq.at_ 1 (v := .string st) rfl
  have d2 := hlw.bs.at_ 0 (v := .slice A2 L2.length c2) rfl
  have HLi := list_any A2 L2 c2 H2 loc st AA ys cc hst hm2 hysz hn2 hx2 w4 (hgp.below hlw.bw hgp.size) hlw.sd ((hY _ hlw.tx).more (by have := hlw.bw.size; omega)) (Nat.le_of_lt hlw.bs.lt)
  obtain ⟨⟨r1, r2⟩, hr⟩ : ∃ q, listV L2 loc st ys = q := ⟨_, rfl⟩
  rw [hr] at HLi
  dsimp only at HLi
  unfold srcV at HLi
  have HR := Lib.hid hr
  clear hr
  by_cases he : r2 = 0
  · subst he
    have hr := HR.out
    obtain ⟨hnm, hlen, hu, hll⟩ := listV_ok hr
    have hho := listP_holds (xs := ys) (two := partT L2 loc st tTwo) (st := partT L2 loc st tSta) (mid := partT L2 loc st tMid) (ed := partT L2 loc st tEnd) (partT_once _ _ _ _) (partT_once _ _ _ _) (partT_once _ _ _ _) (partT_once _ _ _ _) (by unfold listL at hll; rw [hll])
    unfold listL at hll
    have hle := listP_size (xs := ys) hll
    rw [hll] at hho
    dsimp only at hho
    obtain ⟨hw1, hw2⟩ := hho
    have HLL := Lib.hid hll
    have HW1 := Lib.hid hw1
    clear hr hll hw1 hu HR hlen
    go_wp2_with (go_at_call 10; refine HLi.mono ?_; rintro e w5 ⟨rfl, hb5⟩)
    have hl5 := hlw.call hb5 hB
    clear HLi hlw hb5 d0 d1 d2
    have h0w : 0 < w.heap.size := by have := hg.size; omega
    have hm0 : ∀ W, Below w.heap.size w W → W.cell? ⟨0, 0, none⟩ = some (.int .i64 mx) := fun W h => (h.cell (p := ⟨0, 0, none⟩) h0w).trans hmx
    have hr32 : r1.size < 4294967281 := by omega
    have htk : ∀ i (h : i < ys.length), tot (ys.take (i + 1)) = tot (ys.take i) + ys[i].size := fun i h => by unfold tot; rw [List.take_succ_eq_append_getElem h, List.map_append, List.sum_append]; simp
    have htl : ∀ i, tot (ys.take i) ≤ tot ys := fun i => by
      have h1 : tot ys = tot (ys.take i) + tot (ys.drop i) := by
        have : ys = ys.take i ++ ys.drop i := (List.take_append_drop i ys).symm
        conv => lhs; rw [this]
        simp only [tot, List.map_append, List.sum_append]
      omega
    go_loopw [45, 11] (fun u v wr => ∃ i : Nat, u = .int .i64 i ∧ v = .int .i64 (tot (ys.take i)) ∧ i ≤ ys.length ∧ Lw w B AA xs cc st H2 A2 L2 c2 wr) (fun u _ _ => ys.length - (intOf u).toNat)
    case atStart => exact ⟨0, rfl, rfl, Nat.zero_le _, hl5⟩
    case round =>
      clear hl5
      obtain ⟨i, rfl, rfl, hi, hl⟩ := hrel
      by_cases hlt : i < ys.length
      · obtain ⟨ad, rfl, _, hcx⟩ := hY _ hl.tx (by omega)
        have d0 := hcx i hlt
        have HC := Tryz.strings_Contains r1 ys[i] mx wr hr32 (hm0 _ hl.bw)
        have hin := (HW1.out i hlt)
        rw [getT_get hlt] at hin
        rw [hin.contains] at HC
        have ht1 := htk i hlt
        have ht2 := htl (i + 1)
        have hT1 := Lib.hid ht1
        have hb9 : (tot (ys.take i) : Int) + (ys[i].size : Int) ≤ 262144 := by omega
        have hb8 : (0 : Int) ≤ (tot (ys.take i) : Int) := by omega
        generalize hq : tot (ys.take i) = q at *
        clear hcx hin ht1 ht2 htk htl hq
        go_wp2_with (go_at_call 16; refine HC.mono ?_; rintro e w6 ⟨rfl, rfl⟩)
        go_roundw
        case rel => exact ⟨i + 1, by go_num, by rw [hT1.out]; go_num, by omega, hl⟩
        case measure => simp [intOf]; omega
      · obtain rfl : i = ys.length := by omega
        rw [List.take_length]
        clear htk htl hlt hi
        rename World => wz
        have hns : ¬ (r1.size : Int) < (tot ys : Int) := by omega
        by_cases h3 : ys.length < 3
        · have h3' : (ys.length : Int) < 3 := by omega
          by_cases h1 : ys.length = 1
          · have e1 : ((ys.length : Int) != 1) = false := by rw [h1]; rfl
            have hl0 : (0 : Int) < (ys.length : Int) := by omega
            have hr1 : r1 = getT ys 0 := by
              have := HLL.out
              unfold listP at this
              rw [if_neg (by omega), if_pos h1] at this
              by_cases g : 262144 < (getT ys 0).size
              · rw [if_pos g] at this; cases this
              · rw [if_neg g] at this; exact (congrArg Prod.fst this).symm
            obtain ⟨ad, rfl, _, hcx⟩ := hY _ hl.tx (by omega)
            have d0 := hcx 0 (by omega)
            rw [add_zero, ← getT_get (by omega : 0 < ys.length), ← hr1] at d0
            have H1 := Lib.hid h1
            clear hcx hr1 h1 h3
            go_wp2_with fail
            refine bodyPost_ret (v := .bool true) ?_ rfl ⟨rfl, hl.bw⟩
            simp [results, Tryz.results4, go_sem]
          · have e1 : ((ys.length : Int) != 1) = true := by simp; omega
            clear h1 h3
            go_wp2_with fail
            refine bodyPost_ret (v := .bool true) ?_ rfl ⟨rfl, hl.bw⟩
            simp [results, Tryz.results4, go_sem]
        · have h3' : ¬ (ys.length : Int) < 3 := by omega
          have hs4 := name_size hnm
          have HLe := fun W (h : Lw w B AA xs cc st H2 A2 L2 c2 W) => listPart_yes A2 L2.length c2 loc st ⟨#[101, 110, 100]⟩ _ hnm hst (by kernel_rfl) W (part_any A2 L2 c2 H2 loc st ⟨#[101, 110, 100]⟩ hs4 (by decide) hn2 hx2 W (hgp.below h.bw hgp.size) h.sd (Nat.le_of_lt h.bs.lt))
          have HLm := fun W (h : Lw w B AA xs cc st H2 A2 L2 c2 W) => listPart_yes A2 L2.length c2 loc st ⟨#[109, 105, 100, 100, 108, 101]⟩ _ hnm hst (by kernel_rfl) W (part_any A2 L2 c2 H2 loc st ⟨#[109, 105, 100, 100, 108, 101]⟩ hs4 (by decide) hn2 hx2 W (hgp.below h.bw hgp.size) h.sd (Nat.le_of_lt h.bs.lt))
          have HLs := fun W (h : Lw w B AA xs cc st H2 A2 L2 c2 W) => listPart_yes A2 L2.length c2 loc st ⟨#[115, 116, 97, 114, 116]⟩ _ hnm hst (by kernel_rfl) W (part_any A2 L2 c2 H2 loc st ⟨#[115, 116, 97, 114, 116]⟩ hs4 (by decide) hn2 hx2 W (hgp.below h.bw hgp.size) h.sd (Nat.le_of_lt h.bs.lt))
          have ze := partT_size L2 loc st ⟨#[101, 110, 100]⟩ hx2
          have zm := partT_size L2 loc st ⟨#[109, 105, 100, 100, 108, 101]⟩ hx2
          have zs := partT_size L2 loc st ⟨#[115, 116, 97, 114, 116]⟩ hx2
          have hll := HLL.out
          unfold tMid tEnd tSta at hll
          unfold srcV at HLe HLm HLs
          generalize partT L2 loc st ⟨#[101, 110, 100]⟩ = pe at *
          generalize partT L2 loc st ⟨#[109, 105, 100, 100, 108, 101]⟩ = pm at *
          generalize partT L2 loc st ⟨#[115, 116, 97, 114, 116]⟩ = ps at *
          generalize partT L2 loc st tTwo = p2 at *
          obtain ⟨N, hN⟩ : ∃ N, ys.length = N := ⟨_, rfl⟩
          obtain ⟨a1, ha1⟩ : ∃ a, a + 1 = N := ⟨N - 1, by omega⟩
          obtain ⟨a2, ha2⟩ : ∃ a, a + 2 = N := ⟨N - 2, by omega⟩
          obtain ⟨a3, ha3⟩ : ∃ a, a + 3 = N := ⟨N - 3, by omega⟩
          have hfin : listP p2 ps pm pe ys = if (accT pe pm ys a3).2 = 0 then fillT ps [getT ys 0, (accT pe pm ys a3).1] else (⟨#[]⟩, (accT pe pm ys a3).2) := by
            unfold listP
            rw [if_neg (by omega), if_neg (by omega), if_neg (by omega), show ys.length - 3 = a3 by omega]
          have ha0 : (accT pe pm ys a3).2 = 0 := by
            by_cases g : (accT pe pm ys a3).2 = 0
            · exact g
            · rw [hfin, if_neg g] at hll; exact absurd (congrArg Prod.snd hll) g
          rw [hfin, if_pos ha0] at hll
          have hall : ∀ k, k ≤ a3 → (accT pe pm ys k).2 = 0 := fun k hk => by
            by_cases g : (accT pe pm ys k).2 = 0
            · exact g
            · have := accT_stop g a3 hk; rw [this] at ha0; exact absurd ha0 g
          have hac0 : accT pe pm ys 0 = fillT pe [getT ys a2, getT ys a1] := by rw [accT, show ys.length - 2 = a2 by omega, show ys.length - 1 = a1 by omega]
          have hacs : ∀ k j, j + k = a3 → accT pe pm ys (k + 1) = fillT pm [getT ys j, (accT pe pm ys k).1] := fun k j hj => by rw [accT, if_pos (hall k (by omega)), show ys.length - 3 - k = j by omega]
          have hacz := fun k => accT_le pe pm ys k
          have hgt : ∀ j, j < N → (getT ys j).size ≤ 281474976710656 := fun j hj => by rw [getT_get (by omega)]; exact hysz _ (List.getElem_mem (by omega))
          obtain ⟨ad, rfl, _, _⟩ := hY _ hl.tx (by omega)
          have hcI : ∀ W, Texts W B (some ad) xs → ∀ j, j < N → W.cell? (ad.add j) = some (.string (getT ys j)) := fun W h j hj => by
            obtain ⟨ad', e, _, hc⟩ := hY W h (by omega)
            cases e
            rw [getT_get (by omega)]; exact hc j (by omega)
          have w1 : IntKind.i64.wrap ((N : Int) - 1) = (a1 : Int) := i64wrap (by omega) (by omega)
          have w2 : IntKind.i64.wrap ((N : Int) - 2) = (a2 : Int) := i64wrap (by omega) (by omega)
          have w3 : IntKind.i64.wrap ((N : Int) - 3) = (a3 : Int) := i64wrap (by omega) (by omega)
          have l1 : (a1 : Int) < N := by omega
          have l2 : (a2 : Int) < N := by omega
          have l0 : (0 : Int) < N := by omega
          have g1 := hgt a1 (by omega)
          have g2 := hgt a2 (by omega)
          obtain ⟨⟨t0, e0⟩, h00⟩ : ∃ p, accT pe pm ys 0 = p := ⟨_, rfl⟩
          have he0 := hall 0 (by omega)
          rw [h00] at he0
          dsimp only at he0
          subst he0
          have HFe := fun (W : World) (g : Nat) (h : Lw w B (some ad) xs cc st H2 A2 L2 c2 W) (hT : Texts W W.heap.size (some ⟨g, 0, none⟩) [getT ys a2, getT ys a1]) => fill_any pe (some ⟨g, 0, none⟩) [getT ys a2, getT ys a1] 2 W.heap.size ze (by simp) (by intro z hz; simp at hz; rcases hz with rfl | rfl <;> assumption) W (hgp.below h.bw hgp.size) hT (Nat.le_refl _)
          rw [← hac0, h00] at HFe
          dsimp only [List.length_cons, List.length_nil] at HFe
          have i00 := hcI wz hl.tx a2 (by omega)
          have i01 := hcI wz hl.tx a1 (by omega)
          have s0 := hl.bs.at_ 0 (v := .slice A2 L2.length c2) rfl
          have q0 := hl.bq.at_ 1 (v := .string st) rfl
          have H00 := Lib.hid h00
          have HA1 := Lib.hid ha1
          have HA2 := Lib.hid ha2
          have HA3 := Lib.hid ha3
          have HNN := Lib.hid hN
          have HLL2 := Lib.hid hll
          have HFIN := Lib.hid hfin
          have h3N : ¬ (N : Int) < 3 := by omega
          have hN60 : N ≤ 60 := by omega
          have hk1 : a1 < N := by omega
          have hk2 : a2 < N := by omega
          have hk0 : 0 < N := by omega
          rw [hN]
          clear h00 hac0 ha1 ha2 ha3 hN hll hfin ha0 h3 h3' hns HLL
          go_upto_region 21 with fail
          go_cut [15, 10] (fun s15 s10 wc => s15 = .string t0 ∧ s10 = .int .i64 0 ∧ Lw w B (some ad) xs cc st H2 A2 L2 c2 wc)
          case first =>
            have hk := hcI
            clear hcI
            obtain ⟨x1, hx1⟩ : ∃ x, getT ys a1 = x := ⟨_, rfl⟩
            obtain ⟨x2, hx2e⟩ : ∃ x, getT ys a2 = x := ⟨_, rfl⟩
            rw [hx1, hx2e] at HFe
            have hcI := fun W h => (show W.cell? (ad.add a2) = some (.string x2) from hx2e ▸ hk W h a2 hk2)
            have hcJ := fun W h => (show W.cell? (ad.add a1) = some (.string x1) from hx1 ▸ hk W h a1 hk1)
            rw [hx1] at i01
            rw [hx2e] at i00
            clear hx1 hx2e hk g1 g2 hgt
            go_region_held3 (fun w' => w'.cell? ⟨H2, 0, none⟩ = some (.slice A2 L2.length c2) ∧ w'.cell? ⟨w.heap.size, 1, none⟩ = some (.string st) ∧ w'.cell? (ad.add a2) = some (.string x2) ∧ w'.cell? (ad.add a1) = some (.string x1)) (first | (with_reducible exact ⟨s2, q2, i20, i21⟩) | (with_reducible exact ⟨s1, q1, i10, i11⟩) | (with_reducible exact ⟨s0, q0, i00, i01⟩) | go_keep) ((first | (go_at_call 13; with_reducible refine (HLe _ ?_).mono ?_; (repeat (first | (with_reducible assumption) | (with_reducible refine Lw.drew ?_ hB) | (with_reducible refine Lw.alloc ?_ hB _))); rintro e y1 ⟨rfl, hc1⟩; have hl1 : Lw w B (some ad) xs cc st H2 A2 L2 c2 y1 := (by (refine Lw.call ?_ hc1 hB); (repeat (first | (with_reducible assumption) | (with_reducible refine Lw.drew ?_ hB) | (with_reducible refine Lw.alloc ?_ hB _)))); have s1 := hl1.bs.at_ 0 (v := .slice A2 L2.length c2) rfl; have q1 := hl1.bq.at_ 1 (v := .string st) rfl; have i10 := (hcI y1 hl1.tx); have i11 := (hcJ y1 hl1.tx)) | (go_at_call 17; with_reducible refine (HFe _ _ ?_ ?_).mono ?_; (repeat (first | (with_reducible assumption) | (with_reducible refine Lw.drew ?_ hB) | (with_reducible refine Lw.alloc ?_ hB _))); (first | exact Texts.more (texts2 _ _ _) (by simp) | exact Texts.more (texts2' _ _ _ _ rfl) (drew_le _ _) | exact Texts.more (Texts.below (texts2' wz x2 x1 _ rfl) (hc1.mono (drew_le _ _))) (Nat.le_trans (drew_le wz (.cells #[.string x2, .string x1] 9)) hc1.size)); rintro e y2 ⟨rfl, hc2⟩; have hl2 : Lw w B (some ad) xs cc st H2 A2 L2 c2 y2 := (by (refine Lw.call ?_ hc2 hB); (repeat (first | (with_reducible assumption) | (with_reducible refine Lw.drew ?_ hB) | (with_reducible refine Lw.alloc ?_ hB _)))); have s2 := hl2.bs.at_ 0 (v := .slice A2 L2.length c2) rfl; have q2 := hl2.bq.at_ 1 (v := .string st) rfl; have i20 := (hcI y2 hl2.tx); have i21 := (hcJ y2 hl2.tx))))
            all_goals go_wp2_with fail
            all_goals go_meet
            all_goals exact ⟨rfl, rfl, hl2⟩
          case rest =>
            obtain ⟨rfl, rfl, hl⟩ := hcut
            clear HFe HLe i00 i01 s0 q0 g1 g2 l1 l2 w1 w2
            go_wp2_with fail
            go_loopw [16, 15, 10] (fun u v z wr => ∃ (k j : Nat) (t : ByteArray), u = .int .i64 j ∧ v = .string t ∧ z = .int .i64 0 ∧ j + k = a3 ∧ accT pe pm ys k = (t, 0) ∧ Lw w B (some ad) xs cc st H2 A2 L2 c2 wr) (fun u _ _ _ => (intOf u).toNat)
            case atStart => exact ⟨0, a3, t0, rfl, rfl, rfl, by omega, H00.out, hl⟩
            case round =>
              clear hl
              obtain ⟨k, j, t, rfl, rfl, rfl, hjk, hac, hl⟩ := hrel
              have s0 := hl.bs.at_ 0 (v := .slice A2 L2.length c2) rfl
              have q0 := hl.bq.at_ 1 (v := .string st) rfl
              have htz : t.size ≤ 281474976710656 := by have := hacz k; rw [hac] at this; exact Nat.le_trans this (by decide)
              have plt := hl.bs.lt
              have HJK := Lib.hid hjk
              have HAC := Lib.hid hac
              have HACS := Lib.hid hacs
              have HALL := Lib.hid hall
              have hk := hcI
              by_cases hj : 0 < j
              · have hj' : (0 : Int) < (j : Int) := by omega
                have hjN : (j : Int) < (N : Int) := by have := HA3.out; omega
                have hjw : IntKind.i64.wrap ((j : Int) - 1) = ((j - 1 : Nat) : Int) := i64wrap (by omega) (by have := HA3.out; omega)
                have hjn : j < N := by omega
                have gx := hgt j hjn
                have hnx := hacs k j hjk
                rw [hac] at hnx
                dsimp only at hnx
                obtain ⟨⟨t1, e1⟩, h11⟩ : ∃ p, accT pe pm ys (k + 1) = p := ⟨_, rfl⟩
                have he1 := hall (k + 1) (by omega)
                rw [h11] at he1
                dsimp only at he1
                subst he1
                have HFe := fun (W : World) (g : Nat) (h : Lw w B (some ad) xs cc st H2 A2 L2 c2 W) (hT : Texts W W.heap.size (some ⟨g, 0, none⟩) [getT ys j, t]) => fill_any pm (some ⟨g, 0, none⟩) [getT ys j, t] 2 W.heap.size zm (by simp) (by intro z hz; simp at hz; rcases hz with rfl | rfl <;> assumption) W (hgp.below h.bw hgp.size) hT (Nat.le_refl _)
                rw [← hnx, h11] at HFe
                dsimp only [List.length_cons, List.length_nil] at HFe
                have H11 := Lib.hid h11
                obtain ⟨xj, hxj⟩ : ∃ x, getT ys j = x := ⟨_, rfl⟩
                rw [hxj] at HFe gx
                have hcI := fun W h => (show W.cell? (ad.add j) = some (.string xj) from hxj ▸ hk W h j hjn)
                have i00 := hcI wr hl.tx
                clear hjk hac hacs hall hk hnx h11 hxj hgt hacz HLs
                go_wp2_with fail
                go_region_held3 (fun w' => w'.cell? ⟨H2, 0, none⟩ = some (.slice A2 L2.length c2) ∧ w'.cell? ⟨w.heap.size, 1, none⟩ = some (.string st) ∧ w'.cell? (ad.add j) = some (.string xj)) (first | (with_reducible exact ⟨s2, q2, i20⟩) | (with_reducible exact ⟨s1, q1, i10⟩) | (with_reducible exact ⟨s0, q0, i00⟩) | go_keep) ((first | (go_at_call 13; with_reducible refine (HLm _ ?_).mono ?_; (repeat (first | (with_reducible assumption) | (with_reducible refine Lw.drew ?_ hB) | (with_reducible refine Lw.alloc ?_ hB _))); rintro e y1 ⟨rfl, hc1⟩; have hl1 : Lw w B (some ad) xs cc st H2 A2 L2 c2 y1 := (by (refine Lw.call ?_ hc1 hB); (repeat (first | (with_reducible assumption) | (with_reducible refine Lw.drew ?_ hB) | (with_reducible refine Lw.alloc ?_ hB _)))); have s1 := hl1.bs.at_ 0 (v := .slice A2 L2.length c2) rfl; have q1 := hl1.bq.at_ 1 (v := .string st) rfl; have i10 := (hcI y1 hl1.tx)) | (go_at_call 17; with_reducible refine (HFe _ _ ?_ ?_).mono ?_; (repeat (first | (with_reducible assumption) | (with_reducible refine Lw.drew ?_ hB) | (with_reducible refine Lw.alloc ?_ hB _))); (first | exact Texts.more (texts2 _ _ _) (by simp) | exact Texts.more (texts2' _ _ _ _ rfl) (drew_le _ _) | exact Texts.more (Texts.below (texts2' wr xj t _ rfl) (hc1.mono (drew_le _ _))) (Nat.le_trans (drew_le wr (.cells #[.string xj, .string t] 9)) hc1.size)); rintro e y2 ⟨rfl, hc2⟩; have hl2 : Lw w B (some ad) xs cc st H2 A2 L2 c2 y2 := (by (refine Lw.call ?_ hc2 hB); (repeat (first | (with_reducible assumption) | (with_reducible refine Lw.drew ?_ hB) | (with_reducible refine Lw.alloc ?_ hB _)))); have s2 := hl2.bs.at_ 0 (v := .slice A2 L2.length c2) rfl; have q2 := hl2.bq.at_ 1 (v := .string st) rfl; have i20 := (hcI y2 hl2.tx))))
                all_goals go_wp2_with fail
                all_goals go_roundw
                all_goals first
                  | (case rel => exact ⟨k + 1, j - 1, t1, rfl, rfl, rfl, by have := HJK.out; omega, H11.out, hl2⟩)
                  | (case measure => simp [intOf]; omega)
              · obtain rfl : j = 0 := by omega
                have hka : k = a3 := by omega
                have gx := hgt 0 hk0
                have hnx := HLL2.out
                rw [← hka, hac] at hnx
                dsimp only at hnx
                have HFe := fun (W : World) (g : Nat) (h : Lw w B (some ad) xs cc st H2 A2 L2 c2 W) (hT : Texts W W.heap.size (some ⟨g, 0, none⟩) [getT ys 0, t]) => fill_any ps (some ⟨g, 0, none⟩) [getT ys 0, t] 2 W.heap.size zs (by simp) (by intro z hz; simp at hz; rcases hz with rfl | rfl <;> assumption) W (hgp.below h.bw hgp.size) hT (Nat.le_refl _)
                rw [hnx] at HFe
                dsimp only [List.length_cons, List.length_nil] at HFe
                obtain ⟨xj, hxj⟩ : ∃ x, getT ys 0 = x := ⟨_, rfl⟩
                rw [hxj] at HFe gx
                have hcI := fun (W : World) (h : Texts W B (some ad) xs) => (show W.cell? ad = some (Value.string xj) from by have := hk W h 0 hk0; rwa [hxj, add_zero] at this)
                have i00 := hcI wr hl.tx
                clear hjk hac hacs hall hk hnx hxj hgt hacz HLm hka
                go_wp2_with fail
                go_region_held3 (fun w' => w'.cell? ⟨H2, 0, none⟩ = some (.slice A2 L2.length c2) ∧ w'.cell? ⟨w.heap.size, 1, none⟩ = some (.string st) ∧ w'.cell? ad = some (.string xj)) (first | (with_reducible exact ⟨s2, q2, i20⟩) | (with_reducible exact ⟨s1, q1, i10⟩) | (with_reducible exact ⟨s0, q0, i00⟩) | go_keep) ((first | (go_at_call 13; with_reducible refine (HLs _ ?_).mono ?_; (repeat (first | (with_reducible assumption) | (with_reducible refine Lw.drew ?_ hB) | (with_reducible refine Lw.alloc ?_ hB _))); rintro e y1 ⟨rfl, hc1⟩; have hl1 : Lw w B (some ad) xs cc st H2 A2 L2 c2 y1 := (by (refine Lw.call ?_ hc1 hB); (repeat (first | (with_reducible assumption) | (with_reducible refine Lw.drew ?_ hB) | (with_reducible refine Lw.alloc ?_ hB _)))); have s1 := hl1.bs.at_ 0 (v := .slice A2 L2.length c2) rfl; have q1 := hl1.bq.at_ 1 (v := .string st) rfl; have i10 := (hcI y1 hl1.tx)) | (go_at_call 17; with_reducible refine (HFe _ _ ?_ ?_).mono ?_; (repeat (first | (with_reducible assumption) | (with_reducible refine Lw.drew ?_ hB) | (with_reducible refine Lw.alloc ?_ hB _))); (first | exact Texts.more (texts2 _ _ _) (by simp) | exact Texts.more (texts2' _ _ _ _ rfl) (drew_le _ _) | exact Texts.more (Texts.below (texts2' wr xj t _ rfl) (hc1.mono (drew_le _ _))) (Nat.le_trans (drew_le wr (.cells #[.string xj, .string t] 9)) hc1.size)); rintro e y2 ⟨rfl, hc2⟩; have hl2 : Lw w B (some ad) xs cc st H2 A2 L2 c2 y2 := (by (refine Lw.call ?_ hc2 hB); (repeat (first | (with_reducible assumption) | (with_reducible refine Lw.drew ?_ hB) | (with_reducible refine Lw.alloc ?_ hB _)))); have s2 := hl2.bs.at_ 0 (v := .slice A2 L2.length c2) rfl; have q2 := hl2.bq.at_ 1 (v := .string st) rfl; have i20 := (hcI y2 hl2.tx))))
                all_goals go_wp2_with fail
                all_goals
                  refine bodyPost_ret (v := .bool true) ?_ rfl ⟨rfl, hl2.bw⟩
                  simp [results, Tryz.results4, go_sem]
  · have hr1 : r1 = ⟨#[]⟩ := by have := listV_err (L := L2) (loc := loc) (st := st) (xs := ys) (by rw [HR.out]; exact he); rw [HR.out] at this; exact this
    subst hr1
    have he' : (r2 != 0) = true := by simpa using he
    go_wp2_with (go_at_call 10; refine HLi.mono ?_; rintro e w5 ⟨rfl, hb5⟩)
    have hl5 := hlw.call hb5 hB
    refine bodyPost_ret (v := .bool true) ?_ rfl ⟨rfl, hl5.bw⟩
    simp [results, Tryz.results4, go_sem]
end Go.Proofs.YtpcgcghhddnifaaGreatDoor
