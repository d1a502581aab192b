/-
  The walk of PhraseOnce: it answers yes. Conditions: the text is short enough to be in memory; the two listed error variables are laid.
-/
import Derived.Test.YtbgcngkofbelmaaDoorUe
import Derived.Test.YtbgcngkofbelmaaDoorV
import Derived.Maps.RangeWalk
namespace Go.Proofs.YtbgcngkofbelmaaDoor
open Go.RowKit
open Go.Maps
open Ph
theorem law3 : Keyed Tryd.prog 3 := int_keyed Tryd.underlying3
theorem zero3 (w : World) : (zeroValue 3).run Tryd.prog w = .ok (.int .i64 0) w := by kernel_rfl
set_option maxRecDepth 100000 in
set_option maxHeartbeats 4000000 in
theorem ponce_wrong {s : ByteArray} {a b : Int} (hs : s.size ≤ 281474976710656) (hf : Wrong s a b) (n : Int) (w : World) (hg : Glob w) : Calls Tryd.prog 4 #[.string s, .int .i64 n] w fun e w' => e = .returned (.bool true) ∧ Below w.heap.size w w' := by
  have HW := wakes_yes w hg
  have hmm := @run_makeMap Tryd.prog
  have t1 : (a == 0) = false := by simpa using hf.nz
  have HR := fun w1 => WrongP.calls (ref_wrong hs hf w1)
  have HO := fun wr (h : Below w.heap.size w wr) => once_wrong hs hf n wr (hg.below h hg.size)
  go_enter Tryd.func4, Tryd.ntmps4
  go_wp2_with (go_at_call 11; refine HW.mono ?_; rintro e w1 ⟨rfl, hb1⟩)
  refine (HR w1).mono ?_
  rintro e w2 ⟨rfl, hb2⟩
  have hb3 := hb1.trans (hb2.mono hb1.size)
  have hS := (Blk.new w2 26 #[.int .i64 a, .int .i64 b]).alloc (.map #[] 0)
  have c0 := hS.at_ 0 (v := .int .i64 a) rfl
  have c1 := hS.at_ 1 (v := .int .i64 b) rfl
  have hown := World.ownsMap_made (H := Unit) (w2.alloc (.cells #[.int .i64 a, .int .i64 b] 26)) Tryd.prog 3 (plainElem Tryd.prog 3)
  have hb4 := (hb3.alloc hb3.size (.cells #[.int .i64 a, .int .i64 b] 26)).alloc (by have := hb3.size; simp; omega) (.map #[] 0)
  simp only [World.size_alloc] at hown
  clear hf hg HW hb2
  go_wp2_with fail
  refine wp_loop_rounds 1 ?_
  rw [rounds_succ]
  go_wp2_with (first
    | (at_range; refine wpList_range_own _ rfl _ 36 rfl 3 3 law3 Tryd.underlying36 _ (w2.heap.size + 1) 0 _ rfl hown ?_; intro w0 hrg0 hg0 hs0; try simp only [World.size_alloc] at hrg0 ⊢)
    | go_in)
  go_frame
  go_loopw [10] (fun u wr => ∃ (left : Lit → Bool) (cnt : Nat), u = .bool false ∧ wr.ranges Tryd.prog 3 (plainElem (H := Unit) Tryd.prog 3) (w2.heap.size + 1) (w2.heap.size + 1 + 1) 0 (.map []) left cnt ∧ (∀ x, left x = false) ∧ Below w.heap.size w wr)
    (fun _ wr => wr.rangeLeft (w2.heap.size + 1) (w2.heap.size + 1 + 1))
  case atStart => exact ⟨_, _, rfl, by simpa using hrg0, fun x => by rw [has_eq]; rfl, hb4.grown hg0 (by have := hb4.size; exact this) (fun j hj => by cases hj)⟩
  case round =>
    obtain ⟨left, cnt, rfl, hrg, hl, hb⟩ := hrel
    go_wp2_with (first
      | (at_next; refine wpList_next_ranges_ii _ rfl _ rfl 3 3 .i64 .i64 law3 Tryd.underlying3 Tryd.underlying3 (w2.heap.size + 1) (w2.heap.size + 1 + 1) 0 _ _ _ rfl hrg ?_ ?_)
      | go_in)
    intro _
    have HO1 := HO wr hb
    go_wp2_with (go_at_call 16; refine HO1.mono ?_; rintro e w3 ⟨rfl, hb5⟩)
    refine bodyPost_ret (v := .bool true) ?_ rfl ⟨rfl, hb.trans (hb5.mono hb.size)⟩
    simp [results, Tryd.results4, go_sem]
set_option maxRecDepth 100000 in
set_option maxHeartbeats 8000000 in
theorem ponce_fine {s : ByteArray} {l : List Pc} (hs : s.size ≤ 281474976710656) (hf : Fine s l) (n : Int) (w : World) (hg : Glob w) : Calls Tryd.prog 4 #[.string s, .int .i64 n] w fun e w' => e = .returned (.bool true) ∧ Below w.heap.size w w' := by
  have HW := wakes_yes w hg
  have hmm := @run_makeMap Tryd.prog
  have HR := fun w1 => FineP.calls (ref_fine hs hf w1)
  have HO := fun wr (h : Below w.heap.size w wr) => once_fine hs hf n wr (hg.below h hg.size)
  have hln := hf.len
  have hnb := hf.nums
  go_enter Tryd.func4, Tryd.ntmps4
  go_wp2_with (go_at_call 11; refine HW.mono ?_; rintro e w1 ⟨rfl, hb1⟩)
  refine (HR w1).mono ?_
  rintro e w2 ⟨A, c, rfl, _, hL, hb2⟩
  have hb3 := hb1.trans (hb2.mono hb1.size)
  have hS := (Blk.new w2 26 #[.int .i64 0, .int .i64 0]).alloc (.map #[] 0)
  have c0 := hS.at_ 0 (v := .int .i64 0) rfl
  have c1 := hS.at_ 1 (v := .int .i64 0) rfl
  have hown := World.ownsMap_made (H := Unit) (w2.alloc (.cells #[.int .i64 0, .int .i64 0] 26)) Tryd.prog 3 (plainElem Tryd.prog 3)
  have hb4 := (hb3.alloc hb3.size (.cells #[.int .i64 0, .int .i64 0] 26)).alloc (by have := hb3.size; simp; omega) (.map #[] 0)
  simp only [World.size_alloc] at hown
  have hL4 := (hL.alloc (Nat.le_refl _) (.cells #[.int .i64 0, .int .i64 0] 26)).alloc (by simp) (.map #[] 0)
  have n3 := hb3.size
  clear hf hg HW hb2 hb1 hb3
  go_wp2_with fail
  go_loopw [23] (fun u wr => ∃ (i : Nat) (D : DataW Unit), u = .int .i64 i ∧ i ≤ l.length ∧ Met D (nums (l.take i)) ∧ wr.ownsMap Tryd.prog 3 (plainElem Tryd.prog 3) (w2.heap.size + 1) i D ∧ Lists wr w2.heap.size A l ∧ Blk wr w2.heap.size 26 #[.int .i64 0, .int .i64 0] ∧ Below w.heap.size w wr) (fun u _ => l.length - (intOf u).toNat)
  case atStart => exact ⟨0, .map [], rfl, by omega, Met.nil, hown, hL4, hS, hb4⟩
  case round =>
    clear hown hL4 hS hb4 c0 c1
    obtain ⟨i, D, rfl, hi, hM, hown, hL, hS, hb⟩ := hrel
    by_cases hlt : i < l.length
    · obtain ⟨ad, rfl, b0, e0, e1, e2⟩ := hL.pc hlt
      have hN := Blk.new wr 31 #[.int .i64 l[i].kind, .string l[i].text, .int .i64 l[i].place]
      have d0 := hN.at_ 0 (v := .int .i64 l[i].kind) rfl
      have d2 := hN.at_ 2 (v := .int .i64 l[i].place) rfl
      have hownN := hown.alloc (.cells #[.int .i64 l[i].kind, .string l[i].text, .int .i64 l[i].place] 31)
      have hLN := hL.alloc (by have := hS.lt; omega) (.cells #[.int .i64 l[i].kind, .string l[i].text, .int .i64 l[i].place] 31)
      have hSN := hS.alloc (.cells #[.int .i64 l[i].kind, .string l[i].text, .int .i64 l[i].place] 31)
      have hbN := hb.alloc hb.size (.cells #[.int .i64 l[i].kind, .string l[i].text, .int .i64 l[i].place] 31)
      have hnt := nums_take hlt
      have hS9 := hS.lt
      clear hL hS hb hown
      by_cases k2 : l[i].kind = 2
      · have t2 : (l[i].kind == 2) = true := by simpa using k2
        rw [if_pos k2] at hnt
        have hwf : (Lit.int .i64 l[i].place).wf = true := by
          have hm : l[i].place ∈ nums l := List.mem_map.2 ⟨l[i], List.mem_filter.2 ⟨List.getElem_mem hlt, by simpa using k2⟩, rfl⟩
          exact WalkArith.wf_i64 (by have := hnb _ hm; omega)
        clear k2
        go_wp2_with (first
          | (at_lookup; refine wpList_lookup_own_int _ rfl _ _ 36 rfl 3 3 .i64 law3 Tryd.underlying36 Tryd.underlying3 (zero3 _) (w2.heap.size + 1) i _ rfl hownN _ _ rfl (keyOf_int_mk Tryd.underlying3 hwf) ?_; intro c1 hat hwc)
          | (at_mapUpdate; refine wpList_mapUpdate_own _ rfl _ _ _ 36 rfl 3 3 law3 Tryd.underlying36 _ (w2.heap.size + 1) i _ rfl hownN (by unfold maxLen; omega) _ _ _ rfl rfl (keyOf_int_mk Tryd.underlying3 hwf) _ [] (plainElem_int Tryd.underlying3 (wrap64_wf _)) ?_; intro wm hown1 hgrow1)
          | go_in)
        have hM1 := hM.put hat (by have := nums_le (l.take i); have := List.length_take_le i l; omega)
        have hL1 : Lists wm w2.heap.size (some ad) l := fun h0 => by
          obtain ⟨ad2, q1, q2, q3⟩ := hLN h0
          exact ⟨ad2, q1, q2, fun j u hu => (World.cell?_of_block (hgrow1.block (ad2.add j).block (by rw [block_of_add]; simp; omega) (by rw [block_of_add]; simp; omega))).trans (q3 j u hu)⟩
        have hS1 : Blk wm w2.heap.size 26 #[.int .i64 0, .int .i64 0] := (hgrow1.block w2.heap.size (by simp; omega) (by simp)).trans hSN
        have hb1 := hbN.grown hgrow1 hbN.size (fun j hj => by cases hj; omega)
        clear hgrow1
        go_roundw
        case rel => exact ⟨i + 1, _, by go_num, by omega, by rw [hnt]; exact hM1, hown1, hL1, hS1, hb1⟩
        case measure => simp [intOf]; omega
      · have t2 : (l[i].kind == 2) = false := by simpa using k2
        rw [if_neg k2, List.append_nil] at hnt
        clear k2
        go_wp2_with fail
        go_roundw
        case rel => exact ⟨i + 1, D, by go_num, by omega, by rw [hnt]; exact hM, hownN.mono (by omega), hLN, hSN, hbN⟩
        case measure => simp [intOf]; omega
    · obtain rfl : i = l.length := by omega
      rename World => wo
      rw [List.take_length] at hM
      have hlast := seenOk_last hM (fun x hx => (hnb x hx).1) n
      have c0 := hS.at_ 0 (v := .int .i64 0) rfl
      have hstart := seenOk_start hM n
      have honce : onceB l n = (decide (n = (Maps.size D : Int)) && (nums l).all fun x => ((nums l).count x : Int) == 1 && decide (x < n)) := hlast.symm
      have hnb2 := hb.size
      generalize hz : decide (n = (Maps.size D : Int)) = z0 at honce
      have t3 : (n == (Maps.size D : Int)) = z0 := by rw [← hz]; rfl
      have hsl := hown.size_le
      have hlen := fun ty => hown.len Tryd.underlying36 ty
      clear hlast hz
      go_wp2_with (first
        | (at_range; refine wpList_range_own _ rfl _ 36 rfl 3 3 law3 Tryd.underlying36 _ (w2.heap.size + 1) l.length _ rfl hown ?_; intro w0 hrg0 hg0 hs0)
        | go_in)
      go_frame
      go_loopw [10] (fun u wx => ∃ (left : Lit → Bool) (cnt : Nat), u = .bool (z0 && seenOk (nums l) n left) ∧ wx.ranges Tryd.prog 3 (plainElem (H := Unit) Tryd.prog 3) (w2.heap.size + 1) wo.heap.size l.length D left cnt ∧ (∀ x, left (.int .i64 x) = true → x ∈ nums l) ∧ Below w.heap.size w wx)
        (fun _ wx => wx.rangeLeft (w2.heap.size + 1) wo.heap.size)
      case atStart => exact ⟨_, _, by rw [hstart, Bool.and_true], hrg0, fun x hx => by rw [hM.isIn] at hx; simpa using hx, hb.grown hg0 hb.size (fun j hj => by cases hj)⟩
      case round =>
        obtain ⟨left, cnt, rfl, hrg, hl, hbx⟩ := hrel
        go_wp2_with (first
          | (at_next; refine wpList_next_ranges_ii _ rfl _ rfl 3 3 .i64 .i64 law3 Tryd.underlying3 Tryd.underlying3 (w2.heap.size + 1) wo.heap.size l.length _ _ _ rfl hrg ?_ ?_)
          | go_in)
        · intro _ hl0
          rw [seenOk_end hl0, ← honce]
          have HO1 := HO wr hbx
          generalize onceB l n = q at HO1
          cases q with
          | true =>
            go_wp2_with (go_at_call 16; refine HO1.mono ?_; rintro e w3 ⟨rfl, hb5⟩)
            refine bodyPost_ret (v := .bool true) ?_ rfl ⟨rfl, hbx.trans (hb5.mono hbx.size)⟩
            simp [results, Tryd.results4, go_sem]
          | false =>
            go_wp2_with (go_at_call 16; refine HO1.mono ?_; rintro e w3 ⟨rfl, hb5⟩)
            refine bodyPost_ret (v := .bool true) ?_ rfl ⟨rfl, hbx.trans (hb5.mono hbx.size)⟩
            simp [results, Tryd.results4, go_sem]
        · intro x c2 w3 cnt1 hwx hwc hlx hat hrg1 hlt1 hg1 hs1 hen
          have hxm := hl x hlx
          obtain rfl : c2 = ((nums l).count x : Int) := by
            have := (hat _).symm.trans (hM.times x)
            injection this with this
            injection this
          have hst := seenOk_step (n := n) hxm hlx
          have hb5 := hbx.grown hg1 hbx.size (fun j hj => by cases hj; omega)
          have hl2 : ∀ y, (fun z : Lit => left z && !z.sameKey (.int .i64 x)) (.int .i64 y) = true → y ∈ nums l := fun y hy => hl y (by simp at hy; exact hy.1)
          generalize hcc : ((nums l).count x : Int) = cc at *
          cases hq : (z0 && seenOk (nums l) n left) with
          | false =>
            have hv : (z0 && seenOk (nums l) n (fun z => left z && !z.sameKey (.int .i64 x))) = false := by rw [hst, ← Bool.and_assoc, hq]; rfl
            go_wp2_with fail
            go_roundw
            case rel => exact ⟨_, cnt1, by rw [hv], hrg1, hl2, hb5⟩
            case measure => rw [hrg1.left_eq, hrg.left_eq]; exact hlt1
          | true =>
            by_cases h1 : cc = 1
            · have t5 : (cc == 1) = true := by simpa using h1
              by_cases h2 : x < n
              · have hv : (z0 && seenOk (nums l) n (fun z => left z && !z.sameKey (.int .i64 x))) = true := by rw [hst, ← Bool.and_assoc, hq, t5]; simpa using h2
                go_wp2_with fail
                go_roundw
                case rel => exact ⟨_, cnt1, by rw [hv], hrg1, hl2, hb5⟩
                case measure => rw [hrg1.left_eq, hrg.left_eq]; exact hlt1
              · have hv : (z0 && seenOk (nums l) n (fun z => left z && !z.sameKey (.int .i64 x))) = false := by rw [hst, ← Bool.and_assoc, hq, t5]; simpa using h2
                go_wp2_with fail
                go_roundw
                case rel => exact ⟨_, cnt1, by rw [hv], hrg1, hl2, hb5⟩
                case measure => rw [hrg1.left_eq, hrg.left_eq]; exact hlt1
            · have t5 : (cc == 1) = false := by simpa using h1
              have hv : (z0 && seenOk (nums l) n (fun z => left z && !z.sameKey (.int .i64 x))) = false := by rw [hst, ← Bool.and_assoc, hq, t5]; rfl
              go_wp2_with fail
              go_roundw
              case rel => exact ⟨_, cnt1, by rw [hv], hrg1, hl2, hb5⟩
              case measure => rw [hrg1.left_eq, hrg.left_eq]; exact hlt1
end Go.Proofs.YtbgcngkofbelmaaDoor
