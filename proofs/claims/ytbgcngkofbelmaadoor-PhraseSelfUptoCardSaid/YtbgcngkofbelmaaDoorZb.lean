/-
  The walk of PhraseSelf: it answers yes. Conditions: the texts are short enough to be in memory; the two listed error variables are laid.
-/
import Derived.Test.YtbgcngkofbelmaaDoorZa
namespace Go.Proofs.YtbgcngkofbelmaaDoor
open Go.RowKit
open Ph
def arr16 : Array Value := #[.string ⟨#[123, 48, 125]⟩, .string ⟨#[123, 49, 125]⟩, .string ⟨#[123, 50, 125]⟩, .string ⟨#[123, 51, 125]⟩, .string ⟨#[123, 52, 125]⟩, .string ⟨#[123, 53, 125]⟩, .string ⟨#[123, 54, 125]⟩, .string ⟨#[123, 55, 125]⟩, .string ⟨#[123, 56, 125]⟩, .string ⟨#[123, 57, 125]⟩, .string ⟨#[123, 49, 48, 125]⟩, .string ⟨#[123, 49, 49, 125]⟩, .string ⟨#[123, 49, 50, 125]⟩, .string ⟨#[123, 49, 51, 125]⟩, .string ⟨#[123, 49, 52, 125]⟩, .string ⟨#[123, 49, 53, 125]⟩]
theorem arr16_eq : arr16 = (all16.map Value.string).toArray := by rw [all16_lit]; rfl
theorem texts16 (w : World) : Texts (w.alloc (.cells arr16 9)) (w.heap.size + 1) (some ⟨w.heap.size, 0, none⟩) all16 := fun _ => by
  refine ⟨_, rfl, by simp, fun j hj => ?_⟩
  have hc := (Blk.new w 9 arr16).cell j
  have he : (⟨w.heap.size, 0, none⟩ : Addr).add j = ⟨w.heap.size, j, none⟩ := by
    unfold Addr.add; split
    · rename_i h; rw [h]
    · simp
  rw [he, hc, arr16_eq]
  simp [hj]
set_option maxRecDepth 100000 in
set_option maxHeartbeats 8000000 in
theorem pself_wrong {s : ByteArray} {a b : Int} (A : Option Addr) (xs : List ByteArray) (cc : Nat) (hs : s.size ≤ 281474976710656) (hf : Wrong s a b)
    (w : World) (hg : Glob w) : Calls Tryd.prog 5 #[.string s, .slice A xs.length cc] w fun e w' => e = .returned (.bool true) ∧ Below w.heap.size w w' := by
  have HW := wakes_yes w hg
  have hz := hf.nz
  have t1 : (a == 0) = false := by simpa using hz
  have t2 : (a != 0) = true := by simpa using hz
  go_enter Tryd.func5, Tryd.ntmps5
  go_wp2_with (go_at_call 11; refine HW.mono ?_; rintro e w1 ⟨rfl, hb1⟩)
  have hb2 := hb1.alloc hb1.size (.cells arr16 9)
  have HF := fill_wrong hs hf (.slice (some ⟨w1.heap.size, 0, none⟩) 16 16) _ (hg.below hb2 hg.size)
  unfold arr16 at HF
  refine HF.mono ?_
  rintro e w2 ⟨rfl, hb3⟩
  have hb4 := hb2.trans (hb3.mono hb2.size)
  have HP := WrongP.calls (parse_wrong hs hf w2 (hg.below hb4 hg.size))
  go_wp2_with (go_at_call 13; refine HP.mono ?_; rintro e w3 ⟨rfl, hb5⟩)
  have hb6 := hb4.trans (hb5.mono hb4.size)
  have hb7 := hb6.alloc hb6.size (.cells #[.int .i64 a, .int .i64 b] 26)
  refine bodyPost_ret (v := .bool true) ?_ rfl ⟨rfl, hb7⟩
  simp [results, Tryd.results5, go_sem]
set_option maxRecDepth 100000 in
set_option maxHeartbeats 8000000 in
theorem pself_fine {s : ByteArray} {l : List Pc} (A : Option Addr) (xs : List ByteArray) (cc B : Nat) (hs : s.size ≤ 281474976710656) (hf : Fine s l) (hxs : ∀ x ∈ xs, x.size ≤ 281474976710656) (hcc : xs.length ≤ cc)
    (w : World) (hg : Glob w) (hX : Texts w B A xs) (hB : B ≤ w.heap.size) : Calls Tryd.prog 5 #[.string s, .slice A xs.length cc] w fun e w' => e = .returned (.bool true) ∧ Below w.heap.size w w' := by
  have HW := wakes_yes w hg
  obtain ⟨ys, hys⟩ : ∃ ys, ys = xs.take 20 := ⟨_, rfl⟩
  have hyl : ys.length = min xs.length 20 := by rw [hys, List.length_take]; omega
  have hm1 : min (xs.length : Int) 20 = (ys.length : Int) := by omega
  have hm2 : ys.length ≤ cc := by omega
  have hY : Texts w B A ys := hys ▸ hX.take 20
  have hysz : ∀ x ∈ ys, x.size ≤ 281474976710656 := fun x hx => hxs x (List.mem_of_mem_take (hys ▸ hx))
  have hys4 : ys.length ≤ 20 := by omega
  clear hys hyl hxs hX
  have hsz := hf.sizes hs
  have ht := tells_all hsz
  have hln := hf.len
  have h16 := hf.all16
  have hlay := hf.lays ys
  have hsl : ∀ i, sizeS ys (l.take i) ≤ 4096 * (281474976710656 + 281474976710656) := fun i => by
    have a := sizeS_le (xs := ys) (R := 281474976710656) (l := l.take i) (fun p hp => hsz p (List.mem_of_mem_take hp)) hysz
    have b : (l.take i).length ≤ 4096 := by rw [List.length_take]; omega
    exact Nat.le_trans a (Nat.mul_le_mul_right _ b)
  go_enter Tryd.func5, Tryd.ntmps5
  go_wp2_with (go_at_call 11; refine HW.mono ?_; rintro e w1 ⟨rfl, hb1⟩)
  have hb2 := hb1.alloc hb1.size (.cells arr16 9)
  have HF := fill_fine (some ⟨w1.heap.size, 0, none⟩) all16 16 (w1.heap.size + 1) hs hf ht (by decide) (fun x hx => by
    rw [all16_lit] at hx
    have : ∀ y ∈ [(⟨#[123, 48, 125]⟩ : ByteArray), (⟨#[123, 49, 125]⟩ : ByteArray), (⟨#[123, 50, 125]⟩ : ByteArray), (⟨#[123, 51, 125]⟩ : ByteArray), (⟨#[123, 52, 125]⟩ : ByteArray), (⟨#[123, 53, 125]⟩ : ByteArray), (⟨#[123, 54, 125]⟩ : ByteArray), (⟨#[123, 55, 125]⟩ : ByteArray), (⟨#[123, 56, 125]⟩ : ByteArray), (⟨#[123, 57, 125]⟩ : ByteArray), (⟨#[123, 49, 48, 125]⟩ : ByteArray), (⟨#[123, 49, 49, 125]⟩ : ByteArray), (⟨#[123, 49, 50, 125]⟩ : ByteArray), (⟨#[123, 49, 51, 125]⟩ : ByteArray), (⟨#[123, 49, 52, 125]⟩ : ByteArray), (⟨#[123, 49, 53, 125]⟩ : ByteArray)], y.size ≤ 281474976710656 := by decide
    exact this x hx) _ (hg.below hb2 hg.size) (texts16 w1) (by simp)
  rw [h16, show all16.length = 16 from rfl] at HF
  unfold arr16 at HF
  refine HF.mono ?_
  rintro e w2 ⟨rfl, hb3⟩
  have hb4 := hb2.trans (hb3.mono hb2.size)
  have HP := FineP.calls (parse_fine hs hf w2 (hg.below hb4 hg.size))
  clear HW HF h16
  go_wp2_with (go_at_call 13; refine HP.mono ?_; rintro e w3 ⟨L, lc, rfl, _, hL, hb5⟩)
  have hb6 := hb4.trans (hb5.mono hb4.size)
  have hb7 := hb6.alloc hb6.size (.cells #[.int .i64 0, .int .i64 0] 26)
  have hL7 := hL.alloc (Nat.le_refl _) (.cells #[.int .i64 0, .int .i64 0] 26)
  have hY7 := hY.below (hb7.mono hB)
  clear HP hL hY
  go_loopw [10, 11, 53] (fun u v z wr => ∃ i : Nat, u = .int .i64 (sizeS ys (l.take i)) ∧ v = .int .i64 (mostP (l.take i) (-1)) ∧ z = .int .i64 i ∧ i ≤ l.length ∧ Lists wr w3.heap.size L l ∧ Texts wr B A ys ∧ Below w.heap.size w wr ∧ w3.heap.size ≤ wr.heap.size) (fun _ _ z _ => l.length - (intOf z).toNat)
  case atStart => exact ⟨0, rfl, rfl, rfl, by omega, hL7, hY7, hb7, by simp⟩
  case round =>
    clear hL7 hY7 hb7
    obtain ⟨i, rfl, rfl, rfl, hi, hL, hY, hb, hw3⟩ := hrel
    by_cases h : i < l.length
    · obtain ⟨ad, rfl, b0, c0, c1, c2⟩ := hL.pc h
      have hLN := hL.alloc hw3 (.cells #[.int .i64 l[i].kind, .string l[i].text, .int .i64 l[i].place] 31)
      have hYN := hY.alloc (Nat.le_trans hB hb.size) (.cells #[.int .i64 l[i].kind, .string l[i].text, .int .i64 l[i].place] 31)
      have hbN := hb.alloc hb.size (.cells #[.int .i64 l[i].kind, .string l[i].text, .int .i64 l[i].place] 31)
      have hss := sizeS_take (xs := ys) h
      have hmm := mostP_take h (-1)
      have s0 := hsl i
      have s1 := hsl (i + 1)
      have ht0 := hsz _ (List.getElem_mem h)
      by_cases k2 : l[i].kind = 2
      · have t1 : (l[i].kind == 2) = true := by simpa using k2
        obtain ⟨g0, g16⟩ := hf.place (List.getElem_mem h) k2
        rw [if_pos k2] at hmm
        obtain ⟨n, hq⟩ : ∃ n : Nat, l[i].place = n := ⟨l[i].place.toNat, by omega⟩
        by_cases g : n < ys.length
        · have e1 : sizeP ys.length ys l[i] = l[i].text.size + (ys[n]).size := by
            unfold sizeP
            rw [if_pos ⟨k2, by omega⟩, hq]
            congr 1
            unfold argOf
            simp [g]
          have hxz := hysz _ (List.getElem_mem g)
          obtain ⟨ae, rfl, x0, cx⟩ := hYN (by omega)
          have d0 := cx n g
          have hgz : (n : Int) < (ys.length : Int) := by omega
          rw [e1] at hss
          rw [hq] at c2 hLN hYN hbN d0 hmm
          clear k2 e1 cx hsl hsz hlay ht hysz
          go_wp2_with fail
          go_roundw
          case rel => exact ⟨i + 1, by rw [hss]; go_num, by rw [hmm], by go_num, by omega, hLN, hYN, hbN, Nat.le_trans hw3 (by simp)⟩
          case measure => simp [intOf]; omega
        · have e1 : sizeP ys.length ys l[i] = l[i].text.size := by
            unfold sizeP
            rw [if_neg (fun c => by have := c.2; omega)]; rfl
          have hgz : ¬ (n : Int) < (ys.length : Int) := by omega
          rw [e1] at hss
          rw [hq] at c2 hLN hYN hbN hmm
          clear k2 e1 hsl hsz hlay ht hysz
          go_wp2_with fail
          go_roundw
          case rel => exact ⟨i + 1, by rw [hss]; go_num, by rw [hmm], by go_num, by omega, hLN, hYN, hbN, Nat.le_trans hw3 (by simp)⟩
          case measure => simp [intOf]; omega
      · have t1 : (l[i].kind == 2) = false := by simpa using k2
        rw [if_neg k2] at hmm
        have e1 : sizeP ys.length ys l[i] = l[i].text.size := by
          unfold sizeP
          rw [if_neg (fun c => k2 c.1)]; rfl
        rw [e1] at hss
        clear k2 e1 hsl hsz hlay ht hysz
        go_wp2_with fail
        go_roundw
        case rel => exact ⟨i + 1, by rw [hss]; go_num, by rw [hmm], by go_num, by omega, hLN, hYN, hbN, Nat.le_trans hw3 (by simp)⟩
        case measure => simp [intOf]; omega
    · obtain rfl : i = l.length := by omega
      rw [List.take_length]
      have hsz0 := hsl l.length
      rw [List.take_length] at hsz0
      have HF := fill_fine A ys cc B hs hf ht (by omega) hysz wr (hg.below hb hg.size) hY (Nat.le_trans hB hb.size)
      unfold layR at HF
      rw [hlay] at HF
      have hcat := hf.catSize ys
      have hpl := hf.plain ys
      clear hlay hsl hsz ht hysz hf
      generalize catT (argOf ys) l = q at *
      generalize mostP l (-1) = m at *
      generalize sizeS ys l = z at *
      by_cases c : (ys.length : Int) ≤ m
      · rw [if_pos c] at HF
        clear hcat hpl
        go_wp2_with (go_at_call 17; refine HF.mono ?_; rintro e w4 ⟨rfl, hb8⟩)
        refine bodyPost_ret (v := .bool true) ?_ rfl ⟨rfl, hb.trans (hb8.mono hb.size)⟩
        simp [results, Tryd.results5, go_sem]
      · rw [if_neg c] at HF
        have hqz := hcat c
        clear hcat
        by_cases c2 : z ≤ 262144
        · rw [if_pos c2] at HF
          have c3 : ¬ (262144 : Int) < (z : Int) := by omega
          by_cases c4 : m < 0
          · have hqs := hpl c4
            subst hqs
            have c5 : ¬ (0 : Int) ≤ m := by omega
            clear hpl
            rw [← hqz] at c3 ⊢
            go_wp2_with (go_at_call 17; refine HF.mono ?_; rintro e w4 ⟨rfl, hb8⟩)
            refine bodyPost_ret (v := .bool true) ?_ rfl ⟨rfl, hb.trans (hb8.mono hb.size)⟩
            simp [results, Tryd.results5, go_sem]
          · have c5 : (0 : Int) ≤ m := by omega
            clear hpl
            rw [← hqz] at c3 ⊢
            go_wp2_with (go_at_call 17; refine HF.mono ?_; rintro e w4 ⟨rfl, hb8⟩)
            refine bodyPost_ret (v := .bool true) ?_ rfl ⟨rfl, hb.trans (hb8.mono hb.size)⟩
            simp [results, Tryd.results5, go_sem]
        · rw [if_neg c2] at HF
          have c3 : (262144 : Int) < (z : Int) := by omega
          clear hpl hqz
          go_wp2_with (go_at_call 17; refine HF.mono ?_; rintro e w4 ⟨rfl, hb8⟩)
          refine bodyPost_ret (v := .bool true) ?_ rfl ⟨rfl, hb.trans (hb8.mono hb.size)⟩
          simp [results, Tryd.results5, go_sem]
end Go.Proofs.YtbgcngkofbelmaaDoor
