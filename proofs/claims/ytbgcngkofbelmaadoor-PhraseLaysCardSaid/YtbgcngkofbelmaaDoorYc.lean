/-
  The walk of PhraseBack: it answers yes. Conditions: the texts are short enough to be in memory; the two listed error variables are laid.
-/
import Derived.Test.YtbgcngkofbelmaaDoorYb
namespace Go.Proofs.YtbgcngkofbelmaaDoor
open Go.RowKit
open Ph
theorem Lists.take {w : World} {B : Nat} {A : Option Addr} {l : List Pc} (h : Lists w B A l) (n : Nat) : Lists w B A (l.take n) := fun hn => by
  obtain ⟨ad, e, hb, hc⟩ := h (by rw [List.length_take] at hn; omega)
  refine ⟨ad, e, hb, fun j u hu => hc j u ?_⟩
  have e2 : pcells l = pcells (l.take n) ++ pcells (l.drop n) := by
    unfold pcells; rw [← List.flatMap_append, List.take_append_drop]
  rw [e2, List.getElem?_append_left (List.getElem?_eq_some_iff.1 hu).1]
  exact hu
theorem Fine.print {s : ByteArray} {l : List Pc} (h : Fine s l) : printR l = .tuple #[.string s, .int .i64 0] := by
  unfold printR printP
  rw [h.ok]
  have e := h.cat
  have e2 : sumT tellP l ≤ 4096 := by rw [← catT_size, e]; exact h.1
  simp only [if_pos e2, e]
theorem printR_fine {l : List Pc} (h : badAt l = none) (hs : sumT tellP l ≤ 4096) : printR l = .tuple #[.string (catT tellP l), .int .i64 0] := by
  unfold printR printP
  rw [h]
  simp only [if_pos hs]
theorem printR_long {l : List Pc} (h : badAt l = none) (hs : ¬ sumT tellP l ≤ 4096) : printR l = .tuple #[.string ⟨#[]⟩, .int .i64 3] := by
  unfold printR printP
  rw [h]
  simp only [if_neg hs]
theorem printR_bad {l : List Pc} {k : Nat} (h : badAt l = some k) : printR l = .tuple #[.string ⟨#[]⟩, .int .i64 2] := by
  unfold printR printP
  rw [h]
set_option maxRecDepth 100000 in
set_option maxHeartbeats 8000000 in
theorem pback_wrong {s : ByteArray} {a b : Int} (A : Option Addr) (l0 : List Pc) (cc B : Nat) (hs : s.size ≤ 281474976710656) (hf : Wrong s a b) (hls : ∀ p ∈ l0, p.text.size ≤ 281474976710656) (hcc : l0.length ≤ cc)
    (w : World) (hg : Glob w) (hX : Lists w B A l0) (hB : B ≤ w.heap.size) : Calls Tryd.prog 7 #[.string s, .slice A l0.length cc] w fun e w' => e = .returned (.bool true) ∧ Below w.heap.size w w' := by
  have HW := wakes_yes w hg
  obtain ⟨ys, hys⟩ : ∃ ys, ys = l0.take 200 := ⟨_, rfl⟩
  have hyl : ys.length = min l0.length 200 := by rw [hys, List.length_take]; omega
  have hm1 : min (l0.length : Int) 200 = (ys.length : Int) := by omega
  have hm2 : ys.length ≤ cc := by omega
  have hY : Lists w B A ys := hys ▸ hX.take 200
  have hysz : ∀ p ∈ ys, p.text.size ≤ 281474976710656 := fun x hx => hls x (List.mem_of_mem_take (hys ▸ hx))
  have hys4 : ys.length ≤ 200 := by omega
  have htY := tells_all hysz
  clear hys hyl hls hX
  have hz := hf.nz
  have t1 : (a == 0) = false := by simpa using hz
  have HF := fun w1 h => WrongP.calls (parse_wrong hs hf w1 h)
  go_enter Tryd.func7, Tryd.ntmps7
  go_wp2_with (go_at_call 11; refine HW.mono ?_; rintro e w1 ⟨rfl, hb1⟩)
  refine (HF w1 (hg.below hb1 hg.size)).mono ?_
  rintro e w2 ⟨rfl, hb2⟩
  have hb3 := hb1.trans (hb2.mono hb1.size)
  have hS := Blk.new w2 26 #[.int .i64 a, .int .i64 b]
  have c0 := hS.at_ 0 (v := .int .i64 a) rfl
  have c1 := hS.at_ 1 (v := .int .i64 b) rfl
  have hb4 := hb3.alloc hb3.size (.cells #[.int .i64 a, .int .i64 b] 26)
  clear hf HF HW
  have HP := fun w2 h1 h2 => print_any A ys cc B htY (by omega) w2 h1 h2
  cases hbad : badAt ys with
  | some k =>
    rw [printR_bad hbad] at HP
    clear hbad
    go_wp2_with (go_at_call 18; refine (HP _ (hY.below (hb4.mono hB)) (Nat.le_trans hB hb4.size)).mono ?_; rintro e v1 ⟨rfl, hv1⟩)
    refine bodyPost_ret (v := .bool true) ?_ rfl ⟨rfl, hb4.trans (hv1.mono hb4.size)⟩
    simp [results, Tryd.results7, go_sem]
  | none =>
    by_cases hfit : sumT tellP ys ≤ 4096
    · rw [printR_fine hbad hfit] at HP
      have hF := ok_fine hbad hfit
      have hK := ok_kinds hbad
      have hmn : (ys.map norm).length = ys.length := List.length_map _
      have hcs : (catT tellP ys).size ≤ 281474976710656 := Nat.le_trans hF.1 (by decide)
      have HQ := fun w2 (h : Glob w2) => FineP.calls (parse_fine hcs hF w2 h)
      generalize catT tellP ys = q at *
      rw [hmn] at HQ
      clear hbad hfit hF htY
      go_wp2_with (go_at_call 18; refine (HP _ (hY.below (hb4.mono hB)) (Nat.le_trans hB hb4.size)).mono ?_; rintro e v1 ⟨rfl, hv1⟩)
      have hv2 := hb4.trans (hv1.mono hb4.size)
      refine (HQ v1 (hg.below hv2 hg.size)).mono ?_
      rintro e v2 ⟨Q, qc, rfl, _, hLQ, hv3⟩
      have hv4 := hv2.trans (hv3.mono hv2.size)
      have hSq := Blk.new v2 26 #[.int .i64 0, .int .i64 0]
      have q0 := hSq.at_ 0 (v := .int .i64 0) rfl
      have q1 := hSq.at_ 1 (v := .int .i64 0) rfl
      have hv5 := hv4.alloc hv4.size (.cells #[.int .i64 0, .int .i64 0] 26)
      have hLQ5 := hLQ.alloc (Nat.le_refl _) (.cells #[.int .i64 0, .int .i64 0] 26)
      have hY5 := hY.below (hv5.mono hB)
      have HS := same_yes Q A ys qc cc _ _ _ hK hLQ5 hY5 (by omega)
      clear HP HQ hLQ hY
      go_wp2_with (go_at_call 20; refine HS.mono ?_; rintro e v3 ⟨rfl, hv6⟩)
      refine bodyPost_ret (v := .bool true) ?_ rfl ⟨rfl, hv5.trans (hv6.mono hv5.size)⟩
      simp [results, Tryd.results7, go_sem]
    · rw [printR_long hbad hfit] at HP
      clear hbad hfit
      go_wp2_with (go_at_call 18; refine (HP _ (hY.below (hb4.mono hB)) (Nat.le_trans hB hb4.size)).mono ?_; rintro e v1 ⟨rfl, hv1⟩)
      refine bodyPost_ret (v := .bool true) ?_ rfl ⟨rfl, hb4.trans (hv1.mono hb4.size)⟩
      simp [results, Tryd.results7, go_sem]
set_option maxRecDepth 100000 in
set_option maxHeartbeats 8000000 in
theorem pback_fine {s : ByteArray} {l : List Pc} (A : Option Addr) (l0 : List Pc) (cc B : Nat) (hs : s.size ≤ 281474976710656) (hf : Fine s l) (hls : ∀ p ∈ l0, p.text.size ≤ 281474976710656) (hcc : l0.length ≤ cc)
    (w : World) (hg : Glob w) (hX : Lists w B A l0) (hB : B ≤ w.heap.size) : Calls Tryd.prog 7 #[.string s, .slice A l0.length cc] w fun e w' => e = .returned (.bool true) ∧ Below w.heap.size w w' := by
  have HW := wakes_yes w hg
  obtain ⟨ys, hys⟩ : ∃ ys, ys = l0.take 200 := ⟨_, rfl⟩
  have hyl : ys.length = min l0.length 200 := by rw [hys, List.length_take]; omega
  have hm1 : min (l0.length : Int) 200 = (ys.length : Int) := by omega
  have hm2 : ys.length ≤ cc := by omega
  have hY : Lists w B A ys := hys ▸ hX.take 200
  have hysz : ∀ p ∈ ys, p.text.size ≤ 281474976710656 := fun x hx => hls x (List.mem_of_mem_take (hys ▸ hx))
  have hys4 : ys.length ≤ 200 := by omega
  have htY := tells_all hysz
  clear hys hyl hls hX
  have HF := fun w1 h => FineP.calls (parse_fine hs hf w1 h)
  have hsz := hf.sizes hs
  have ht := tells_all hsz
  have hln := hf.len
  have hpr := hf.print
  have hok := hf.ok
  go_enter Tryd.func7, Tryd.ntmps7
  go_wp2_with (go_at_call 11; refine HW.mono ?_; rintro e w1 ⟨rfl, hb1⟩)
  refine (HF w1 (hg.below hb1 hg.size)).mono ?_
  rintro e w2 ⟨L, lc, rfl, _, hL, hb2⟩
  have hb3 := hb1.trans (hb2.mono hb1.size)
  have hS := Blk.new w2 26 #[.int .i64 0, .int .i64 0]
  have c0 := hS.at_ 0 (v := .int .i64 0) rfl
  have c1 := hS.at_ 1 (v := .int .i64 0) rfl
  have hb4 := hb3.alloc hb3.size (.cells #[.int .i64 0, .int .i64 0] 26)
  have hL4 := hL.alloc (Nat.le_refl _) (.cells #[.int .i64 0, .int .i64 0] 26)
  have HPr := print_any L l lc w2.heap.size ht (by omega) _ hL4 (by simp)
  rw [hpr] at HPr
  have HCk := fun w3 h1 h2 => check_any L l lc w2.heap.size ht (by omega) w3 h1 h2
  rw [hok] at HCk
  simp only [faultV] at HCk
  clear hf HF HW hpr hok ht hsz
  go_wp2_with (go_at_call 18; refine HPr.mono ?_; rintro e w3 ⟨rfl, hb5⟩)
  have hb6 := hb4.trans (hb5.mono hb4.size)
  have hL6 := hL4.below (hb5.mono (by simp))
  refine (HCk w3 hL6 (Nat.le_trans (by simp) hb5.size)).mono ?_
  rintro e w4 ⟨rfl, hb7⟩
  have hb8 := hb6.trans (hb7.mono hb6.size)
  clear HPr HCk
  have HP := fun w2 h1 h2 => print_any A ys cc B htY (by omega) w2 h1 h2
  cases hbad : badAt ys with
  | some k =>
    rw [printR_bad hbad] at HP
    clear hbad
    go_wp2_with (go_at_call 18; refine (HP _ (hY.below (hb8.mono hB)) (Nat.le_trans hB hb8.size)).mono ?_; rintro e v1 ⟨rfl, hv1⟩)
    refine bodyPost_ret (v := .bool true) ?_ rfl ⟨rfl, hb8.trans (hv1.mono hb8.size)⟩
    simp [results, Tryd.results7, go_sem]
  | none =>
    by_cases hfit : sumT tellP ys ≤ 4096
    · rw [printR_fine hbad hfit] at HP
      have hF := ok_fine hbad hfit
      have hK := ok_kinds hbad
      have hmn : (ys.map norm).length = ys.length := List.length_map _
      have hcs : (catT tellP ys).size ≤ 281474976710656 := Nat.le_trans hF.1 (by decide)
      have HQ := fun w2 (h : Glob w2) => FineP.calls (parse_fine hcs hF w2 h)
      generalize catT tellP ys = q at *
      rw [hmn] at HQ
      clear hbad hfit hF htY
      go_wp2_with (go_at_call 18; refine (HP _ (hY.below (hb8.mono hB)) (Nat.le_trans hB hb8.size)).mono ?_; rintro e v1 ⟨rfl, hv1⟩)
      have hv2 := hb8.trans (hv1.mono hb8.size)
      refine (HQ v1 (hg.below hv2 hg.size)).mono ?_
      rintro e v2 ⟨Q, qc, rfl, _, hLQ, hv3⟩
      have hv4 := hv2.trans (hv3.mono hv2.size)
      have hSq := Blk.new v2 26 #[.int .i64 0, .int .i64 0]
      have q0 := hSq.at_ 0 (v := .int .i64 0) rfl
      have q1 := hSq.at_ 1 (v := .int .i64 0) rfl
      have hv5 := hv4.alloc hv4.size (.cells #[.int .i64 0, .int .i64 0] 26)
      have hLQ5 := hLQ.alloc (Nat.le_refl _) (.cells #[.int .i64 0, .int .i64 0] 26)
      have hY5 := hY.below (hv5.mono hB)
      have HS := same_yes Q A ys qc cc _ _ _ hK hLQ5 hY5 (by omega)
      clear HP HQ hLQ hY
      go_wp2_with (go_at_call 20; refine HS.mono ?_; rintro e v3 ⟨rfl, hv6⟩)
      refine bodyPost_ret (v := .bool true) ?_ rfl ⟨rfl, hv5.trans (hv6.mono hv5.size)⟩
      simp [results, Tryd.results7, go_sem]
    · rw [printR_long hbad hfit] at HP
      clear hbad hfit
      go_wp2_with (go_at_call 18; refine (HP _ (hY.below (hb8.mono hB)) (Nat.le_trans hB hb8.size)).mono ?_; rintro e v1 ⟨rfl, hv1⟩)
      refine bodyPost_ret (v := .bool true) ?_ rfl ⟨rfl, hb8.trans (hv1.mono hb8.size)⟩
      simp [results, Tryd.results7, go_sem]
end Go.Proofs.YtbgcngkofbelmaaDoor
