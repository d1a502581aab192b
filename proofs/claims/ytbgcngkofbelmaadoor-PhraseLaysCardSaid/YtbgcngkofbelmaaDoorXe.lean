/-
  Contracts of the reference's digits and Print. Conditions: the pieces' texts are short enough to be in memory.
-/
import Derived.Test.YtbgcngkofbelmaaDoorXa
import Derived.Test.YtbgcngkofbelmaaDoorYb
namespace Go.Proofs.YtbgcngkofbelmaaDoor
open Go.RowKit
open Ph
theorem enc_digit : ∀ n : Nat, n < 10 → Utf8.encode (48 + n) = ⟨#[UInt8.ofNat (48 + n)]⟩ := by
  intro n h
  have : ∀ n : Nat, n < 10 → (Utf8.encode (48 + (n : Int))).data.toList = [UInt8.ofNat (48 + n)] := by decide +kernel
  apply ByteArray.ext
  apply Array.ext'
  rw [this n h]
set_option maxRecDepth 100000 in
set_option maxHeartbeats 1000000 in
theorem refDigits (n : Nat) (h : n < 16) (w : World) : Calls Tryd.prog 41 #[.int .i64 n] w fun e w' => e = .returned (.string ⟨(digits n).toArray⟩) ∧ w' = w := by
  by_cases g : n < 10
  · have g1 : ¬ (10 : Int) ≤ (n : Int) := by omega
    have e1 := enc_digit n g
    have e2 : digits n = [UInt8.ofNat (48 + n)] := by unfold digits; rw [if_pos g]
    have w1 : wrap32 (48 + (n : Int)) = 48 + n := by simp only [wrap32]; omega
    have w2 : IntKind.i32.wrap (48 + (n : Int)) = 48 + n := IntWalk.i32_in _ (by omega)
    go_enter Tryd.func41, Tryd.ntmps41
    go_wp2_with fail
    refine bodyPost_ret (v := .string ⟨#[48 + UInt8.ofNat n]⟩) ?_ rfl ⟨rfl, rfl⟩
    simp [results, Tryd.results41, go_sem]
  · obtain ⟨m, rfl⟩ : ∃ m, n = m + 10 := ⟨n - 10, by omega⟩
    have g1 : (10 : Int) ≤ (m : Int) + 10 := by omega
    have e1 := enc_digit m (by omega)
    have e2 : digits (m + 10) = [49, UInt8.ofNat (48 + m)] := by unfold digits; rw [if_neg (by omega)]; simp
    have w0 : (48 : Int) + ((m : Int) + 10) - 10 = 48 + m := by omega
    go_enter Tryd.func41, Tryd.ntmps41
    go_wp2_with fail
    have e3 : (⟨#[49]⟩ : ByteArray) ++ ⟨#[48 + UInt8.ofNat m]⟩ = ⟨(digits (m + 10)).toArray⟩ := by
      rw [e2]
      apply ByteArray.ext
      simp
    refine bodyPost_ret (v := .string ((⟨#[49]⟩ : ByteArray) ++ ⟨#[48 + UInt8.ofNat m]⟩)) ?_ rfl ⟨by rw [e3], rfl⟩
    simp [results, Tryd.results41, go_sem]
theorem sum_take {tell : Int → ByteArray} {l : List Pc} {i : Nat} (h : i < l.length) : catT tell (l.take (i + 1)) = catT tell (l.take i) ++ txt tell l[i] := by
  induction l generalizing i with
  | nil => simp at h
  | cons p l ih =>
    cases i with
    | zero =>
      simp only [List.take_succ_cons, List.take_zero, catT, List.getElem_cons_zero]
      rw [ByteArray.append_empty, ByteArray.empty_append]
    | succ i =>
      simp only [List.take_succ_cons, catT, List.getElem_cons_succ]
      rw [ih (by simpa using h), ByteArray.append_assoc]
theorem sumT_le {tell : Int → ByteArray} {l : List Pc} (i : Nat) : (catT tell (l.take i)).size ≤ sumT tell l := by
  induction l generalizing i with
  | nil => simp [catT, sumT]
  | cons p l ih =>
    cases i with
    | zero => exact Nat.zero_le _
    | succ i =>
      rw [List.take_succ_cons, catT, sumT, ByteArray.size_append]
      have := ih i
      omega
set_option maxRecDepth 100000 in
set_option maxHeartbeats 8000000 in
theorem refPrint (A : Option Addr) (l : List Pc) (c B : Nat) (ht : ∀ p ∈ l, p.text.size ≤ 281474976710656) (hn : l.length ≤ 281474976710656) (w : World) (hL : Lists w B A l) (hB : B ≤ w.heap.size) :
    Calls Tryd.prog 25 #[.slice A l.length c] w fun e w' => e = .returned (printR l) ∧ Below w.heap.size w w' := by
  have HC := refCheck A l c B ht hn w hL hB
  cases hbad : badAt l with
  | some k =>
    have hR : printR l = .tuple #[.string ⟨#[]⟩, .int .i64 2] := by simp [printR, printP, hbad]
    rw [hbad] at HC
    rw [hR]
    simp only [faultV] at HC
    go_enter Tryd.func25, Tryd.ntmps25
    go_wp2_with (go_at_call 26; refine HC.mono ?_; rintro e w1 ⟨rfl, hb2⟩)
    go_quiet (fail)
    go_wp2_with fail
    refine bodyPost_ret (v := .tuple #[.string ⟨#[]⟩, .int .i64 2]) ?_ rfl ⟨rfl, blw_drewN (hb2.alloc hb2.size _) _⟩
    simp [results, Tryd.results25, go_sem]
  | none =>
    rw [hbad] at HC
    simp only [faultV] at HC
    have hlong : ∀ i, 4096 < (catT tellP (l.take i)).size → printR l = .tuple #[.string ⟨#[]⟩, .int .i64 3] := fun i hi => by
      have := sumT_le (tell := tellP) (l := l) i
      simp only [printR, printP, hbad, if_neg (show ¬ sumT tellP l ≤ 4096 by omega)]
    have hfit : (catT tellP (l.take l.length)).size ≤ 4096 → printR l = .tuple #[.string (catT tellP (l.take l.length)), .int .i64 0] := fun hi => by
      rw [List.take_length] at hi ⊢
      rw [catT_size] at hi
      simp only [printR, printP, hbad, if_pos hi]
    have HP := Lib.hid (fun p (hp : p ∈ l) (k : p.kind = 2) => bad_none_place hbad hp k)
    have HK := Lib.hid (ok_kinds hbad)
    go_enter Tryd.func25, Tryd.ntmps25
    go_wp2_with (go_at_call 26; refine HC.mono ?_; rintro e w1 ⟨rfl, hb2⟩)
    have hb3 := hb2.alloc hb2.size (.cells #[.int .i64 0, .int .i64 0] 43)
    have hL3 := hL.below (hb3.mono hB)
    clear hb2
    generalize w1.alloc (.cells #[.int .i64 0, .int .i64 0] 43) = w2 at *
    clear HC hL
    go_loopw [5, 17] (fun u v wr => ∃ (i : Nat) (acc : ByteArray), u = .string acc ∧ v = .int .i64 i ∧ i ≤ l.length ∧ acc.size ≤ 4096 ∧ acc = catT tellP (l.take i) ∧ Lists wr B A l ∧ Below w.heap.size w wr) (fun _ v _ => l.length - (intOf v).toNat)
    case atStart => exact ⟨0, ⟨#[]⟩, rfl, rfl, by omega, by decide, rfl, hL3, hb3⟩
    case round =>
      clear hL3 hb3
      obtain ⟨i, acc, rfl, rfl, hi, hacc, hcat, hL, hb⟩ := hrel
      by_cases h : i < l.length
      · obtain ⟨ad, rfl, b0, c0, c1, c2⟩ := hL.pc h
        have hLN := hL.alloc (Nat.le_trans hB hb.size) (.cells #[.int .i64 l[i].kind, .string l[i].text, .int .i64 l[i].place] 31)
        have hbN := hb.alloc hb.size (.cells #[.int .i64 l[i].kind, .string l[i].text, .int .i64 l[i].place] 31)
        have hst := sum_take (tell := tellP) h
        rw [← hcat] at hst
        have hlo := hlong (i + 1)
        rw [hst] at hlo
        have hsz := ht _ (List.getElem_mem h)
        rcases HK.out _ (List.getElem_mem h) with k1 | k2
        · have t1 : (l[i].kind == 1) = true := by simpa using k1
          have e1 : txt tellP l[i] = l[i].text := by unfold txt; rw [if_neg (by omega)]
          rw [e1] at hst hlo
          rw [ByteArray.size_append] at hlo
          have z1 : (acc ++ l[i].text).size = acc.size + l[i].text.size := ByteArray.size_append
          clear k1 e1 hlong hfit
          by_cases hf : acc.size + l[i].text.size ≤ 4096
          · have hfi : ¬ (4096 : Int) < (acc.size : Int) + l[i].text.size := by omega
            have HS2 := Lib.hid hst.symm
            clear hst hlo hcat
            go_wp2_with fail
            go_roundw
            case rel => exact ⟨i + 1, acc ++ l[i].text, rfl, by go_num, by omega, by rw [z1]; exact hf, HS2.out, hLN, hbN⟩
            case measure => simp [intOf]; omega
          · have hfi : (4096 : Int) < (acc.size : Int) + l[i].text.size := by omega
            have hR := hlo (by omega)
            clear hst hlo hcat
            go_wp2_with fail
            refine bodyPost_ret (v := .tuple #[.string ⟨#[]⟩, .int .i64 3]) ?_ rfl ⟨by rw [hR], hbN⟩
            simp [results, Tryd.results25, go_sem]
        · have t1 : (l[i].kind == 1) = false := by rw [k2]; decide
          have e1 : txt tellP l[i] = tellP l[i].place := by unfold txt; rw [if_pos k2]
          obtain ⟨g0, g1⟩ := HP.out _ (List.getElem_mem h) k2
          obtain ⟨n, hq⟩ : ∃ n : Nat, l[i].place = n := ⟨l[i].place.toNat, by omega⟩
          have hn16 : n < 16 := by omega
          rw [e1, hq] at hst hlo
          have et : tellP (n : Int) = (⟨#[123]⟩ : ByteArray) ++ ⟨(digits n).toArray⟩ ++ ⟨#[125]⟩ := by
            apply ByteArray.ext
            apply Array.ext'
            simp [tellP]
          have HD := refDigits n hn16
          have hz : (digits n).length ≤ 2 := by unfold digits; split <;> simp
          have hts : (tellP (n : Int)).size = (digits n).length + 2 := tellP_size (n : Int)
          rw [ByteArray.size_append, hts] at hlo
          rw [et] at hst
          have z1 : (acc ++ ((⟨#[123]⟩ : ByteArray) ++ ⟨(digits n).toArray⟩ ++ ⟨#[125]⟩)).size = acc.size + ((digits n).length + 2) := by rw [ByteArray.size_append, ← et, hts]
          generalize digits n = dg at *
          have hz1 : ¬ 9223372036854775807 < 1 + dg.length := by omega
          have hz2 : ¬ 9223372036854775807 < 1 + dg.length + 1 := by omega
          have hz3 : ¬ 9223372036854775807 < acc.size + (1 + dg.length + 1) := by omega
          rw [hq] at c2 hLN hbN
          clear k2 e1 hlong hfit et hts HP HK hq
          by_cases hf : acc.size + (dg.length + 2) ≤ 4096
          · have hfi : ¬ (4096 : Int) < (acc.size : Int) + (1 + (dg.length : Int) + 1) := by omega
            have HS2 := Lib.hid hst.symm
            clear hst hlo hcat
            go_wp2_with (go_at_call 41; refine (HD _).mono ?_; rintro e w3 ⟨rfl, rfl⟩)
            go_roundw
            case rel => exact ⟨i + 1, _, rfl, by go_num, by omega, by rw [z1]; exact hf, HS2.out, hLN, hbN⟩
            case measure => simp [intOf]; omega
          · have hfi : (4096 : Int) < (acc.size : Int) + (1 + (dg.length : Int) + 1) := by omega
            have hR := hlo (by omega)
            clear hst hlo hcat
            go_wp2_with (go_at_call 41; refine (HD _).mono ?_; rintro e w3 ⟨rfl, rfl⟩)
            refine bodyPost_ret (v := .tuple #[.string ⟨#[]⟩, .int .i64 3]) ?_ rfl ⟨by rw [hR], hbN⟩
            simp [results, Tryd.results25, go_sem]
      · obtain rfl : i = l.length := by omega
        have hR := hfit (hcat ▸ hacc)
        rw [← hcat] at hR
        go_wp2_with fail
        refine bodyPost_ret (v := .tuple #[.string acc, .int .i64 0]) ?_ rfl ⟨by rw [hR], hb⟩
        simp [results, Tryd.results25, go_sem]
end Go.Proofs.YtbgcngkofbelmaaDoor
