/-
  Contract of the reference's Lay: it tells the same as the layer's. Conditions: the texts are short enough to be in memory.
-/
import Derived.Test.YtbgcngkofbelmaaDoorXa
import Derived.Test.YtbgcngkofbelmaaDoorP
namespace Go.Proofs.YtbgcngkofbelmaaDoor
open Go.RowKit
open Ph
set_option maxRecDepth 100000 in
set_option maxHeartbeats 8000000 in
theorem refLay (A : Option Addr) (l : List Pc) (c B : Nat) (AA : Option Addr) (xs : List ByteArray) (cc : Nat) (ht : ∀ p ∈ l, p.text.size ≤ 281474976710656) (hn : l.length ≤ 281474976710656) (hxl : xs.length ≤ 281474976710656) (hxs : ∀ x ∈ xs, x.size ≤ 281474976710656)
    (w : World) (hL : Lists w B A l) (hX : Texts w B AA xs) (hB : B ≤ w.heap.size) :
    Calls Tryd.prog 22 #[.slice A l.length c, .slice AA xs.length cc] w fun e w' => e = .returned (layR xs l) ∧ Below w.heap.size w w' := by
  have HC := refCheck A l c B ht hn w hL hB
  cases hbad : badAt l with
  | some k =>
    have hR : layR xs l = .tuple #[.string ⟨#[]⟩, .int .i64 2] := by simp [layR, layP, hbad]
    rw [hbad] at HC
    rw [hR]
    simp only [faultV] at HC
    go_enter Tryd.func22, Tryd.ntmps22
    go_wp2_with (go_at_call 26; refine HC.mono ?_; rintro e w1 ⟨rfl, hb2⟩)
    go_quiet (fail)
    go_wp2_with fail
    refine bodyPost_ret (v := .tuple #[.string ⟨#[]⟩, .int .i64 2]) ?_ rfl ⟨rfl, blw_drewN (hb2.alloc hb2.size _) _⟩
    simp [results, Tryd.results22, go_sem]
  | none =>
    rw [hbad] at HC
    simp only [faultV] at HC
    go_enter Tryd.func22, Tryd.ntmps22
    go_wp2_with (go_at_call 26; refine HC.mono ?_; rintro e w1 ⟨rfl, hb2⟩)
    have hb3 := hb2.alloc hb2.size (.cells #[.int .i64 0, .int .i64 0] 43)
    have hL3 := hL.below (hb3.mono hB)
    have hX3 := hX.below (hb3.mono hB)
    clear hb2
    generalize w1.alloc (.cells #[.int .i64 0, .int .i64 0] 43) = w2 at *
    clear HC hL hX
    go_loopw [23] (fun u wr => ∃ i : Nat, u = .int .i64 i ∧ i ≤ l.length ∧ Lists wr B A l ∧ Texts wr B AA xs ∧ Below w.heap.size w wr ∧ (l.take i).any (big xs.length) = false) (fun u _ => l.length - (intOf u).toNat)
    case atStart => exact ⟨0, rfl, by omega, hL3, hX3, hb3, rfl⟩
    case round =>
      clear hL3 hX3 hb3
      obtain ⟨i, rfl, hi, hL, hX, hb, hno⟩ := hrel
      by_cases hlt : i < l.length
      · obtain ⟨ad, rfl, b0, c0, c1, c2⟩ := hL.pc hlt
        have hLN := hL.alloc (Nat.le_trans hB hb.size) (.cells #[.int .i64 l[i].kind, .string l[i].text, .int .i64 l[i].place] 31)
        have hXN := hX.alloc (Nat.le_trans hB hb.size) (.cells #[.int .i64 l[i].kind, .string l[i].text, .int .i64 l[i].place] 31)
        have hbN := hb.alloc hb.size (.cells #[.int .i64 l[i].kind, .string l[i].text, .int .i64 l[i].place] 31)
        have hst := any_take (m := xs.length) hlt
        rw [hno, Bool.false_or] at hst
        by_cases k2 : l[i].kind = 2
        · have t2 : (l[i].kind == 2) = true := by simpa using k2
          by_cases g : (xs.length : Int) ≤ l[i].place
          · have hbg : big xs.length l[i] = true := by unfold big; simp [k2, g]
            have hany : l.any (big xs.length) = true := any_hit hlt hbg
            have hR : layR xs l = .tuple #[.string ⟨#[]⟩, .int .i64 2] := by simp only [layR, layP, hbad, hany]
            clear k2 hst
            go_wp2_with fail
            refine bodyPost_ret (v := .tuple #[.string ⟨#[]⟩, .int .i64 2]) ?_ rfl ⟨by rw [hR], hbN⟩
            simp [results, Tryd.results22, go_sem]
          · have hbg : big xs.length l[i] = false := by unfold big; simp [k2]; omega
            rw [hbg] at hst
            clear k2 hbg
            go_wp2_with fail
            go_roundw
            case rel => exact ⟨i + 1, by go_num, by omega, hLN, hXN, hbN, hst⟩
            case measure => simp [intOf]; omega
        · have t2 : (l[i].kind == 2) = false := by simpa using k2
          have hbg : big xs.length l[i] = false := by unfold big; simp [k2]
          rw [hbg] at hst
          clear k2 hbg
          go_wp2_with fail
          go_roundw
          case rel => exact ⟨i + 1, by go_num, by omega, hLN, hXN, hbN, hst⟩
          case measure => simp [intOf]; omega
      · obtain rfl : i = l.length := by omega
        rw [List.take_length] at hno
        rename World => wo
        go_wp2_with fail
        go_loopw [7, 10, 40] (fun u v z wr => ∃ (i : Nat) (acc : ByteArray), u = .int .i64 acc.size ∧ v = .string acc ∧ z = .int .i64 i ∧ i ≤ l.length ∧ acc.size ≤ 262144 ∧ Lists wr B A l ∧ Texts wr B AA xs ∧ Below w.heap.size w wr ∧ putAll (argOf xs) 262144 ⟨#[]⟩ l = putAll (argOf xs) 262144 acc (l.drop i)) (fun _ _ z _ => l.length - (intOf z).toNat)
        case atStart => exact ⟨0, ⟨#[]⟩, rfl, rfl, rfl, by omega, by decide, hL, hX, hb, by simp⟩
        case round =>
          clear hL hX hb
          obtain ⟨i, acc, rfl, rfl, rfl, hi, hacc, hL, hX, hb, hp⟩ := hrel
          by_cases h : i < l.length
          · obtain ⟨ad, rfl, b0, c0, c1, c2⟩ := hL.pc h
            have hLN := hL.alloc (Nat.le_trans hB hb.size) (.cells #[.int .i64 l[i].kind, .string l[i].text, .int .i64 l[i].place] 31)
            have hXN := hX.alloc (Nat.le_trans hB hb.size) (.cells #[.int .i64 l[i].kind, .string l[i].text, .int .i64 l[i].place] 31)
            have hbN := hb.alloc hb.size (.cells #[.int .i64 l[i].kind, .string l[i].text, .int .i64 l[i].place] 31)
            rw [putAll_drop h] at hp
            by_cases k2 : l[i].kind = 2
            · have t1 : (l[i].kind == 2) = true := by simpa using k2
              have e1 : txt (argOf xs) l[i] = argOf xs l[i].place := by unfold txt; rw [if_pos k2]
              obtain ⟨g0, _⟩ := bad_none_place hbad (List.getElem_mem h) k2
              have g1 := any_big_place hno (List.getElem_mem h) k2
              obtain ⟨n, hq⟩ : ∃ n : Nat, l[i].place = n := ⟨l[i].place.toNat, by omega⟩
              have hnx : n < xs.length := by omega
              have e2 : argOf xs l[i].place = xs[n] := by rw [hq]; unfold argOf; simp [hnx]
              rw [e1, e2] at hp
              have hxz := hxs _ (List.getElem_mem hnx)
              obtain ⟨ae, rfl, x0, cx⟩ := hXN (by omega)
              have d0 := cx n hnx
              rw [hq] at c2 hLN hXN hbN d0
              have hlz : (n : Int) < (xs.length : Int) := by omega
              clear k2 e1 e2 cx
              by_cases hfit : acc.size + (xs[n]).size ≤ 262144
              · rw [if_pos hfit] at hp
                have hfi : ¬ (262144 : Int) < (acc.size : Int) + (xs[n]).size := by omega
                go_wp2_with fail
                go_roundw
                case rel => exact ⟨i + 1, acc ++ xs[n], by rw [ByteArray.size_append]; go_num, rfl, by go_num, by omega, by rw [ByteArray.size_append]; omega, hLN, hXN, hbN, hp⟩
                case measure => simp [intOf]; omega
              · rw [if_neg hfit] at hp
                have hfi : (262144 : Int) < (acc.size : Int) + (xs[n]).size := by omega
                have hR : layR xs l = .tuple #[.string ⟨#[]⟩, .int .i64 3] := by simp only [layR, layP, hbad, hno, hp]
                go_wp2_with fail
                refine bodyPost_ret (v := .tuple #[.string ⟨#[]⟩, .int .i64 3]) ?_ rfl ⟨by rw [hR], hbN⟩
                simp [results, Tryd.results22, go_sem]
            · have t1 : (l[i].kind == 2) = false := by simpa using k2
              have e1 : txt (argOf xs) l[i] = l[i].text := by unfold txt; rw [if_neg k2]
              have hsz := ht _ (List.getElem_mem h)
              rw [e1] at hp
              clear k2 e1
              by_cases hfit : acc.size + (l[i].text).size ≤ 262144
              · rw [if_pos hfit] at hp
                have hfi : ¬ (262144 : Int) < (acc.size : Int) + (l[i].text).size := by omega
                go_wp2_with fail
                go_roundw
                case rel => exact ⟨i + 1, acc ++ l[i].text, by rw [ByteArray.size_append]; go_num, rfl, by go_num, by omega, by rw [ByteArray.size_append]; omega, hLN, hXN, hbN, hp⟩
                case measure => simp [intOf]; omega
              · rw [if_neg hfit] at hp
                have hfi : (262144 : Int) < (acc.size : Int) + (l[i].text).size := by omega
                have hR : layR xs l = .tuple #[.string ⟨#[]⟩, .int .i64 3] := by simp only [layR, layP, hbad, hno, hp]
                go_wp2_with fail
                refine bodyPost_ret (v := .tuple #[.string ⟨#[]⟩, .int .i64 3]) ?_ rfl ⟨by rw [hR], hbN⟩
                simp [results, Tryd.results22, go_sem]
          · obtain rfl : i = l.length := by omega
            rw [List.drop_length, putAll] at hp
            have hR : layR xs l = .tuple #[.string acc, .int .i64 0] := by simp only [layR, layP, hbad, hno, hp]
            go_wp2_with fail
            refine bodyPost_ret (v := .tuple #[.string acc, .int .i64 0]) ?_ rfl ⟨by rw [hR], hb⟩
            simp [results, Tryd.results22, go_sem]
end Go.Proofs.YtbgcngkofbelmaaDoor
