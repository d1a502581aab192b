/-
  Contract of put: pieces put together, a place told by the given function. Condition: that function's contract at the pieces' places.
-/
import Derived.Test.YtbgcngkofbelmaaDoorN
import Derived.Test.YtbgcngkofbelmaaDoorH
namespace Go.Proofs.YtbgcngkofbelmaaDoor
open Go.RowKit
open Ph
def txt (tell : Int → ByteArray) (p : Pc) : ByteArray := if p.kind = 2 then tell p.place else p.text
def putAll (tell : Int → ByteArray) (most : Nat) : ByteArray → List Pc → Option ByteArray
  | acc, [] => some acc
  | acc, p :: l => if acc.size + (txt tell p).size ≤ most then putAll tell most (acc ++ txt tell p) l else none
def putV : Option ByteArray → Value
  | some b => .tuple #[.string b, .int .i64 0]
  | none => .tuple #[.string ⟨#[]⟩, .int .i64 3]
/-- the function tells these places, in every world that keeps what lies here -/
def ToldBy (f : Nat) (caps : Array Value) (W : World) (tell : Int → ByteArray) (l : List Pc) : Prop :=
  ∀ p ∈ l, (p.kind = 2 → ∀ wr : World, Below W.heap.size W wr → Calls Tryd.prog f (#[.int .i64 p.place] ++ caps) wr fun e w' => e = .returned (.string (tell p.place)) ∧ w' = wr) ∧ (txt tell p).size ≤ 281474976710656
theorem cells_push (a b : ByteArray) : Lib.strCells a ++ Lib.strCells b = Lib.strCells (a ++ b) := by
  simp [Lib.strCells, ByteArray.data_append]
theorem putAll_drop {tell : Int → ByteArray} {most : Nat} {acc : ByteArray} {l : List Pc} {i : Nat} (h : i < l.length) :
    putAll tell most acc (l.drop i) = if acc.size + (txt tell l[i]).size ≤ most then putAll tell most (acc ++ txt tell l[i]) (l.drop (i + 1)) else none := by
  rw [List.drop_eq_getElem_cons h, putAll]
theorem fresh_isBuilderF (w : World) : Lib.IsBuilderF 77 5 w.heap.size w.heap.size [] (w.alloc (.cells #[.pointer none, .slice none 0 0] 77)) := Or.inl (Lib.BuilderAtF.of (by
  rcases Lib.fresh_isBuilder 77 5 w with h | h
  · exact h
  · exfalso
    have h0 := h.cell0
    have h1 := (Blk.new w 77 #[.pointer none, .slice none 0 0]).at_ 0 (v := .pointer none) rfl
    rw [h1] at h0
    cases h0))
set_option maxRecDepth 100000 in
set_option maxHeartbeats 4000000 in
theorem put_any (A : Option Addr) (l : List Pc) (c B most f : Nat) (caps : Array Value) (tell : Int → ByteArray) (hn : l.length ≤ 281474976710656) (hm : most ≤ 262144) (w : World) (hL : Lists w B A l) (hB : B ≤ w.heap.size) (hT : ToldBy f caps w tell l)
    (hf : ∀ (args : Array Value) (w : World), (callFunc f args).run Tryd.prog w = .ok (.enter f args) w) :
    Calls Tryd.prog 34 #[.slice A l.length c, .int .i64 most, .func (.func f) #[] caps] w fun e w' => e = .returned (putV (putAll tell most ⟨#[]⟩ l)) ∧ Below w.heap.size w w' := by
  go_enter Tryd.func34, Tryd.ntmps34
  go_wp2_with fail
  go_loopw [14] (fun u wr => ∃ (i : Nat) (acc : ByteArray), u = .int .i64 i ∧ i ≤ l.length ∧ acc.size ≤ most ∧ Lists wr B A l ∧ Lib.IsBuilderF 77 5 w.heap.size w.heap.size (Lib.strCells acc) wr ∧ Below w.heap.size w wr ∧ putAll tell most ⟨#[]⟩ l = putAll tell most acc (l.drop i)) (fun u _ => l.length - (intOf u).toNat)
  case atStart => exact ⟨0, ⟨#[]⟩, rfl, by omega, Nat.zero_le _, hL.alloc hB _, fresh_isBuilderF w, (Below.refl _ _).alloc (Nat.le_refl _) _, by simp⟩
  case round =>
    obtain ⟨i, acc, rfl, hi, hacc, hL, hIs, hb, hp⟩ := hrel
    by_cases h : i < l.length
    · obtain ⟨ad, rfl, b0, c0, c1, c2⟩ := hL.pc h
      have hL1 := hL.alloc (Nat.le_trans hB hb.size) (.cells #[.int .i64 l[i].kind, .string l[i].text, .int .i64 l[i].place] 31)
      have hI1 := hIs.alloc (.cells #[.int .i64 l[i].kind, .string l[i].text, .int .i64 l[i].place] 31)
      have hbb := hb.alloc hb.size (.cells #[.int .i64 l[i].kind, .string l[i].text, .int .i64 l[i].place] 31)
      obtain ⟨hc, hsz⟩ := hT l[i] (List.getElem_mem h)
      have HLen := Tryd.Builder_Len_f w.heap.size w.heap.size (Lib.strCells acc) _ hI1
      rw [Lib.strCells_length] at HLen
      rw [putAll_drop h] at hp
      have n9 := hbb.size
      by_cases k2 : l[i].kind = 2
      · have t1 : (l[i].kind == 2) = true := by simpa using k2
        have HC := hc k2 _ hbb
        have e1 : txt tell l[i] = tell l[i].place := by unfold txt; rw [if_pos k2]
        rw [e1] at hp hsz
        clear hc k2 e1
        by_cases hfit : acc.size + (tell l[i].place).size ≤ most
        · rw [if_pos hfit] at hp
          have HW := Tryd.WriteStringK w.heap.size w.heap.size (Lib.strCells acc) (tell l[i].place) _ hI1 (by rw [Lib.strCells_length]; omega) n9
          rw [cells_push] at HW
          have hfi : (acc.size : Int) + (tell l[i].place).size ≤ most := by omega
          have hcf := hf (#[.int .i64 l[i].place] ++ caps)
          go_wp2_with fail
          refine HC.mono ?_
          rintro e w0 ⟨rfl, rfl⟩
          go_wp2_with (first | (go_at_call 49; refine HLen.mono ?_; rintro e w1 ⟨rfl, rfl⟩) | (go_at_call 50; refine HW.mono ?_; rintro e w2 ⟨rfl, hI2, hb2, hk2⟩))
          go_roundw
          case rel => exact ⟨i + 1, acc ++ tell l[i].place, by go_num, by omega, by rw [ByteArray.size_append]; omega, hL1.below (hb2.mono hB), Or.inr hI2, hbb.trans hb2, hp⟩
          case measure => simp [intOf]; omega
        · rw [if_neg hfit] at hp
          have hfi : ¬ (acc.size : Int) + (tell l[i].place).size ≤ most := by omega
          have hcf := hf (#[.int .i64 l[i].place] ++ caps)
          go_wp2_with fail
          refine HC.mono ?_
          rintro e w0 ⟨rfl, rfl⟩
          go_wp2_with (first | (go_at_call 49; refine HLen.mono ?_; rintro e w1 ⟨rfl, rfl⟩))
          refine bodyPost_ret (v := .tuple #[.string ⟨#[]⟩, .int .i64 3]) ?_ rfl ⟨by rw [hp]; rfl, hbb⟩
          simp [results, Tryd.results34, go_sem]
      · have t1 : (l[i].kind == 2) = false := by simpa using k2
        have e1 : txt tell l[i] = l[i].text := by unfold txt; rw [if_neg k2]
        rw [e1] at hp hsz
        clear hc k2 e1
        by_cases hfit : acc.size + (l[i].text).size ≤ most
        · rw [if_pos hfit] at hp
          have HW := Tryd.WriteStringK w.heap.size w.heap.size (Lib.strCells acc) (l[i].text) _ hI1 (by rw [Lib.strCells_length]; omega) n9
          rw [cells_push] at HW
          have hfi : (acc.size : Int) + (l[i].text).size ≤ most := by omega
          go_wp2_with (first | (go_at_call 49; refine HLen.mono ?_; rintro e w1 ⟨rfl, rfl⟩) | (go_at_call 50; refine HW.mono ?_; rintro e w2 ⟨rfl, hI2, hb2, hk2⟩))
          go_roundw
          case rel => exact ⟨i + 1, acc ++ l[i].text, by go_num, by omega, by rw [ByteArray.size_append]; omega, hL1.below (hb2.mono hB), Or.inr hI2, hbb.trans hb2, hp⟩
          case measure => simp [intOf]; omega
        · rw [if_neg hfit] at hp
          have hfi : ¬ (acc.size : Int) + (l[i].text).size ≤ most := by omega
          go_wp2_with (first | (go_at_call 49; refine HLen.mono ?_; rintro e w1 ⟨rfl, rfl⟩))
          refine bodyPost_ret (v := .tuple #[.string ⟨#[]⟩, .int .i64 3]) ?_ rfl ⟨by rw [hp]; rfl, hbb⟩
          simp [results, Tryd.results34, go_sem]
    · have hi2 : i = l.length := by omega
      subst hi2
      rw [List.drop_length, putAll] at hp
      have HS := Tryd.Builder_String_any_k w.heap.size w.heap.size acc.data.toList _ hIs hb.size
      go_wp2_with (go_at_call 51; refine HS.mono ?_; rintro e w2 ⟨rfl, _, hb2, _⟩)
      refine bodyPost_ret (v := .tuple #[.string acc, .int .i64 0]) ?_ rfl ⟨by rw [hp]; rfl, hb.trans hb2⟩
      simp [results, Tryd.results34, go_sem]
end Go.Proofs.YtbgcngkofbelmaaDoor
