/-
  strings.ContainsAny tells braces in every text: its contract at the text of the two braces. Condition: the text is short enough to be in memory.
  Contract of the reference's Check: it tells the same as the layer's. Condition: the pieces' texts are short enough to be in memory.
  Contract of the reference's Lay: it tells the same as the layer's. Conditions: the texts are short enough to be in memory.
-/
import Derived.Test.YtpcgcghhddnifaaGreatDoorGb
import Derived.Laws.Runes
import Derived.Deep.WholeRow
import Derived.BigQuiet
import Derived.Deep.RegionWith
set_option linter.unusedVariables false
set_option linter.unusedSimpArgs false
namespace Go.Proofs.YtpcgcghhddnifaaGreatDoor
open Go.RowKit
open Ph
theorem anyBrace_yes {s : ByteArray} {i : Nat} (hi : i < s.size) (h : brace s[i]) : anyBrace s = true := by
  unfold anyBrace
  rw [List.any_eq_true]
  refine ⟨s[i], Array.getElem_mem_toList (xs := s.data) hi, ?_⟩
  rcases h with h | h <;> simp [h]
theorem anyBrace_no {s : ByteArray} (h : ∀ m (hm : m < s.size), ¬ brace s[m]) : anyBrace s = false := by
  unfold anyBrace
  rw [List.any_eq_false]
  intro b hb
  obtain ⟨i, hi, rfl⟩ := List.getElem_of_mem hb
  have hi' : i < s.size := by simpa using hi
  have := h i hi'
  intro h2
  refine this ?_
  have e : s[i] = s.data.toList[i] := rfl
  rw [e]
  simpa [brace] using h2
def two : ByteArray := ⟨#[123, 125]⟩
theorem byte_eq (n : Nat) (h : n < 128) (c : Nat) (hc : c < 128) : (n.toUInt8 = c.toUInt8) ↔ n = c := by
  constructor
  · intro e
    have := congrArg UInt8.toNat e
    simp at this
    omega
  · rintro rfl; rfl
theorem twoAt (x : UInt8) : decide (0 ≤ Lib.indexByte (⟨#[123, 125]⟩ : ByteArray).data.toList x) = (x == 123 || x == 125) := by
  rw [← Lib.contains_iff_indexByte]
  rw [Bool.eq_iff_iff]; simp
theorem two0 : Utf8.decode ⟨#[123, 125]⟩ 0 = (123, 1) := by decide
theorem two1 : Utf8.decode ⟨#[123, 125]⟩ 1 = (125, 1) := by decide
theorem two_slice : (⟨#[123, 125]⟩ : ByteArray).extract 2 2 = ⟨#[]⟩ := by decide
set_option maxRecDepth 100000 in
set_option maxHeartbeats 4000000 in
theorem idxRune (r : Int) (h0 : 0 ≤ r) (w : World) : Calls Tryz.prog 218 #[.string ⟨#[123, 125]⟩, .int .i32 r] w fun e w' => ∃ k : Int, e = .returned (.int .i64 k) ∧ (0 ≤ k ↔ r = 123 ∨ r = 125) ∧ Below w.heap.size w w' := by
  by_cases h1 : r < 128
  · obtain ⟨n, rfl⟩ := Int.eq_ofNat_of_zero_le h0
    refine (Tryz.strings_IndexRune_ascii _ n w h0 h1).mono ?_
    rintro e w' ⟨rfl, rfl⟩
    refine ⟨_, rfl, ?_, Below.refl _ _⟩
    have hn : n < 128 := by omega
    have := twoAt n.toUInt8
    rw [show ((n : Int).toNat.toUInt8) = n.toUInt8 from rfl, ← decide_eq_true_iff (p := 0 ≤ _), this]
    have a := byte_eq n hn 123 (by omega)
    have b := byte_eq n hn 125 (by omega)
    rw [Bool.or_eq_true, beq_iff_eq, beq_iff_eq]
    rw [show (123 : UInt8) = (123 : Nat).toUInt8 from rfl, show (125 : UInt8) = (125 : Nat).toUInt8 from rfl, a, b]
    omega
  have t1 : decide (r < 128) = false := by simpa using h1
  have t0 : decide ((0 : Int) ≤ r) = true := by simpa using h0
  have hno : ¬ (r = 123 ∨ r = 125) := by omega
  by_cases h2 : r = 65533
  · subst h2
    go_enter Tryz.func218, Tryz.ntmps218
    go_wp2_with fail
    go_loopw [5] (fun _ wr => ∃ pos : Nat, wr.heap[w.heap.size]? = some (.stringIter ⟨#[123, 125]⟩ pos) ∧ (pos = 0 ∨ pos = 1 ∨ pos = 2) ∧ Below w.heap.size w wr) (fun _ wr => 2 - wr.iterPos w.heap.size)
    case atStart => exact ⟨0, World.iter_heap w ⟨#[123, 125]⟩ 0, Or.inl rfl, (Below.refl _ _).alloc (Nat.le_refl _) _⟩
    case round =>
      obtain ⟨pos, hit, hp, hb⟩ := hrel
      rcases hp with rfl | rfl | rfl
      · have hnx : ∀ ty, (Instr.next (.pointer (some ⟨w.heap.size, 0, none⟩)) true ty).run Tryz.prog wr = _ := fun ty => Lib.run_next_any_at wr w.heap.size ⟨#[123, 125]⟩ 0 ty hit (by decide)
        simp only [two0] at hnx
        have it2 := Lib.iterAt_heap wr w.heap.size ⟨#[123, 125]⟩ 0 1 hit
        have hb2 := Lib.below_iterAt hb (k := w.heap.size) (by omega) ⟨#[123, 125]⟩ 1
        go_wp2_with fail
        go_roundw
        case rel => exact ⟨1, it2, Or.inr (Or.inl rfl), hb2⟩
        case measure => simp [World.iterPos, it2, hit]
      · have hnx : ∀ ty, (Instr.next (.pointer (some ⟨w.heap.size, 0, none⟩)) true ty).run Tryz.prog wr = _ := fun ty => Lib.run_next_any_at wr w.heap.size ⟨#[123, 125]⟩ 1 ty hit (by decide)
        simp only [two1] at hnx
        have it2 := Lib.iterAt_heap wr w.heap.size ⟨#[123, 125]⟩ 1 2 hit
        have hb2 := Lib.below_iterAt hb (k := w.heap.size) (by omega) ⟨#[123, 125]⟩ 2
        go_wp2_with fail
        go_roundw
        case rel => exact ⟨2, it2, Or.inr (Or.inr rfl), hb2⟩
        case measure => simp [World.iterPos, it2, hit]
      · have hnx : ∀ ty, (Instr.next (.pointer (some ⟨w.heap.size, 0, none⟩)) true ty).run Tryz.prog wr = _ := fun ty => Lib.run_next_end_at wr w.heap.size ⟨#[123, 125]⟩ 2 ty hit (by decide)
        go_wp2_with fail
        refine bodyPost_ret (v := .int .i64 (-1)) ?_ rfl ⟨-1, rfl, by omega, hb⟩
        simp [results, Tryz.results218, go_sem]
  have t2 : (r == 65533) = false := by simpa using h2
  have HV := Tryz.utf8_ValidRune r w
  cases hv : Lib.validRune r with
  | false =>
    rw [hv] at HV
    go_enter Tryz.func218, Tryz.ntmps218
    go_wp2_with (go_at_call 262; refine HV.mono ?_; rintro e w1 ⟨rfl, rfl⟩)
    refine bodyPost_ret (v := .int .i64 (-1)) ?_ rfl ⟨-1, rfl, by omega, Below.refl _ _⟩
    simp [results, Tryz.results218, go_sem]
  | true =>
    rw [hv] at HV
    have hval : Utf8.valid r = true := by rw [validRune_eq]; exact hv
    obtain ⟨f2, f4, fl⟩ := encode_facts r hval (by omega)
    have hcv : ∀ w1 : World, (convert 21 9 (.int .i32 r)).run Tryz.prog w1 = .ok (.string (Utf8.encode r)) w1 := fun w1 => run_convert_int_string w1 21 9 .i32 r (by rw [Tryz.underlying21]; rfl) Tryz.underlying9
    generalize Utf8.encode r = E at *
    have hl := fl (by omega)
    go_enter Tryz.func218, Tryz.ntmps218
    go_wp2_with (go_at_call 262; refine HV.mono ?_; rintro e w1 ⟨rfl, rfl⟩)
    go_wp2_with fail
    go_step3
    go_wp2_with fail
    go_loopw [9, 10] (fun u v wr => u = .int .i64 ((E.size : Int) - 1) ∧ v = .int .i64 0 ∧ wr = w1) (fun _ _ _ => 0)
    case atStart => exact ⟨rfl, rfl, rfl⟩
    case round =>
      obtain ⟨rfl, rfl, rfl⟩ := hrel
      by_cases h3 : E.size = 2
      · have h4 : (E.size : Int) - 1 = 1 := by omega
        have h5 : ((((⟨#[123, 125]⟩ : ByteArray)[1]'(by decide)).toNat : Int) != (E[1].toNat : Int)) = true := by
          show ((125 : Int) != (E[1].toNat : Int)) = true
          have : E[E.size - 1] = E[1] := by congr 1; omega
          rw [this] at hl
          simp; omega
        have hw2 : IntKind.i64.wrap 2 = 2 := by decide
        have HI : ∀ w1 : World, Calls Tryz.prog 84 #[.string ByteArray.empty, .int .u8 (E[1].toNat : Int)] w1 fun e w' => e = .returned (.int .i64 (-1)) ∧ w' = w1 := fun w1 => Tryz.strings_IndexByte ByteArray.empty (E[1].toNat : Int) w1
        rw [h4]
        clear f4 fl hl h4
        go_wp2_with fail
        go_step3
        go_wp2_with fail
        go_quiet (fail)
        go_wp2_with fail
        go_region_with (go_at_call 84; refine (HI _).mono ?_; rintro e w1 ⟨rfl, rfl⟩)
        all_goals
          go_wp2_with fail
          simp (config := { zetaDelta := true }) only [Exit.noGoto_ret, Exit.inBlock, Exit.then]
          refine bodyPost_ret (v := .int .i64 (-1)) ?_ rfl ⟨-1, rfl, by omega, ?_⟩
          · simp [results, Tryz.results218, go_sem]
          · repeat' (first | exact Below.refl _ _ | (with_reducible refine blw_drew ?_) | (with_reducible refine blw_drewN ?_ _))
      · have h4 : ¬ ((E.size : Int) - 1 < 2) := by omega
        go_wp2_with fail
        refine bodyPost_ret (v := .int .i64 (-1)) ?_ rfl ⟨-1, rfl, by omega, Below.refl _ _⟩
        simp [results, Tryz.results218, go_sem]
set_option maxRecDepth 100000 in
set_option maxHeartbeats 4000000 in
theorem idxAny_short (s : ByteArray) (h8 : s.size ≤ 8) (w : World) : Calls Tryz.prog 156 #[.string s, .string ⟨#[123, 125]⟩] w fun e w' => ∃ k : Int, e = .returned (.int .i64 k) ∧ decide (0 ≤ k) = anyBrace s ∧ Below w.heap.size w w' := by
  have HS := Tryz.strings_shouldUseASCIISet (s.size : Int)
  have h8z : decide ((8 : Int) < (s.size : Int)) = false := decide_eq_false (by omega)
  rw [h8z] at HS
  go_enter Tryz.func156, Tryz.ntmps156
  go_wp2_with (go_at_call 219; refine (HS _).mono ?_; rintro e w1 ⟨rfl, rfl⟩)
  go_loopw [9] (fun _ wr => ∃ pos : Nat, wr.heap[w1.heap.size]? = some (.stringIter s pos) ∧ pos ≤ s.size ∧ Below w1.heap.size w1 wr ∧ ∀ m (hm : m < s.size), 0 ≤ m → m < pos → ¬ brace s[m]) (fun _ wr => s.size - wr.iterPos w1.heap.size)
  case atStart => exact ⟨0, World.iter_heap w1 s 0, by omega, (Below.refl _ _).alloc (Nat.le_refl _) _, fun m hm h1 h2 => by omega⟩
  case round =>
    obtain ⟨pos, hit, hp, hb, hno⟩ := hrel
    have hsz : w1.heap.size < wr.heap.size := (Array.getElem?_eq_some_iff.1 hit).1
    by_cases hpos : pos < s.size
    · have hnx : ∀ ty, (Instr.next (.pointer (some ⟨w1.heap.size, 0, none⟩)) true ty).run Tryz.prog wr = _ := fun ty => Lib.run_next_any_at wr w1.heap.size s pos ty hit hpos
      have n1 := Ph.w1 s pos
      have n2 := wIn s pos hpos
      have it2 := Lib.iterAt_heap wr w1.heap.size s pos (pos + (Utf8.decode s pos).2) hit
      have hb2 := Lib.below_iterAt hb (k := w1.heap.size) (by omega) s (pos + (Utf8.decode s pos).2)
      have r123 := rune_eq hpos (c := 123) (by omega) (b := 123) rfl
      have r125 := rune_eq hpos (c := 125) (by omega) (b := 125) rfl
      have HI := idxRune ((Utf8.decode s pos).1 : Int) (by omega)
      have hbr : (((Utf8.decode s pos).1 : Int) = 123 ∨ ((Utf8.decode s pos).1 : Int) = 125) ↔ brace s[pos] := by
        have a1 : ((Utf8.decode s pos).1 : Int) = 123 ↔ s[pos] = 123 := by
          rw [← beq_iff_eq (a := ((Utf8.decode s pos).1 : Int)), show (123 : Int) = ((123 : Nat) : Int) from rfl, r123, decide_eq_true_iff]
        have a2 : ((Utf8.decode s pos).1 : Int) = 125 ↔ s[pos] = 125 := by
          rw [← beq_iff_eq (a := ((Utf8.decode s pos).1 : Int)), show (125 : Int) = ((125 : Nat) : Int) from rfl, r125, decide_eq_true_iff]
        rw [a1, a2]; rfl
      have HB := Lib.hid hbr
      have HN := Lib.hid hno
      clear hbr hno r123 r125
      go_wp2_with fail
      refine (HI _).mono ?_
      rintro e w2 ⟨k, rfl, hk, hb3⟩
      have it3 : w2.heap[w1.heap.size]? = some (.stringIter s (pos + (Utf8.decode s pos).2)) := (hb3.block _ (by rw [Lib.iterAt_size]; exact hsz)).trans it2
      have hb4 := hb2.trans (hb3.mono hb2.size)
      by_cases c : 0 ≤ k
      · have HY := Lib.hid (anyBrace_yes hpos (HB.out.1 (hk.1 c)))
        clear hk
        go_wp2_with fail
        refine bodyPost_ret (v := .int .i64 pos) ?_ rfl ⟨pos, rfl, by rw [HY.out]; simp, hb4⟩
        simp [results, Tryz.results156, go_sem]
      · have HZ := Lib.hid (skipA hpos (fun e => c (hk.2 (HB.out.2 e))) HN.out)
        clear hk
        go_wp2_with fail
        go_roundw
        case rel => exact ⟨pos + (Utf8.decode s pos).2, it3, n2, hb4, HZ.out⟩
        case measure =>
          simp only [World.iterPos, it3, hit]
          omega
    · have hnx : ∀ ty, (Instr.next (.pointer (some ⟨w1.heap.size, 0, none⟩)) true ty).run Tryz.prog wr = _ := fun ty => Lib.run_next_end_at wr w1.heap.size s pos ty hit hpos
      have HZ := Lib.hid (anyBrace_no (s := s) fun m hm => hno m hm (by omega) (by omega))
      clear hno
      go_wp2_with fail
      refine bodyPost_ret (v := .int .i64 (-1)) ?_ rfl ⟨-1, rfl, by rw [HZ.out]; rfl, hb⟩
      simp [results, Tryz.results156, go_sem]
def twoCells : Array Value := Lib.setCells [123, 125]
set_option maxRecDepth 100000 in
set_option maxHeartbeats 8000000 in
theorem idxAny_long (s : ByteArray) (h8 : 8 < s.size) (hs : s.size ≤ 281474976710656) (w : World) : Calls Tryz.prog 156 #[.string s, .string ⟨#[123, 125]⟩] w fun e w' => ∃ k : Int, e = .returned (.int .i64 k) ∧ decide (0 ≤ k) = anyBrace s ∧ Below w.heap.size w w' := by
  have hM := Tryz.strings_makeASCIISet (fun w => (zero_of_info (show (Tryz.prog.info? 237).map (fun i => (i.zero, i.size)) = some (some (.agg (Array.replicate 256 (.bool false))), 256) by kernel_rfl)).1 w) ⟨#[123, 125]⟩ w (by decide) (by
    intro j b hb
    match j, hb with
    | 0, hb => simp at hb; subst hb; decide
    | 1, hb => simp at hb; subst hb; decide
    | j + 2, hb => simp at hb)
  rw [show (⟨#[123, 125]⟩ : ByteArray).data.toList = [123, 125] from rfl] at hM
  have hsz := Lib.setCells_size [123, 125]
  have HS := Tryz.strings_shouldUseASCIISet (s.size : Int)
  have h8z : decide ((8 : Int) < (s.size : Int)) = true := decide_eq_true (by omega)
  rw [h8z] at HS
  have hsc : (storeCells ⟨w.heap.size + 1, 0, none⟩ (Lib.setCells [123, 125]).toList 0).run Tryz.prog ((w.alloc (.cells (Lib.setCells [123, 125]) 237)).alloc (.cells Tryz.zeroCells237 237)) = .ok () ((w.alloc (.cells (Lib.setCells [123, 125]) 237)).alloc (.cells (Lib.setCells [123, 125]) 237)) := by
    have := run_storeCells_new (P := Tryz.prog) (w.alloc (.cells (Lib.setCells [123, 125]) 237)) 237 Tryz.zeroCells237 (Lib.setCells [123, 125]) (by rw [hsz]; kernel_rfl) (by rw [hsz]; kernel_rfl) (Lib.setCells_one _)
    simpa using this
  have hcellAt : ∀ x : UInt8, ((w.alloc (.cells (Lib.setCells [123, 125]) 237)).alloc (.cells (Lib.setCells [123, 125]) 237)).cell? ⟨w.heap.size + 1, x.toNat, none⟩ = some (.bool (([123, 125] : List UInt8).contains x)) := fun x => by
    rw [World.cell?_alloc_at _ _ _ _ (by simp), Lib.setCells_at]
  have HC := Lib.hid hcellAt
  clear hcellAt
  go_enter Tryz.func156, Tryz.ntmps156
  go_wp2_with (first
    | (go_at_call 219; refine (HS _).mono ?_; rintro e w1 ⟨rfl, rfl⟩)
    | (go_at_call 176; refine hM.mono ?_; rintro e w2 ⟨rfl, rfl⟩))
  clear hM hsc
  go_loopw [8] (fun u wr => ∃ i : Nat, u = .int .i64 i ∧ i ≤ s.size ∧ wr = ((w1.alloc (.cells (Lib.setCells [123, 125]) 237)).alloc (.cells (Lib.setCells [123, 125]) 237)) ∧ ∀ m (hm : m < s.size), m < i → ¬ brace s[m]) (fun u _ => s.size - (intOf u).toNat)
  case atStart => exact ⟨0, rfl, by omega, rfl, fun m hm h => by omega⟩
  case round =>
    obtain ⟨i, rfl, hi, rfl, hno⟩ := hrel
    have hb := ((Below.refl w1.heap.size w1).alloc (Nat.le_refl _) (.cells (Lib.setCells [123, 125]) 237)).alloc (by simp) (.cells (Lib.setCells [123, 125]) 237)
    have HN := Lib.hid hno
    clear hno
    by_cases hlt : i < s.size
    · have hc := HC.out s[i]
      cases hin : ([123, 125] : List UInt8).contains s[i] with
      | false =>
        rw [hin] at hc
        have HB := Lib.hid (show ∀ m (hm : m < s.size), m < i + 1 → ¬ brace s[m] from fun m hm h => by
          rcases Nat.lt_or_ge m i with g | g
          · exact HN.out m hm g
          · obtain rfl : m = i := by omega
            intro hb2
            rcases hb2 with e | e <;> rw [e] at hin <;> revert hin <;> decide)
        clear hin
        go_wp2_with (go_at_call 220; refine (Tryz.asciiSet_contains _ s[i] _ _ hc).mono ?_; rintro e w2 ⟨rfl, rfl⟩)
        go_roundw
        case rel => exact ⟨i + 1, by go_num, by omega, by trivial, HB.out⟩
        case measure => simp [intOf]; omega
      | true =>
        rw [hin] at hc
        have hbr : brace s[i] := by
          simp at hin
          exact hin
        have HY := Lib.hid (anyBrace_yes hlt hbr)
        clear hin hbr
        go_wp2_with (go_at_call 220; refine (Tryz.asciiSet_contains _ s[i] _ _ hc).mono ?_; rintro e w2 ⟨rfl, rfl⟩)
        refine bodyPost_ret (v := .int .i64 i) ?_ rfl ⟨i, rfl, by rw [HY.out]; simp, hb⟩
        simp [results, Tryz.results156, go_sem]
    · have HZ := Lib.hid (anyBrace_no (s := s) fun m hm => HN.out m hm (by omega))
      go_wp2_with fail
      refine bodyPost_ret (v := .int .i64 (-1)) ?_ rfl ⟨-1, rfl, by rw [HZ.out]; rfl, hb⟩
      simp [results, Tryz.results156, go_sem]
set_option maxRecDepth 100000 in
theorem tells_any {s : ByteArray} (hs : s.size ≤ 281474976710656) : Tells s := fun w => by
  have HI : Calls Tryz.prog 156 #[.string s, .string ⟨#[123, 125]⟩] w fun e w' => ∃ k : Int, e = .returned (.int .i64 k) ∧ decide (0 ≤ k) = anyBrace s ∧ Below w.heap.size w w' := by
    by_cases h : 8 < s.size
    · exact idxAny_long s h hs w
    · exact idxAny_short s (by omega) w
  generalize anyBrace s = b at *
  go_enter Tryz.func115, Tryz.ntmps115
  go_wp2_with fail
  refine HI.mono ?_
  rintro e w1 ⟨k, rfl, hk, hb⟩
  subst hk
  go_wp2_with fail
  refine bodyPost_ret (v := .bool (decide (0 ≤ k))) ?_ rfl ⟨rfl, hb⟩
  simp [results, Tryz.results115, go_sem]
theorem tells_all {l : List Pc} (h : ∀ p ∈ l, p.text.size ≤ 281474976710656) : TellsAll l := fun p hp => ⟨fun _ => tells_any (h p hp), h p hp⟩
end Go.Proofs.YtpcgcghhddnifaaGreatDoor
namespace Go.Proofs.YtpcgcghhddnifaaGreatDoor
open Go.RowKit
open Ph
theorem anyBrace_two (t : ByteArray) : anyBrace t = (t.data.toList.contains 123 || t.data.toList.contains 125) := by
  unfold anyBrace
  induction t.data.toList with
  | nil => rfl
  | cons b l ih =>
    rw [List.any_cons, ih, List.contains_cons, List.contains_cons]
    have e1 : (b == (123 : UInt8)) = ((123 : UInt8) == b) := BEq.comm
    have e2 : (b == (125 : UInt8)) = ((125 : UInt8) == b) := BEq.comm
    rw [e1, e2]
    generalize ((123 : UInt8) == b) = x
    generalize ((125 : UInt8) == b) = y
    generalize l.contains 123 = z
    generalize l.contains 125 = u
    revert x y z u; decide
theorem holdsOne (t : ByteArray) (c : UInt8) (b : Bool) (h : t.data.toList.contains c = b) (w : World) : Calls Tryz.prog 16 #[.string t, .string ⟨#[c]⟩] w fun e w' => e = .returned (.bool b) ∧ w' = w := by
  have := Tryz.strings_Contains_one t c w
  rw [← Lib.contains_iff_indexByte, h] at this
  exact this
def textB (p a : Pc) : Bool := !(p.text.toList.isEmpty) && ((brk p.text 0).isNone && (!(p.text.data.toList.contains 123) && (!(p.text.data.toList.contains 125) && decide (a.kind ≠ 1))))
theorem mayB_text {p a : Pc} (k : p.kind = 1) : mayB p a = textB p a := by
  unfold mayB textB
  rw [if_pos k, anyBrace_two]
  generalize p.text.toList.isEmpty = x
  generalize (brk p.text 0).isNone = y
  generalize p.text.data.toList.contains 123 = z
  generalize p.text.data.toList.contains 125 = u
  generalize decide (a.kind ≠ 1) = v
  revert x y z u v; decide
theorem mayB_place {p a : Pc} (k : p.kind = 2) : mayB p a = (decide (0 ≤ p.place) && decide (p.place < 16)) := by
  unfold mayB
  rw [if_neg (by omega), if_pos k]
theorem mayB_none {p a : Pc} (k1 : p.kind ≠ 1) (k2 : p.kind ≠ 2) : mayB p a = false := by
  unfold mayB
  rw [if_neg k1, if_neg k2]
set_option maxRecDepth 100000 in
set_option maxHeartbeats 8000000 in
theorem refCheck (A : Option Addr) (l : List Pc) (c B : Nat) (ht : ∀ p ∈ l, p.text.size ≤ 281474976710656) (hn : l.length ≤ 281474976710656) (w : World) (hL : Lists w B A l) (hB : B ≤ w.heap.size) :
    Calls Tryz.prog 86 #[.slice A l.length c] w fun e w' => e = .returned (faultV (badAt l)) ∧ Below w.heap.size w w' := by
  go_enter Tryz.func86, Tryz.ntmps86
  go_wp2_with fail
  go_loopw [8] (fun u wr => ∃ i : Nat, u = .int .i64 i ∧ i ≤ l.length ∧ Lists wr B A l ∧ Blk wr w.heap.size 107 #[.int .i64 0, .int .i64 0] ∧ Below w.heap.size w wr ∧ badAt l = firstBad l i (l.length - i)) (fun u _ => l.length - (intOf u).toNat)
  case atStart => exact ⟨0, rfl, by omega, hL.alloc hB _, Blk.new _ _ _, (Below.refl _ _).alloc (Nat.le_refl _) _, rfl⟩
  case round =>
    obtain ⟨i, rfl, hi, hL, hF, hb, hg⟩ := hrel
    have n9 := hb.size
    have n8 := hF.lt
    by_cases hlt : i < l.length
    · have go : okAt l i = mayB l[i] (ahead l i) := by unfold okAt; simp [hlt]
      have e1 : l.length - i = (l.length - (i + 1)) + 1 := by omega
      rw [e1, firstBad, go] at hg
      have hsz := ht _ (List.getElem_mem hlt)
      have ha0 : i = 0 → decide ((ahead l i).kind ≠ 1) = true := by rintro rfl; rfl
      have hpc := hL.pc hlt
      have hak : ∀ (k : Nat) (hk : k < l.length), i = k + 1 → ahead l i = l[k] := fun k hk e => by subst e; exact ahead_succ hk
      generalize hP : l[i] = p at *
      obtain ⟨ad, rfl, b0, c0, c1, c2⟩ := hpc
      have hN := Blk.new wr 100 #[.int .i64 p.kind, .string p.text, .int .i64 p.place]
      have d0 := hN.at_ 0 (v := .int .i64 p.kind) rfl
      have d1 := hN.at_ 1 (v := .string p.text) rfl
      have d2 := hN.at_ 2 (v := .int .i64 p.place) rfl
      have hLN := hL.alloc (Nat.le_trans hB n9) (.cells #[.int .i64 p.kind, .string p.text, .int .i64 p.place] 100)
      have hpp := fun (k : Nat) (hk : k < l.length) => hLN.pc hk
      have hFN := hF.alloc (.cells #[.int .i64 p.kind, .string p.text, .int .i64 p.place] 100)
      have hbN := hb.alloc n9 (.cells #[.int .i64 p.kind, .string p.text, .int .i64 p.place] 100)
      have F0 := hFN.at_ 0 (v := .int .i64 0) rfl
      have F1 := hFN.at_ 1 (v := .int .i64 0) rfl
      have Ff := hFN.frozen
      have G0 := hF.at_ 0 (v := .int .i64 0) rfl
      have G1 := hF.at_ 1 (v := .int .i64 0) rfl
      have Gf := hF.frozen
      clear go e1 hP
      by_cases k1 : p.kind = 1
      · have t1 : (p.kind == 1) = true := by simpa using k1
        rw [mayB_text k1] at hg
        unfold textB at hg
        clear k1
        cases hem : p.text.toList.isEmpty with
        | true =>
          rw [hem] at hg
          simp only [Bool.not_true, Bool.false_and, Bool.false_eq_true, if_false] at hg
          go_wp2_with fail
          have X := ((hF.set_ 0 (.int .i64 2)).set_ 1 (.int .i64 i)).alloc (.cells #[.int .i64 p.kind, .string p.text, .int .i64 p.place] 100)
          have x0 := X.at_ 0 (v := .int .i64 2) rfl
          have x1 := X.at_ 1 (v := .int .i64 i) rfl
          refine bodyPost_ret (v := .agg #[.int .i64 2, .int .i64 i]) ?_ rfl ⟨by first | rfl | (rw [hg]; rfl), by first | exact ((hb.setCell (by simp) _).setCell (by simp) _).alloc (by simp; omega) _ | exact (hbN.setCell (by simp) _).setCell (by simp) _⟩
          simp [results, Tryz.results86, go_sem, x0, x1]
        | false =>
          cases hbk : (brk p.text 0).isNone with
          | false =>
            rw [hem, hbk] at hg
            simp only [Bool.false_and, Bool.and_false, Bool.false_eq_true, if_false] at hg
            go_wp2_with (first | (go_at_call 14; refine (right_any p.text hsz _ hbk _).mono ?_; rintro e w1 ⟨rfl, hw⟩; subst hw) | (go_at_call 16; first | (refine (holdsOne p.text 123 _ hc1 _).mono ?_; rintro e w1 ⟨rfl, rfl⟩) | (refine (holdsOne p.text 125 _ hc2 _).mono ?_; rintro e w1 ⟨rfl, rfl⟩)))
            have X := ((hF.set_ 0 (.int .i64 2)).set_ 1 (.int .i64 i)).alloc (.cells #[.int .i64 p.kind, .string p.text, .int .i64 p.place] 100)
            have x0 := X.at_ 0 (v := .int .i64 2) rfl
            have x1 := X.at_ 1 (v := .int .i64 i) rfl
            refine bodyPost_ret (v := .agg #[.int .i64 2, .int .i64 i]) ?_ rfl ⟨by first | rfl | (rw [hg]; rfl), by first | exact ((hb.setCell (by simp) _).setCell (by simp) _).alloc (by simp; omega) _ | exact (hbN.setCell (by simp) _).setCell (by simp) _⟩
            simp [results, Tryz.results86, go_sem, x0, x1]
          | true =>
            cases hc1 : p.text.data.toList.contains 123 with
            | true =>
              rw [hem, hbk, hc1] at hg
              simp only [Bool.not_true, Bool.false_and, Bool.and_false, Bool.false_eq_true, if_false] at hg
              go_wp2_with (first | (go_at_call 14; refine (right_any p.text hsz _ hbk _).mono ?_; rintro e w1 ⟨rfl, hw⟩; subst hw) | (go_at_call 16; first | (refine (holdsOne p.text 123 _ hc1 _).mono ?_; rintro e w1 ⟨rfl, rfl⟩) | (refine (holdsOne p.text 125 _ hc2 _).mono ?_; rintro e w1 ⟨rfl, rfl⟩)))
              have X := ((hF.set_ 0 (.int .i64 2)).set_ 1 (.int .i64 i)).alloc (.cells #[.int .i64 p.kind, .string p.text, .int .i64 p.place] 100)
              have x0 := X.at_ 0 (v := .int .i64 2) rfl
              have x1 := X.at_ 1 (v := .int .i64 i) rfl
              refine bodyPost_ret (v := .agg #[.int .i64 2, .int .i64 i]) ?_ rfl ⟨by first | rfl | (rw [hg]; rfl), by first | exact ((hb.setCell (by simp) _).setCell (by simp) _).alloc (by simp; omega) _ | exact (hbN.setCell (by simp) _).setCell (by simp) _⟩
              simp [results, Tryz.results86, go_sem, x0, x1]
            | false =>
              cases hc2 : p.text.data.toList.contains 125 with
              | true =>
                rw [hem, hbk, hc1, hc2] at hg
                simp only [Bool.not_true, Bool.false_and, Bool.and_false, Bool.false_eq_true, if_false] at hg
                go_wp2_with (first | (go_at_call 14; refine (right_any p.text hsz _ hbk _).mono ?_; rintro e w1 ⟨rfl, hw⟩; subst hw) | (go_at_call 16; first | (refine (holdsOne p.text 123 _ hc1 _).mono ?_; rintro e w1 ⟨rfl, rfl⟩) | (refine (holdsOne p.text 125 _ hc2 _).mono ?_; rintro e w1 ⟨rfl, rfl⟩)))
                have X := ((hF.set_ 0 (.int .i64 2)).set_ 1 (.int .i64 i)).alloc (.cells #[.int .i64 p.kind, .string p.text, .int .i64 p.place] 100)
                have x0 := X.at_ 0 (v := .int .i64 2) rfl
                have x1 := X.at_ 1 (v := .int .i64 i) rfl
                refine bodyPost_ret (v := .agg #[.int .i64 2, .int .i64 i]) ?_ rfl ⟨by first | rfl | (rw [hg]; rfl), by first | exact ((hb.setCell (by simp) _).setCell (by simp) _).alloc (by simp; omega) _ | exact (hbN.setCell (by simp) _).setCell (by simp) _⟩
                simp [results, Tryz.results86, go_sem, x0, x1]
              | false =>
                by_cases hz : i = 0
                · rw [hem, hbk, hc1, hc2, ha0 hz] at hg
                  simp only [Bool.not_false, Bool.and_true, if_true] at hg
                  have t8 : ((i : Int) == 0) = true := by simp [hz]
                  clear ha0 hak hpp hz
                  go_wp2_with (first | (go_at_call 14; refine (right_any p.text hsz _ hbk _).mono ?_; rintro e w1 ⟨rfl, hw⟩; subst hw) | (go_at_call 16; first | (refine (holdsOne p.text 123 _ hc1 _).mono ?_; rintro e w1 ⟨rfl, rfl⟩) | (refine (holdsOne p.text 125 _ hc2 _).mono ?_; rintro e w1 ⟨rfl, rfl⟩)))
                  go_roundw
                  case rel => exact ⟨i + 1, by go_num, by omega, hLN, hFN, hbN, hg⟩
                  case measure => simp [intOf]; omega
                · obtain ⟨k, hk⟩ : ∃ k, i = k + 1 := ⟨i - 1, by omega⟩
                  have hkl : k < l.length := by omega
                  obtain ⟨ad', q1, q2, q3, _, _⟩ := hpp k hkl
                  cases q1
                  rw [hem, hbk, hc1, hc2, hak k hkl hk] at hg
                  clear ha0 hak hpp hz
                  subst hk
                  have t8 : ((k : Int) + 1 == 0) = false := by simp; omega
                  by_cases hq : l[k].kind = 1
                  · have t9 : (l[k].kind != 1) = false := by simpa using hq
                    simp only [Bool.not_false, Bool.true_and, hq, ne_eq, not_true_eq_false, decide_false, Bool.false_eq_true, if_false] at hg
                    clear hq
                    go_wp2_with (first | (go_at_call 14; refine (right_any p.text hsz _ hbk _).mono ?_; rintro e w1 ⟨rfl, hw⟩; subst hw) | (go_at_call 16; first | (refine (holdsOne p.text 123 _ hc1 _).mono ?_; rintro e w1 ⟨rfl, rfl⟩) | (refine (holdsOne p.text 125 _ hc2 _).mono ?_; rintro e w1 ⟨rfl, rfl⟩)))
                    have X := ((hF.set_ 0 (.int .i64 2)).set_ 1 (.int .i64 ((k : Int) + 1))).alloc (.cells #[.int .i64 p.kind, .string p.text, .int .i64 p.place] 100)
                    have x0 := X.at_ 0 (v := .int .i64 2) rfl
                    have x1 := X.at_ 1 (v := .int .i64 ((k : Int) + 1)) rfl
                    refine bodyPost_ret (v := .agg #[.int .i64 2, .int .i64 ((k : Int) + 1)]) ?_ rfl ⟨by first | rfl | (rw [hg]; rfl), by first | exact ((hb.setCell (by simp) _).setCell (by simp) _).alloc (by simp; omega) _ | exact (hbN.setCell (by simp) _).setCell (by simp) _⟩
                    simp [results, Tryz.results86, go_sem, x0, x1]
                  · have t9 : (l[k].kind != 1) = true := by simpa using hq
                    simp only [Bool.not_false, Bool.true_and, hq, ne_eq, not_false_eq_true, decide_true, if_true] at hg
                    clear hq
                    go_wp2_with (first | (go_at_call 14; refine (right_any p.text hsz _ hbk _).mono ?_; rintro e w1 ⟨rfl, hw⟩; subst hw) | (go_at_call 16; first | (refine (holdsOne p.text 123 _ hc1 _).mono ?_; rintro e w1 ⟨rfl, rfl⟩) | (refine (holdsOne p.text 125 _ hc2 _).mono ?_; rintro e w1 ⟨rfl, rfl⟩)))
                    go_roundw
                    case rel => exact ⟨k + 1 + 1, by go_num, by omega, hLN, hFN, hbN, hg⟩
                    case measure => simp [intOf]; omega
      · have t1 : (p.kind == 1) = false := by simpa using k1
        by_cases k2 : p.kind = 2
        · have t2 : (p.kind == 2) = true := by simpa using k2
          rw [mayB_place k2] at hg
          clear k1 k2
          by_cases g0 : 0 ≤ p.place
          · by_cases g1 : p.place < 16
            · simp only [g0, g1, decide_true, Bool.and_true, if_true] at hg
              go_wp2_with fail
              go_roundw
              case rel => exact ⟨i + 1, by go_num, by omega, hLN, hFN, hbN, hg⟩
              case measure => simp [intOf]; omega
            · simp only [g1, decide_false, Bool.and_false, Bool.false_eq_true, if_false] at hg
              go_wp2_with fail
              have X := ((hF.set_ 0 (.int .i64 2)).set_ 1 (.int .i64 i)).alloc (.cells #[.int .i64 p.kind, .string p.text, .int .i64 p.place] 100)
              have x0 := X.at_ 0 (v := .int .i64 2) rfl
              have x1 := X.at_ 1 (v := .int .i64 i) rfl
              refine bodyPost_ret (v := .agg #[.int .i64 2, .int .i64 i]) ?_ rfl ⟨by first | rfl | (rw [hg]; rfl), by first | exact ((hb.setCell (by simp) _).setCell (by simp) _).alloc (by simp; omega) _ | exact (hbN.setCell (by simp) _).setCell (by simp) _⟩
              simp [results, Tryz.results86, go_sem, x0, x1]
          · simp only [g0, decide_false, Bool.false_and, Bool.false_eq_true, if_false] at hg
            go_wp2_with fail
            have X := ((hF.set_ 0 (.int .i64 2)).set_ 1 (.int .i64 i)).alloc (.cells #[.int .i64 p.kind, .string p.text, .int .i64 p.place] 100)
            have x0 := X.at_ 0 (v := .int .i64 2) rfl
            have x1 := X.at_ 1 (v := .int .i64 i) rfl
            refine bodyPost_ret (v := .agg #[.int .i64 2, .int .i64 i]) ?_ rfl ⟨by first | rfl | (rw [hg]; rfl), by first | exact ((hb.setCell (by simp) _).setCell (by simp) _).alloc (by simp; omega) _ | exact (hbN.setCell (by simp) _).setCell (by simp) _⟩
            simp [results, Tryz.results86, go_sem, x0, x1]
        · have t2 : (p.kind == 2) = false := by simpa using k2
          rw [mayB_none k1 k2] at hg
          simp only [Bool.false_eq_true, if_false] at hg
          clear k1 k2
          go_wp2_with fail
          have X := ((hF.set_ 0 (.int .i64 2)).set_ 1 (.int .i64 i)).alloc (.cells #[.int .i64 p.kind, .string p.text, .int .i64 p.place] 100)
          have x0 := X.at_ 0 (v := .int .i64 2) rfl
          have x1 := X.at_ 1 (v := .int .i64 i) rfl
          refine bodyPost_ret (v := .agg #[.int .i64 2, .int .i64 i]) ?_ rfl ⟨by first | rfl | (rw [hg]; rfl), by first | exact ((hb.setCell (by simp) _).setCell (by simp) _).alloc (by simp; omega) _ | exact (hbN.setCell (by simp) _).setCell (by simp) _⟩
          simp [results, Tryz.results86, go_sem, x0, x1]
    · have hi2 : l.length - i = 0 := by omega
      rw [hi2, firstBad] at hg
      have F0 := hF.at_ 0 (v := .int .i64 0) rfl
      have F1 := hF.at_ 1 (v := .int .i64 0) rfl
      have Ff := hF.frozen
      go_wp2_with fail
      refine bodyPost_ret (v := .agg #[.int .i64 0, .int .i64 0]) ?_ rfl ⟨by rw [hg]; rfl, (hb.setCell (by simp) _).setCell (by simp) _⟩
      simp [results, Tryz.results86, go_sem, F0, F1]
end Go.Proofs.YtpcgcghhddnifaaGreatDoor
namespace Go.Proofs.YtpcgcghhddnifaaGreatDoor
open Go.RowKit
open Ph
set_option maxRecDepth 100000 in
set_option maxHeartbeats 8000000 in
theorem refLay (A : Option Addr) (l : List Pc) (c B : Nat) (AA : Option Addr) (xs : List ByteArray) (cc : Nat) (ht : ∀ p ∈ l, p.text.size ≤ 281474976710656) (hn : l.length ≤ 281474976710656) (hxl : xs.length ≤ 281474976710656) (hxs : ∀ x ∈ xs, x.size ≤ 281474976710656)
    (w : World) (hL : Lists w B A l) (hX : Texts w B AA xs) (hB : B ≤ w.heap.size) :
    Calls Tryz.prog 60 #[.slice A l.length c, .slice AA xs.length cc] w fun e w' => e = .returned (layR xs l) ∧ Below w.heap.size w w' := by
  have HC := refCheck A l c B ht hn w hL hB
  cases hbad : badAt l with
  | some k =>
    have hR : layR xs l = .tuple #[.string ⟨#[]⟩, .int .i64 2] := by simp [layR, layP, hbad]
    rw [hbad] at HC
    rw [hR]
    simp only [faultV] at HC
    go_enter Tryz.func60, Tryz.ntmps60
    go_wp2_with (go_at_call 86; refine HC.mono ?_; rintro e w1 ⟨rfl, hb2⟩)
    go_quiet (fail)
    go_wp2_with fail
    refine bodyPost_ret (v := .tuple #[.string ⟨#[]⟩, .int .i64 2]) ?_ rfl ⟨rfl, blw_drewN (hb2.alloc hb2.size _) _⟩
    simp [results, Tryz.results60, go_sem]
  | none =>
    rw [hbad] at HC
    simp only [faultV] at HC
    go_enter Tryz.func60, Tryz.ntmps60
    go_wp2_with (go_at_call 86; refine HC.mono ?_; rintro e w1 ⟨rfl, hb2⟩)
    have hb3 := hb2.alloc hb2.size (.cells #[.int .i64 0, .int .i64 0] 107)
    have hL3 := hL.below (hb3.mono hB)
    have hX3 := hX.below (hb3.mono hB)
    clear hb2
    generalize w1.alloc (.cells #[.int .i64 0, .int .i64 0] 107) = w2 at *
    clear HC hL hX
    go_loopw [23] (fun u wr => ∃ i : Nat, u = .int .i64 i ∧ i ≤ l.length ∧ Lists wr B A l ∧ Texts wr B AA xs ∧ Below w.heap.size w wr ∧ (l.take i).any (big xs.length) = false) (fun u _ => l.length - (intOf u).toNat)
    case atStart => exact ⟨0, rfl, by omega, hL3, hX3, hb3, rfl⟩
    case round =>
      clear hL3 hX3 hb3
      obtain ⟨i, rfl, hi, hL, hX, hb, hno⟩ := hrel
      by_cases hlt : i < l.length
      · obtain ⟨ad, rfl, b0, c0, c1, c2⟩ := hL.pc hlt
        have hLN := hL.alloc (Nat.le_trans hB hb.size) (.cells #[.int .i64 l[i].kind, .string l[i].text, .int .i64 l[i].place] 100)
        have hXN := hX.alloc (Nat.le_trans hB hb.size) (.cells #[.int .i64 l[i].kind, .string l[i].text, .int .i64 l[i].place] 100)
        have hbN := hb.alloc hb.size (.cells #[.int .i64 l[i].kind, .string l[i].text, .int .i64 l[i].place] 100)
        have hst := any_take (m := xs.length) hlt
        rw [hno, Bool.false_or] at hst
        by_cases k2 : l[i].kind = 2
        · have t2 : (l[i].kind == 2) = true := by simpa using k2
          by_cases g : (xs.length : Int) ≤ l[i].place
          · have hbg : big xs.length l[i] = true := by unfold big; simp [k2, g]
            have hany : l.any (big xs.length) = true := any_hit hlt hbg
            have hR : layR xs l = .tuple #[.string ⟨#[]⟩, .int .i64 2] := by simp only [layR, layP, hbad, hany]
            clear k2 hst
            go_wp2_with fail
            refine bodyPost_ret (v := .tuple #[.string ⟨#[]⟩, .int .i64 2]) ?_ rfl ⟨by rw [hR], hbN⟩
            simp [results, Tryz.results60, go_sem]
          · have hbg : big xs.length l[i] = false := by unfold big; simp [k2]; omega
            rw [hbg] at hst
            clear k2 hbg
            go_wp2_with fail
            go_roundw
            case rel => exact ⟨i + 1, by go_num, by omega, hLN, hXN, hbN, hst⟩
            case measure => simp [intOf]; omega
        · have t2 : (l[i].kind == 2) = false := by simpa using k2
          have hbg : big xs.length l[i] = false := by unfold big; simp [k2]
          rw [hbg] at hst
          clear k2 hbg
          go_wp2_with fail
          go_roundw
          case rel => exact ⟨i + 1, by go_num, by omega, hLN, hXN, hbN, hst⟩
          case measure => simp [intOf]; omega
      · obtain rfl : i = l.length := by omega
        rw [List.take_length] at hno
        rename World => wo
        go_wp2_with fail
        go_loopw [7, 10, 40] (fun u v z wr => ∃ (i : Nat) (acc : ByteArray), u = .int .i64 acc.size ∧ v = .string acc ∧ z = .int .i64 i ∧ i ≤ l.length ∧ acc.size ≤ 262144 ∧ Lists wr B A l ∧ Texts wr B AA xs ∧ Below w.heap.size w wr ∧ putAll (argOf xs) 262144 ⟨#[]⟩ l = putAll (argOf xs) 262144 acc (l.drop i)) (fun _ _ z _ => l.length - (intOf z).toNat)
        case atStart => exact ⟨0, ⟨#[]⟩, rfl, rfl, rfl, by omega, by decide, hL, hX, hb, by simp⟩
        case round =>
          clear hL hX hb
          obtain ⟨i, acc, rfl, rfl, rfl, hi, hacc, hL, hX, hb, hp⟩ := hrel
          by_cases h : i < l.length
          · obtain ⟨ad, rfl, b0, c0, c1, c2⟩ := hL.pc h
            have hLN := hL.alloc (Nat.le_trans hB hb.size) (.cells #[.int .i64 l[i].kind, .string l[i].text, .int .i64 l[i].place] 100)
            have hXN := hX.alloc (Nat.le_trans hB hb.size) (.cells #[.int .i64 l[i].kind, .string l[i].text, .int .i64 l[i].place] 100)
            have hbN := hb.alloc hb.size (.cells #[.int .i64 l[i].kind, .string l[i].text, .int .i64 l[i].place] 100)
            rw [putAll_drop h] at hp
            by_cases k2 : l[i].kind = 2
            · have t1 : (l[i].kind == 2) = true := by simpa using k2
              have e1 : txt (argOf xs) l[i] = argOf xs l[i].place := by unfold txt; rw [if_pos k2]
              obtain ⟨g0, _⟩ := bad_none_place hbad (List.getElem_mem h) k2
              have g1 := any_big_place hno (List.getElem_mem h) k2
              obtain ⟨n, hq⟩ : ∃ n : Nat, l[i].place = n := ⟨l[i].place.toNat, by omega⟩
              have hnx : n < xs.length := by omega
              have e2 : argOf xs l[i].place = xs[n] := by rw [hq]; unfold argOf; simp [hnx]
              rw [e1, e2] at hp
              have hxz := hxs _ (List.getElem_mem hnx)
              obtain ⟨ae, rfl, x0, cx⟩ := hXN (by omega)
              have d0 := cx n hnx
              rw [hq] at c2 hLN hXN hbN d0
              have hlz : (n : Int) < (xs.length : Int) := by omega
              clear k2 e1 e2 cx
              by_cases hfit : acc.size + (xs[n]).size ≤ 262144
              · rw [if_pos hfit] at hp
                have hfi : ¬ (262144 : Int) < (acc.size : Int) + (xs[n]).size := by omega
                go_wp2_with fail
                go_roundw
                case rel => exact ⟨i + 1, acc ++ xs[n], by rw [ByteArray.size_append]; go_num, rfl, by go_num, by omega, by rw [ByteArray.size_append]; omega, hLN, hXN, hbN, hp⟩
                case measure => simp [intOf]; omega
              · rw [if_neg hfit] at hp
                have hfi : (262144 : Int) < (acc.size : Int) + (xs[n]).size := by omega
                have hR : layR xs l = .tuple #[.string ⟨#[]⟩, .int .i64 3] := by simp only [layR, layP, hbad, hno, hp]
                go_wp2_with fail
                refine bodyPost_ret (v := .tuple #[.string ⟨#[]⟩, .int .i64 3]) ?_ rfl ⟨by rw [hR], hbN⟩
                simp [results, Tryz.results60, go_sem]
            · have t1 : (l[i].kind == 2) = false := by simpa using k2
              have e1 : txt (argOf xs) l[i] = l[i].text := by unfold txt; rw [if_neg k2]
              have hsz := ht _ (List.getElem_mem h)
              rw [e1] at hp
              clear k2 e1
              by_cases hfit : acc.size + (l[i].text).size ≤ 262144
              · rw [if_pos hfit] at hp
                have hfi : ¬ (262144 : Int) < (acc.size : Int) + (l[i].text).size := by omega
                go_wp2_with fail
                go_roundw
                case rel => exact ⟨i + 1, acc ++ l[i].text, by rw [ByteArray.size_append]; go_num, rfl, by go_num, by omega, by rw [ByteArray.size_append]; omega, hLN, hXN, hbN, hp⟩
                case measure => simp [intOf]; omega
              · rw [if_neg hfit] at hp
                have hfi : (262144 : Int) < (acc.size : Int) + (l[i].text).size := by omega
                have hR : layR xs l = .tuple #[.string ⟨#[]⟩, .int .i64 3] := by simp only [layR, layP, hbad, hno, hp]
                go_wp2_with fail
                refine bodyPost_ret (v := .tuple #[.string ⟨#[]⟩, .int .i64 3]) ?_ rfl ⟨by rw [hR], hbN⟩
                simp [results, Tryz.results60, go_sem]
          · obtain rfl : i = l.length := by omega
            rw [List.drop_length, putAll] at hp
            have hR : layR xs l = .tuple #[.string acc, .int .i64 0] := by simp only [layR, layP, hbad, hno, hp]
            go_wp2_with fail
            refine bodyPost_ret (v := .tuple #[.string acc, .int .i64 0]) ?_ rfl ⟨by rw [hR], hb⟩
            simp [results, Tryz.results60, go_sem]
end Go.Proofs.YtpcgcghhddnifaaGreatDoor
