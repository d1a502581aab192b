/-
  strings.ContainsAny tells braces in every text: its contract at the text of the two braces. Condition: the text is short enough to be in memory.
-/
import Derived.Test.YtbgcngkofbelmaaDoorM
import Derived.Laws.Runes
import Derived.Deep.WholeRow
import Derived.BigQuiet
import Derived.Deep.RegionWith
namespace Go.Proofs.YtbgcngkofbelmaaDoor
open Go.RowKit
open Ph
theorem anyBrace_yes {s : ByteArray} {i : Nat} (hi : i < s.size) (h : brace s[i]) : anyBrace s = true := by
  unfold anyBrace
  rw [List.any_eq_true]
  refine ⟨s[i], Array.getElem_mem_toList (xs := s.data) hi, ?_⟩
  rcases h with h | h <;> simp [h]
theorem anyBrace_no {s : ByteArray} (h : ∀ m (hm : m < s.size), ¬ brace s[m]) : anyBrace s = false := by
  unfold anyBrace
  rw [List.any_eq_false]
  intro b hb
  obtain ⟨i, hi, rfl⟩ := List.getElem_of_mem hb
  have hi' : i < s.size := by simpa using hi
  have := h i hi'
  intro h2
  refine this ?_
  have e : s[i] = s.data.toList[i] := rfl
  rw [e]
  simpa [brace] using h2
def two : ByteArray := ⟨#[123, 125]⟩
theorem byte_eq (n : Nat) (h : n < 128) (c : Nat) (hc : c < 128) : (n.toUInt8 = c.toUInt8) ↔ n = c := by
  constructor
  · intro e
    have := congrArg UInt8.toNat e
    simp at this
    omega
  · rintro rfl; rfl
theorem twoAt (x : UInt8) : decide (0 ≤ Lib.indexByte (⟨#[123, 125]⟩ : ByteArray).data.toList x) = (x == 123 || x == 125) := by
  rw [← Lib.contains_iff_indexByte]
  rw [Bool.eq_iff_iff]; simp
theorem two0 : Utf8.decode ⟨#[123, 125]⟩ 0 = (123, 1) := by decide
theorem two1 : Utf8.decode ⟨#[123, 125]⟩ 1 = (125, 1) := by decide
theorem two_slice : (⟨#[123, 125]⟩ : ByteArray).extract 2 2 = ⟨#[]⟩ := by decide
set_option maxRecDepth 100000 in
set_option maxHeartbeats 4000000 in
theorem idxRune (r : Int) (h0 : 0 ≤ r) (w : World) : Calls Tryd.prog 90 #[.string ⟨#[123, 125]⟩, .int .i32 r] w fun e w' => ∃ k : Int, e = .returned (.int .i64 k) ∧ (0 ≤ k ↔ r = 123 ∨ r = 125) ∧ Below w.heap.size w w' := by
  by_cases h1 : r < 128
  · obtain ⟨n, rfl⟩ := Int.eq_ofNat_of_zero_le h0
    refine (Tryd.strings_IndexRune_ascii _ n w h0 h1).mono ?_
    rintro e w' ⟨rfl, rfl⟩
    refine ⟨_, rfl, ?_, Below.refl _ _⟩
    have hn : n < 128 := by omega
    have := twoAt n.toUInt8
    rw [show ((n : Int).toNat.toUInt8) = n.toUInt8 from rfl, ← decide_eq_true_iff (p := 0 ≤ _), this]
    have a := byte_eq n hn 123 (by omega)
    have b := byte_eq n hn 125 (by omega)
    rw [Bool.or_eq_true, beq_iff_eq, beq_iff_eq]
    rw [show (123 : UInt8) = (123 : Nat).toUInt8 from rfl, show (125 : UInt8) = (125 : Nat).toUInt8 from rfl, a, b]
    omega
  have t1 : decide (r < 128) = false := by simpa using h1
  have t0 : decide ((0 : Int) ≤ r) = true := by simpa using h0
  have hno : ¬ (r = 123 ∨ r = 125) := by omega
  by_cases h2 : r = 65533
  · subst h2
    go_enter Tryd.func90, Tryd.ntmps90
    go_wp2_with fail
    go_loopw [5] (fun _ wr => ∃ pos : Nat, wr.heap[w.heap.size]? = some (.stringIter ⟨#[123, 125]⟩ pos) ∧ (pos = 0 ∨ pos = 1 ∨ pos = 2) ∧ Below w.heap.size w wr) (fun _ wr => 2 - wr.iterPos w.heap.size)
    case atStart => exact ⟨0, World.iter_heap w ⟨#[123, 125]⟩ 0, Or.inl rfl, (Below.refl _ _).alloc (Nat.le_refl _) _⟩
    case round =>
      obtain ⟨pos, hit, hp, hb⟩ := hrel
      rcases hp with rfl | rfl | rfl
      · have hnx : ∀ ty, (Instr.next (.pointer (some ⟨w.heap.size, 0, none⟩)) true ty).run Tryd.prog wr = _ := fun ty => Lib.run_next_any_at wr w.heap.size ⟨#[123, 125]⟩ 0 ty hit (by decide)
        simp only [two0] at hnx
        have it2 := Lib.iterAt_heap wr w.heap.size ⟨#[123, 125]⟩ 0 1 hit
        have hb2 := Lib.below_iterAt hb (k := w.heap.size) (by omega) ⟨#[123, 125]⟩ 1
        go_wp2_with fail
        go_roundw
        case rel => exact ⟨1, it2, Or.inr (Or.inl rfl), hb2⟩
        case measure => simp [World.iterPos, it2, hit]
      · have hnx : ∀ ty, (Instr.next (.pointer (some ⟨w.heap.size, 0, none⟩)) true ty).run Tryd.prog wr = _ := fun ty => Lib.run_next_any_at wr w.heap.size ⟨#[123, 125]⟩ 1 ty hit (by decide)
        simp only [two1] at hnx
        have it2 := Lib.iterAt_heap wr w.heap.size ⟨#[123, 125]⟩ 1 2 hit
        have hb2 := Lib.below_iterAt hb (k := w.heap.size) (by omega) ⟨#[123, 125]⟩ 2
        go_wp2_with fail
        go_roundw
        case rel => exact ⟨2, it2, Or.inr (Or.inr rfl), hb2⟩
        case measure => simp [World.iterPos, it2, hit]
      · have hnx : ∀ ty, (Instr.next (.pointer (some ⟨w.heap.size, 0, none⟩)) true ty).run Tryd.prog wr = _ := fun ty => Lib.run_next_end_at wr w.heap.size ⟨#[123, 125]⟩ 2 ty hit (by decide)
        go_wp2_with fail
        refine bodyPost_ret (v := .int .i64 (-1)) ?_ rfl ⟨-1, rfl, by omega, hb⟩
        simp [results, Tryd.results90, go_sem]
  have t2 : (r == 65533) = false := by simpa using h2
  have HV := Tryd.utf8_ValidRune r w
  cases hv : Lib.validRune r with
  | false =>
    rw [hv] at HV
    go_enter Tryd.func90, Tryd.ntmps90
    go_wp2_with (go_at_call 105; refine HV.mono ?_; rintro e w1 ⟨rfl, rfl⟩)
    refine bodyPost_ret (v := .int .i64 (-1)) ?_ rfl ⟨-1, rfl, by omega, Below.refl _ _⟩
    simp [results, Tryd.results90, go_sem]
  | true =>
    rw [hv] at HV
    have hval : Utf8.valid r = true := by rw [validRune_eq]; exact hv
    obtain ⟨f2, f4, fl⟩ := encode_facts r hval (by omega)
    have hcv : ∀ w1 : World, (convert 21 9 (.int .i32 r)).run Tryd.prog w1 = .ok (.string (Utf8.encode r)) w1 := fun w1 => run_convert_int_string w1 21 9 .i32 r (by rw [Tryd.underlying21]; rfl) Tryd.underlying9
    generalize Utf8.encode r = E at *
    have hl := fl (by omega)
    go_enter Tryd.func90, Tryd.ntmps90
    go_wp2_with (go_at_call 105; refine HV.mono ?_; rintro e w1 ⟨rfl, rfl⟩)
    go_wp2_with fail
    go_step3
    go_wp2_with fail
    go_loopw [9, 10] (fun u v wr => u = .int .i64 ((E.size : Int) - 1) ∧ v = .int .i64 0 ∧ wr = w1) (fun _ _ _ => 0)
    case atStart => exact ⟨rfl, rfl, rfl⟩
    case round =>
      obtain ⟨rfl, rfl, rfl⟩ := hrel
      by_cases h3 : E.size = 2
      · have h4 : (E.size : Int) - 1 = 1 := by omega
        have h5 : ((((⟨#[123, 125]⟩ : ByteArray)[1]'(by decide)).toNat : Int) != (E[1].toNat : Int)) = true := by
          show ((125 : Int) != (E[1].toNat : Int)) = true
          have : E[E.size - 1] = E[1] := by congr 1; omega
          rw [this] at hl
          simp; omega
        have hw2 : IntKind.i64.wrap 2 = 2 := by decide
        have HI : ∀ w1 : World, Calls Tryd.prog 28 #[.string ByteArray.empty, .int .u8 (E[1].toNat : Int)] w1 fun e w' => e = .returned (.int .i64 (-1)) ∧ w' = w1 := fun w1 => Tryd.strings_IndexByte ByteArray.empty (E[1].toNat : Int) w1
        rw [h4]
        clear f4 fl hl h4
        go_wp2_with fail
        go_step3
        go_wp2_with fail
        go_quiet (fail)
        go_wp2_with fail
        go_region_with (go_at_call 28; refine (HI _).mono ?_; rintro e w1 ⟨rfl, rfl⟩)
        all_goals
          go_wp2_with fail
          simp (config := { zetaDelta := true }) only [Exit.noGoto_ret, Exit.inBlock, Exit.then]
          refine bodyPost_ret (v := .int .i64 (-1)) ?_ rfl ⟨-1, rfl, by omega, ?_⟩
          · simp [results, Tryd.results90, go_sem]
          · repeat' (first | exact Below.refl _ _ | (with_reducible refine blw_drew ?_) | (with_reducible refine blw_drewN ?_ _))
      · have h4 : ¬ ((E.size : Int) - 1 < 2) := by omega
        go_wp2_with fail
        refine bodyPost_ret (v := .int .i64 (-1)) ?_ rfl ⟨-1, rfl, by omega, Below.refl _ _⟩
        simp [results, Tryd.results90, go_sem]
set_option maxRecDepth 100000 in
set_option maxHeartbeats 4000000 in
theorem idxAny_short (s : ByteArray) (h8 : s.size ≤ 8) (w : World) : Calls Tryd.prog 72 #[.string s, .string ⟨#[123, 125]⟩] w fun e w' => ∃ k : Int, e = .returned (.int .i64 k) ∧ decide (0 ≤ k) = anyBrace s ∧ Below w.heap.size w w' := by
  have HS := Tryd.strings_shouldUseASCIISet (s.size : Int)
  have h8z : decide ((8 : Int) < (s.size : Int)) = false := decide_eq_false (by omega)
  rw [h8z] at HS
  go_enter Tryd.func72, Tryd.ntmps72
  go_wp2_with (go_at_call 91; refine (HS _).mono ?_; rintro e w1 ⟨rfl, rfl⟩)
  go_loopw [9] (fun _ wr => ∃ pos : Nat, wr.heap[w1.heap.size]? = some (.stringIter s pos) ∧ pos ≤ s.size ∧ Below w1.heap.size w1 wr ∧ ∀ m (hm : m < s.size), 0 ≤ m → m < pos → ¬ brace s[m]) (fun _ wr => s.size - wr.iterPos w1.heap.size)
  case atStart => exact ⟨0, World.iter_heap w1 s 0, by omega, (Below.refl _ _).alloc (Nat.le_refl _) _, fun m hm h1 h2 => by omega⟩
  case round =>
    obtain ⟨pos, hit, hp, hb, hno⟩ := hrel
    have hsz : w1.heap.size < wr.heap.size := (Array.getElem?_eq_some_iff.1 hit).1
    by_cases hpos : pos < s.size
    · have hnx : ∀ ty, (Instr.next (.pointer (some ⟨w1.heap.size, 0, none⟩)) true ty).run Tryd.prog wr = _ := fun ty => Lib.run_next_any_at wr w1.heap.size s pos ty hit hpos
      have n1 := Ph.w1 s pos
      have n2 := wIn s pos hpos
      have it2 := Lib.iterAt_heap wr w1.heap.size s pos (pos + (Utf8.decode s pos).2) hit
      have hb2 := Lib.below_iterAt hb (k := w1.heap.size) (by omega) s (pos + (Utf8.decode s pos).2)
      have r123 := rune_eq hpos (c := 123) (by omega) (b := 123) rfl
      have r125 := rune_eq hpos (c := 125) (by omega) (b := 125) rfl
      have HI := idxRune ((Utf8.decode s pos).1 : Int) (by omega)
      have hbr : (((Utf8.decode s pos).1 : Int) = 123 ∨ ((Utf8.decode s pos).1 : Int) = 125) ↔ brace s[pos] := by
        have a1 : ((Utf8.decode s pos).1 : Int) = 123 ↔ s[pos] = 123 := by
          rw [← beq_iff_eq (a := ((Utf8.decode s pos).1 : Int)), show (123 : Int) = ((123 : Nat) : Int) from rfl, r123, decide_eq_true_iff]
        have a2 : ((Utf8.decode s pos).1 : Int) = 125 ↔ s[pos] = 125 := by
          rw [← beq_iff_eq (a := ((Utf8.decode s pos).1 : Int)), show (125 : Int) = ((125 : Nat) : Int) from rfl, r125, decide_eq_true_iff]
        rw [a1, a2]; rfl
      have HB := Lib.hid hbr
      have HN := Lib.hid hno
      clear hbr hno r123 r125
      go_wp2_with fail
      refine (HI _).mono ?_
      rintro e w2 ⟨k, rfl, hk, hb3⟩
      have it3 : w2.heap[w1.heap.size]? = some (.stringIter s (pos + (Utf8.decode s pos).2)) := (hb3.block _ (by rw [Lib.iterAt_size]; exact hsz)).trans it2
      have hb4 := hb2.trans (hb3.mono hb2.size)
      by_cases c : 0 ≤ k
      · have HY := Lib.hid (anyBrace_yes hpos (HB.out.1 (hk.1 c)))
        clear hk
        go_wp2_with fail
        refine bodyPost_ret (v := .int .i64 pos) ?_ rfl ⟨pos, rfl, by rw [HY.out]; simp, hb4⟩
        simp [results, Tryd.results72, go_sem]
      · have HZ := Lib.hid (skipA hpos (fun e => c (hk.2 (HB.out.2 e))) HN.out)
        clear hk
        go_wp2_with fail
        go_roundw
        case rel => exact ⟨pos + (Utf8.decode s pos).2, it3, n2, hb4, HZ.out⟩
        case measure =>
          simp only [World.iterPos, it3, hit]
          omega
    · have hnx : ∀ ty, (Instr.next (.pointer (some ⟨w1.heap.size, 0, none⟩)) true ty).run Tryd.prog wr = _ := fun ty => Lib.run_next_end_at wr w1.heap.size s pos ty hit hpos
      have HZ := Lib.hid (anyBrace_no (s := s) fun m hm => hno m hm (by omega) (by omega))
      clear hno
      go_wp2_with fail
      refine bodyPost_ret (v := .int .i64 (-1)) ?_ rfl ⟨-1, rfl, by rw [HZ.out]; rfl, hb⟩
      simp [results, Tryd.results72, go_sem]
def twoCells : Array Value := Lib.setCells [123, 125]
set_option maxRecDepth 100000 in
set_option maxHeartbeats 8000000 in
theorem idxAny_long (s : ByteArray) (h8 : 8 < s.size) (hs : s.size ≤ 281474976710656) (w : World) : Calls Tryd.prog 72 #[.string s, .string ⟨#[123, 125]⟩] w fun e w' => ∃ k : Int, e = .returned (.int .i64 k) ∧ decide (0 ≤ k) = anyBrace s ∧ Below w.heap.size w w' := by
  have hM := Tryd.strings_makeASCIISet (fun w => (zero_of_info (show (Tryd.prog.info? 118).map (fun i => (i.zero, i.size)) = some (some (.agg (Array.replicate 256 (.bool false))), 256) by kernel_rfl)).1 w) ⟨#[123, 125]⟩ w (by decide) (by
    intro j b hb
    match j, hb with
    | 0, hb => simp at hb; subst hb; decide
    | 1, hb => simp at hb; subst hb; decide
    | j + 2, hb => simp at hb)
  rw [show (⟨#[123, 125]⟩ : ByteArray).data.toList = [123, 125] from rfl] at hM
  have hsz := Lib.setCells_size [123, 125]
  have HS := Tryd.strings_shouldUseASCIISet (s.size : Int)
  have h8z : decide ((8 : Int) < (s.size : Int)) = true := decide_eq_true (by omega)
  rw [h8z] at HS
  have hsc : (storeCells ⟨w.heap.size + 1, 0, none⟩ (Lib.setCells [123, 125]).toList 0).run Tryd.prog ((w.alloc (.cells (Lib.setCells [123, 125]) 118)).alloc (.cells Tryd.zeroCells118 118)) = .ok () ((w.alloc (.cells (Lib.setCells [123, 125]) 118)).alloc (.cells (Lib.setCells [123, 125]) 118)) := by
    have := run_storeCells_new (P := Tryd.prog) (w.alloc (.cells (Lib.setCells [123, 125]) 118)) 118 Tryd.zeroCells118 (Lib.setCells [123, 125]) (by rw [hsz]; kernel_rfl) (by rw [hsz]; kernel_rfl) (Lib.setCells_one _)
    simpa using this
  have hcellAt : ∀ x : UInt8, ((w.alloc (.cells (Lib.setCells [123, 125]) 118)).alloc (.cells (Lib.setCells [123, 125]) 118)).cell? ⟨w.heap.size + 1, x.toNat, none⟩ = some (.bool (([123, 125] : List UInt8).contains x)) := fun x => by
    rw [World.cell?_alloc_at _ _ _ _ (by simp), Lib.setCells_at]
  have HC := Lib.hid hcellAt
  clear hcellAt
  go_enter Tryd.func72, Tryd.ntmps72
  go_wp2_with (first
    | (go_at_call 91; refine (HS _).mono ?_; rintro e w1 ⟨rfl, rfl⟩)
    | (go_at_call 92; refine hM.mono ?_; rintro e w2 ⟨rfl, rfl⟩))
  clear hM hsc
  go_loopw [8] (fun u wr => ∃ i : Nat, u = .int .i64 i ∧ i ≤ s.size ∧ wr = ((w1.alloc (.cells (Lib.setCells [123, 125]) 118)).alloc (.cells (Lib.setCells [123, 125]) 118)) ∧ ∀ m (hm : m < s.size), m < i → ¬ brace s[m]) (fun u _ => s.size - (intOf u).toNat)
  case atStart => exact ⟨0, rfl, by omega, rfl, fun m hm h => by omega⟩
  case round =>
    obtain ⟨i, rfl, hi, rfl, hno⟩ := hrel
    have hb := ((Below.refl w1.heap.size w1).alloc (Nat.le_refl _) (.cells (Lib.setCells [123, 125]) 118)).alloc (by simp) (.cells (Lib.setCells [123, 125]) 118)
    have HN := Lib.hid hno
    clear hno
    by_cases hlt : i < s.size
    · have hc := HC.out s[i]
      cases hin : ([123, 125] : List UInt8).contains s[i] with
      | false =>
        rw [hin] at hc
        have HB := Lib.hid (show ∀ m (hm : m < s.size), m < i + 1 → ¬ brace s[m] from fun m hm h => by
          rcases Nat.lt_or_ge m i with g | g
          · exact HN.out m hm g
          · obtain rfl : m = i := by omega
            intro hb2
            rcases hb2 with e | e <;> rw [e] at hin <;> revert hin <;> decide)
        clear hin
        go_wp2_with (go_at_call 93; refine (Tryd.asciiSet_contains _ s[i] _ _ hc).mono ?_; rintro e w2 ⟨rfl, rfl⟩)
        go_roundw
        case rel => exact ⟨i + 1, by go_num, by omega, by trivial, HB.out⟩
        case measure => simp [intOf]; omega
      | true =>
        rw [hin] at hc
        have hbr : brace s[i] := by
          simp at hin
          exact hin
        have HY := Lib.hid (anyBrace_yes hlt hbr)
        clear hin hbr
        go_wp2_with (go_at_call 93; refine (Tryd.asciiSet_contains _ s[i] _ _ hc).mono ?_; rintro e w2 ⟨rfl, rfl⟩)
        refine bodyPost_ret (v := .int .i64 i) ?_ rfl ⟨i, rfl, by rw [HY.out]; simp, hb⟩
        simp [results, Tryd.results72, go_sem]
    · have HZ := Lib.hid (anyBrace_no (s := s) fun m hm => HN.out m hm (by omega))
      go_wp2_with fail
      refine bodyPost_ret (v := .int .i64 (-1)) ?_ rfl ⟨-1, rfl, by rw [HZ.out]; rfl, hb⟩
      simp [results, Tryd.results72, go_sem]
set_option maxRecDepth 100000 in
theorem tells_any {s : ByteArray} (hs : s.size ≤ 281474976710656) : Tells s := fun w => by
  have HI : Calls Tryd.prog 72 #[.string s, .string ⟨#[123, 125]⟩] w fun e w' => ∃ k : Int, e = .returned (.int .i64 k) ∧ decide (0 ≤ k) = anyBrace s ∧ Below w.heap.size w w' := by
    by_cases h : 8 < s.size
    · exact idxAny_long s h hs w
    · exact idxAny_short s (by omega) w
  generalize anyBrace s = b at *
  go_enter Tryd.func53, Tryd.ntmps53
  go_wp2_with fail
  refine HI.mono ?_
  rintro e w1 ⟨k, rfl, hk, hb⟩
  subst hk
  go_wp2_with fail
  refine bodyPost_ret (v := .bool (decide (0 ≤ k))) ?_ rfl ⟨rfl, hb⟩
  simp [results, Tryd.results53, go_sem]
theorem tells_all {l : List Pc} (h : ∀ p ∈ l, p.text.size ≤ 281474976710656) : TellsAll l := fun p hp => ⟨fun _ => tells_any (h p hp), h p hp⟩
end Go.Proofs.YtbgcngkofbelmaaDoor
