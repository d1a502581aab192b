/-
  phrase.Fill, the reference's Lay of a phrase: they tell the same, fillT. Conditions: what the listed variables hold; sizes.
  Words for two texts in a new block, for addresses. No condition.
  The law's part: the part of a list's style, by hand: it tells the same as the layer's. Conditions: the slice reads as what is said; sizes.
  slices.ContainsFunc with utf.Check over texts. Condition: the slice reads as these texts; sizes.
  slices.Backward over texts: its closure hands each text with its place, the last one first; for every loop body that keeps what lay below. Condition: the slice reads as these texts.
  Plain: what a phrase's pieces make together. No condition.
  Plain: a list put together from its end, round by round. No condition.
  Plain: a phrase of two places holds both of its arguments; a list holds all of its things. No condition.
-/
import Derived.Test.YtpcgcghhddnifaaGreatDoorGe
import Derived.Test.YtpcgcghhddnifaaGreatDoorGc
import Derived.Test.YtpcgcghhddnifaaGreatDoorGb
import Derived.Test.YtpcgcghhddnifaaGreatDoorGa
import Derived.RangeFuncNested
import Derived.RangeFuncBound
import Derived.RangeFuncCalls
import Derived.RangeFuncLeaves
import Derived.RangeFuncBox
import Derived.Shelf.Abstract
import Derived.Shelf.RegionOpen
import Derived.WalkKit
import Derived.OwnWalkIn
import Derived.TacticsInMore
import Derived.LoopNIn
import Derived.LoopIn
import Derived.Lib.IndexMore
set_option linter.unusedVariables false
set_option linter.unusedSimpArgs false
namespace Go.Proofs.YtpcgcghhddnifaaGreatDoor
open Go.RowKit
open Ph
open Classical in
/-- a phrase with these arguments, or why not -/
noncomputable def fillT (s : ByteArray) (xs : List ByteArray) : ByteArray × Int := if h : ∃ l, Fine s l then layP xs h.choose else if h : ∃ a b, Wrong s a b then (⟨#[]⟩, h.choose) else (⟨#[]⟩, 0)
theorem fillT_fine {s : ByteArray} {l : List Pc} (h : Fine s l) (xs : List ByteArray) : fillT s xs = layP xs l := by
  have he : ∃ l, Fine s l := ⟨l, h⟩
  unfold fillT
  rw [dif_pos he, he.choose_spec.uniq h]
theorem fillT_wrong {s : ByteArray} {a b : Int} (h : Wrong s a b) (xs : List ByteArray) : fillT s xs = (⟨#[]⟩, a) := by
  have hn : ¬ ∃ l, Fine s l := by rintro ⟨l, hl⟩; exact hl.right _ _ h
  have he : ∃ a b, Wrong s a b := ⟨a, b, h⟩
  obtain ⟨b', hb'⟩ := he.choose_spec
  unfold fillT
  rw [dif_neg hn, dif_pos he, (hb'.uniq h).1]
def getT (xs : List ByteArray) (i : Nat) : ByteArray := xs.getD i ⟨#[]⟩
theorem getT_get {xs : List ByteArray} {i : Nat} (h : i < xs.length) : getT xs i = xs[i] := by simp [getT, h]
theorem fill_any (s : ByteArray) (AA : Option Addr) (xs : List ByteArray) (cc B : Nat) (hs : s.size ≤ 281474976710656) (hxl : xs.length ≤ 281474976710656) (hxs : ∀ x ∈ xs, x.size ≤ 281474976710656)
    (w : World) (hg : GlobP w) (hX : Texts w B AA xs) (hB : B ≤ w.heap.size) :
    Calls Tryz.prog 17 #[.string s, .slice AA xs.length cc] w fun e w' => e = .returned (.tuple #[.string (fillT s xs).1, .int .i64 (fillT s xs).2]) ∧ Below w.heap.size w w' := by
  rcases outcome s with ⟨l, h⟩ | ⟨a, b, h⟩
  · rw [fillT_fine h]
    exact fill_fine AA xs cc B hs h (tells_all (h.sizes hs)) hxl hxs w hg hX hB
  · rw [fillT_wrong h]
    exact fill_wrong hs h _ w hg
set_option maxRecDepth 100000 in
set_option maxHeartbeats 4000000 in
theorem rlay_fine {s : ByteArray} {l : List Pc} (AA : Option Addr) (xs : List ByteArray) (cc B : Nat) (hs : s.size ≤ 281474976710656) (hf : Fine s l) (hxl : xs.length ≤ 281474976710656) (hxs : ∀ x ∈ xs, x.size ≤ 281474976710656)
    (w : World) (hX : Texts w B AA xs) (hB : B ≤ w.heap.size) :
    Calls Tryz.prog 37 #[.string s, .slice AA xs.length cc] w fun e w' => e = .returned (layR xs l) ∧ Below w.heap.size w w' := by
  have HP := FineP.calls (ref_fine hs hf w)
  have hln := hf.len
  have ht := hf.sizes hs
  clear hf
  go_enter Tryz.func37, Tryz.ntmps37
  go_wp2_with (go_at_call 58; refine HP.mono ?_; rintro e w1 ⟨A, c, rfl, ho, hL, hb⟩)
  have hb2 := hb.alloc hb.size (.cells #[.int .i64 0, .int .i64 0] 72)
  have hL2 := hL.alloc (Nat.le_refl _) (.cells #[.int .i64 0, .int .i64 0] 72)
  have HL := refLay A l c w1.heap.size AA xs cc ht (by omega) hxl hxs _ hL2 (Texts.more ((hX.below (hb2.mono hB))) (Nat.le_trans hB hb.size)) (by simp)
  unfold layR at HL
  clear hL ho hX hxs ht
  go_wp2_with (go_at_call 60; refine HL.mono ?_; rintro e w3 ⟨rfl, hb7⟩)
  refine bodyPost_ret (v := .tuple #[.string (layP xs l).1, .int .i64 (layP xs l).2]) ?_ rfl ⟨rfl, hb2.trans (hb7.mono hb2.size)⟩
  simp [results, Tryz.results37, go_sem]
set_option maxRecDepth 100000 in
set_option maxHeartbeats 4000000 in
theorem rlay_wrong {s : ByteArray} {a b : Int} (hs : s.size ≤ 281474976710656) (hf : Wrong s a b) (v : Value) (w : World) :
    Calls Tryz.prog 37 #[.string s, v] w fun e w' => e = .returned (.tuple #[.string ⟨#[]⟩, .int .i64 a]) ∧ Below w.heap.size w w' := by
  have HP := WrongP.calls (ref_wrong hs hf w)
  have hz := hf.nz
  have t1 : (a != 0) = true := by simpa using hz
  clear hf
  go_enter Tryz.func37, Tryz.ntmps37
  go_wp2_with (go_at_call 58; refine HP.mono ?_; rintro e w' ⟨rfl, hb⟩)
  go_quiet (fail)
  go_wp2_with fail
  refine bodyPost_ret (v := .tuple #[.string ⟨#[]⟩, .int .i64 a]) ?_ rfl ⟨rfl, blw_drewN (hb.alloc hb.size _) _⟩
  simp [results, Tryz.results37, go_sem]
theorem rlay_any (s : ByteArray) (AA : Option Addr) (xs : List ByteArray) (cc B : Nat) (hs : s.size ≤ 281474976710656) (hxl : xs.length ≤ 281474976710656) (hxs : ∀ x ∈ xs, x.size ≤ 281474976710656)
    (w : World) (hX : Texts w B AA xs) (hB : B ≤ w.heap.size) :
    Calls Tryz.prog 37 #[.string s, .slice AA xs.length cc] w fun e w' => e = .returned (.tuple #[.string (fillT s xs).1, .int .i64 (fillT s xs).2]) ∧ Below w.heap.size w w' := by
  rcases outcome s with ⟨l, h⟩ | ⟨a, b, h⟩
  · rw [fillT_fine h]
    exact rlay_fine AA xs cc B hs h hxl hxs w hX hB
  · rw [fillT_wrong h]
    exact rlay_wrong hs h _ w
/-- what comes is no longer than a file -/
theorem putAll_le {tell : Int → ByteArray} {most : Nat} : ∀ (l : List Pc) (acc b : ByteArray), acc.size ≤ most → putAll tell most acc l = some b → b.size ≤ most
  | [], acc, b, h, e => by rw [putAll] at e; cases e; exact h
  | p :: l, acc, b, h, e => by
    rw [putAll] at e
    split at e
    · rename_i hc
      exact putAll_le l _ b (by rw [ByteArray.size_append]; exact hc) e
    · cases e
theorem fillT_le (s : ByteArray) (xs : List ByteArray) : (fillT s xs).1.size ≤ 262144 := by
  rcases outcome s with ⟨l, h⟩ | ⟨a, b, h⟩
  · rw [fillT_fine h]
    unfold layP
    split
    · exact Nat.zero_le _
    · split
      · exact Nat.zero_le _
      · split
        · rename_i b hb
          exact putAll_le l _ b (Nat.zero_le _) hb
        · exact Nat.zero_le _
  · rw [fillT_wrong h]; exact Nat.zero_le _
/-- what so many steps from the end have put together -/
noncomputable def accT (ed mid : ByteArray) (xs : List ByteArray) : Nat → ByteArray × Int
  | 0 => fillT ed [getT xs (xs.length - 2), getT xs (xs.length - 1)]
  | k + 1 => if (accT ed mid xs k).2 = 0 then fillT mid [getT xs (xs.length - 3 - k), (accT ed mid xs k).1] else accT ed mid xs k
theorem accT_le (ed mid : ByteArray) (xs : List ByteArray) : ∀ k, (accT ed mid xs k).1.size ≤ 262144
  | 0 => fillT_le _ _
  | k + 1 => by
    rw [accT]
    split
    · exact fillT_le _ _
    · exact accT_le ed mid xs k
theorem accT_stop {ed mid : ByteArray} {xs : List ByteArray} {j : Nat} (h : (accT ed mid xs j).2 ≠ 0) : ∀ k, j ≤ k → accT ed mid xs k = accT ed mid xs j := by
  intro k
  induction k with
  | zero =>
    intro hk
    obtain rfl : j = 0 := by omega
    rfl
  | succ k ih =>
    intro hk
    rcases Nat.lt_or_ge k j with g | g
    · obtain rfl : j = k + 1 := by omega
      rfl
    · rw [accT, ih g, if_neg h]
/-- a list of things: the document's answer -/
noncomputable def listP (two st mid ed : ByteArray) (xs : List ByteArray) : ByteArray × Int :=
  if xs.length = 0 then (⟨#[]⟩, 0)
  else if xs.length = 1 then (if 262144 < (getT xs 0).size then (⟨#[]⟩, 3) else (getT xs 0, 0))
  else if xs.length = 2 then fillT two [getT xs 0, getT xs 1]
  else if (accT ed mid xs (xs.length - 3)).2 = 0 then fillT st [getT xs 0, (accT ed mid xs (xs.length - 3)).1] else (⟨#[]⟩, (accT ed mid xs (xs.length - 3)).2)
end Go.Proofs.YtpcgcghhddnifaaGreatDoor
namespace Go.Proofs.YtpcgcghhddnifaaGreatDoor
open Go.RowKit
open Ph
theorem texts2 (w : World) (x y : ByteArray) : Texts (w.alloc (.cells #[.string x, .string y] 9)) (w.heap.size + 1) (some ⟨w.heap.size, 0, none⟩) [x, y] := fun _ => ⟨⟨w.heap.size, 0, none⟩, rfl, Nat.lt_succ_self _, fun j hj => by
  have hc := (Blk.new w 9 #[.string x, .string y]).cell j
  have he : (⟨w.heap.size, 0, none⟩ : Addr).add j = ⟨w.heap.size, j, none⟩ := by
    unfold Addr.add; split
    · rename_i h; rw [h]
    · simp
  rw [he, hc]
  match j, hj with
  | 0, _ => rfl
  | 1, _ => rfl⟩
theorem texts2' (w : World) (x y : ByteArray) (g : Nat) (hg : g = w.heap.size) : Texts (w.alloc (.cells #[.string x, .string y] 9)).drew (g + 1) (some ⟨g, 0, none⟩) [x, y] := by
  subst hg
  exact (texts2 w x y).below (blw_drew (Below.refl _ _))
theorem add_zero (a : Addr) : a.add 0 = a := by simp [Addr.add]
theorem add_one (a : Addr) : a.add 1 = ⟨a.block, a.off + 1, none⟩ := by simp [Addr.add]
theorem Texts.drew {w : World} {B : Nat} {A : Option Addr} {l : List ByteArray} (h : Texts w B A l) : Texts w.drew B A l := h.below (blw_drew (Below.refl _ _))
theorem Texts.take {w : World} {B : Nat} {A : Option Addr} {xs : List ByteArray} (h : Texts w B A xs) (n : Nat) : Texts w B A (xs.take n) := fun hn => by
  obtain ⟨ad, e, hb, hc⟩ := h (by have := List.length_take_le n xs; rw [List.length_take] at hn; omega)
  refine ⟨ad, e, hb, fun j hj => ?_⟩
  rw [List.length_take] at hj
  rw [hc j (by omega), List.getElem_take]
theorem i64wrap {x : Int} {n : Nat} (h : x = n) (hn : n ≤ 1000000000000) : IntKind.i64.wrap x = (n : Int) := by subst h; rw [IntKind.wrap_i64]; omega
end Go.Proofs.YtpcgcghhddnifaaGreatDoor
namespace Go.Proofs.YtpcgcghhddnifaaGreatDoor
open Go.RowKit
open Ph
theorem refOnce_any (s : ByteArray) (hs : s.size ≤ 281474976710656) (w : World) : Calls Tryz.prog 35 #[.string s, .int .i64 2] w fun e w' => e = .returned (.bool (onceT s 2)) ∧ Below w.heap.size w w' := by
  rcases outcome s with ⟨l, h⟩ | ⟨a, b, h⟩
  · rw [onceT_fine h]
    exact refOnce_fine hs h w
  · rw [onceT_wrong h]
    exact refOnce_wrong hs h 2 w
set_option maxRecDepth 100000 in
theorem idxp0 (a : ByteArray) (W : World) : (Instr.index 77 (.agg #[.string a, .string ⟨#[115, 116, 97, 110, 100, 97, 114, 100]⟩]) (.int .i64 0)).run Tryz.prog W = .ok (.string a) W := by
  first | kernel_rfl | rfl | simp [go_sem]
set_option maxRecDepth 100000 in
theorem idxp1 (a : ByteArray) (W : World) : (Instr.index 77 (.agg #[.string a, .string ⟨#[115, 116, 97, 110, 100, 97, 114, 100]⟩]) (.int .i64 1)).run Tryz.prog W = .ok (.string ⟨#[115, 116, 97, 110, 100, 97, 114, 100]⟩) W := by
  first | kernel_rfl | rfl | simp [go_sem]
theorem askT_none {L : List Sd} {loc path : ByteArray} {n : Int} {o : ByteArray} (h : valueOf L loc path = none) : askT L loc path n o = o := by unfold askT; rw [h]
theorem askT_yes {L : List Sd} {loc path t : ByteArray} {n : Int} {o : ByteArray} (h : valueOf L loc path = some t) (ho : onceT t n = true) : askT L loc path n o = t := by unfold askT; rw [h]; simp [ho]
theorem askT_no {L : List Sd} {loc path t : ByteArray} {n : Int} {o : ByteArray} (h : valueOf L loc path = some t) (ho : onceT t n = false) : askT L loc path n o = o := by unfold askT; rw [h]; simp [ho]
set_option maxRecDepth 100000 in
set_option maxHeartbeats 4000000 in
theorem lpart_any (A : Option Addr) (L : List Sd) (c B : Nat) (loc st nm : ByteArray) (h1 : st.size ≤ 4096) (h2 : nm.size ≤ 4096) (hn : L.length ≤ 281474976710656) (hx : ∀ x ∈ L, x.text.size ≤ 281474976710656) (w : World) (hL : Saids w B A L) (hB : B ≤ w.heap.size) :
    Calls Tryz.prog 12 #[.agg #[.slice A L.length c], .string loc, .string st, .string nm] w fun e w' => e = .returned (.string (partT L loc st nm)) ∧ Below w.heap.size w w' := by
  obtain ⟨R, hR⟩ : ∃ R, partT L loc st nm = R := ⟨_, rfl⟩
  rw [hR]
  have HI0 := idxp0 st
  have HI1 := idxp1 st
  have HV := fun path (w : World) (hL) (hB) => Value_any A L c B loc path hn w hL hB
  go_enter Tryz.func12, Tryz.ntmps12
  have HO := fun t ht (w : World) => refOnce_any t ht w
  have hK0 := Blk.new w 28 #[.slice A L.length c]
  have hb0 := (Below.refl w.heap.size w).alloc (Nat.le_refl _) (.cells #[.slice A L.length c] 28)
  have hS0 := hL.below (((Below.refl B w).alloc hB (.cells #[.slice A L.length c] 28)))
  go_wp2_with fail
  generalize w.alloc (.cells #[.slice A L.length c] 28) = w9 at *
  go_loopw [15] (fun u wr => ∃ i : Nat, u = .int .i64 i ∧ ((i = 0 ∧ partT L loc st nm = R) ∨ (i = 1 ∧ otherT L loc nm = R) ∨ (i = 2 ∧ plainT = R)) ∧ Blk wr w.heap.size 28 #[.slice A L.length c] ∧ Saids wr B A L ∧ Below w.heap.size w wr) (fun u _ => 3 - (intOf u).toNat)
  case atStart => exact ⟨0, rfl, .inl ⟨rfl, hR⟩, hK0, hS0, hb0⟩
  case round =>
    clear hK0 hS0 hb0
    obtain ⟨i, rfl, hI, hK, hS, hb⟩ := hrel
    have cK := hK.at_ 0 (v := .slice A L.length c) rfl
    rcases hI with ⟨rfl, hP⟩ | ⟨rfl, hP⟩ | ⟨rfl, hP⟩
    · have HV1 := HV (pathT st nm) wr hS (Nat.le_trans hB hb.size)
      unfold partT at hP
      cases hv : valueOf L loc (pathT st nm) with
      | none =>
        rw [askT_none hv] at hP
        rw [hv] at HV1
        unfold valR pathT s1 s2 s3 at HV1
        have HP := Lib.hid hP
        clear hv hP HV HO
        go_wp2_with (go_at_call 34; refine HV1.mono ?_; rintro e w1 ⟨rfl, hb1⟩)
        go_roundw
        case rel => exact ⟨1, by go_num, .inr (.inl ⟨rfl, HP.out⟩), hK.below hb1 hK.lt, hS.below (hb1.mono (Nat.le_trans hB hb.size)), hb.trans (hb1.mono hb.size)⟩
        case measure => simp [intOf]
      | some t =>
        obtain ⟨y, hm, rfl⟩ := valueOf_mem hv
        have HO1 := HO y.text (hx y hm)
        rw [hv] at HV1
        cases ho : onceT y.text 2 with
        | true =>
          rw [askT_yes hv ho] at hP
          subst hP
          rw [ho] at HO1
          unfold valR pathT s1 s2 s3 at HV1
          clear hv ho HV HO
          go_wp2_with (go_at_call 34; refine HV1.mono ?_; rintro e w1 ⟨rfl, hb1⟩)
          have HO2 := HO1 w1
          clear HO1
          go_wp2_with (go_at_call 35; refine HO2.mono ?_; rintro e w2 ⟨rfl, hb2⟩)
          have B1 := hb.trans (hb1.mono hb.size)
          refine bodyPost_ret (v := .string y.text) ?_ rfl ⟨rfl, B1.trans (hb2.mono B1.size)⟩
          simp [results, Tryz.results12, go_sem]
        | false =>
          rw [askT_no hv ho] at hP
          rw [ho] at HO1
          unfold valR pathT s1 s2 s3 at HV1
          have HP := Lib.hid hP
          clear hv hP ho HV HO
          go_wp2_with (go_at_call 34; refine HV1.mono ?_; rintro e w1 ⟨rfl, hb1⟩)
          have HO2 := HO1 w1
          clear HO1
          go_wp2_with (go_at_call 35; refine HO2.mono ?_; rintro e w2 ⟨rfl, hb2⟩)
          have B1 := hb.trans (hb1.mono hb.size)
          have B2 := B1.trans (hb2.mono B1.size)
          have hb3 := hb1.trans (hb2.mono hb1.size)
          go_roundw
          case rel => exact ⟨1, by go_num, .inr (.inl ⟨rfl, HP.out⟩), hK.below hb3 hK.lt, hS.below (hb3.mono (Nat.le_trans hB hb.size)), B2⟩
          case measure => simp [intOf]
    · have HV1 := HV (pathT stdT nm) wr hS (Nat.le_trans hB hb.size)
      unfold otherT at hP
      cases hv : valueOf L loc (pathT stdT nm) with
      | none =>
        rw [askT_none hv] at hP
        rw [hv] at HV1
        unfold valR pathT s1 s2 s3 stdT at HV1
        have HP := Lib.hid hP
        clear hv hP HV HO
        go_wp2_with (go_at_call 34; refine HV1.mono ?_; rintro e w1 ⟨rfl, hb1⟩)
        go_roundw
        case rel => exact ⟨2, by go_num, .inr (.inr ⟨rfl, HP.out⟩), hK.below hb1 hK.lt, hS.below (hb1.mono (Nat.le_trans hB hb.size)), hb.trans (hb1.mono hb.size)⟩
        case measure => simp [intOf]
      | some t =>
        obtain ⟨y, hm, rfl⟩ := valueOf_mem hv
        have HO1 := HO y.text (hx y hm)
        rw [hv] at HV1
        cases ho : onceT y.text 2 with
        | true =>
          rw [askT_yes hv ho] at hP
          subst hP
          rw [ho] at HO1
          unfold valR pathT s1 s2 s3 stdT at HV1
          clear hv ho HV HO
          go_wp2_with (go_at_call 34; refine HV1.mono ?_; rintro e w1 ⟨rfl, hb1⟩)
          have HO2 := HO1 w1
          clear HO1
          go_wp2_with (go_at_call 35; refine HO2.mono ?_; rintro e w2 ⟨rfl, hb2⟩)
          have B1 := hb.trans (hb1.mono hb.size)
          refine bodyPost_ret (v := .string y.text) ?_ rfl ⟨rfl, B1.trans (hb2.mono B1.size)⟩
          simp [results, Tryz.results12, go_sem]
        | false =>
          rw [askT_no hv ho] at hP
          rw [ho] at HO1
          unfold valR pathT s1 s2 s3 stdT at HV1
          have HP := Lib.hid hP
          clear hv hP ho HV HO
          go_wp2_with (go_at_call 34; refine HV1.mono ?_; rintro e w1 ⟨rfl, hb1⟩)
          have HO2 := HO1 w1
          clear HO1
          go_wp2_with (go_at_call 35; refine HO2.mono ?_; rintro e w2 ⟨rfl, hb2⟩)
          have B1 := hb.trans (hb1.mono hb.size)
          have B2 := B1.trans (hb2.mono B1.size)
          have hb3 := hb1.trans (hb2.mono hb1.size)
          go_roundw
          case rel => exact ⟨2, by go_num, .inr (.inr ⟨rfl, HP.out⟩), hK.below hb3 hK.lt, hS.below (hb3.mono (Nat.le_trans hB hb.size)), B2⟩
          case measure => simp [intOf]
    · subst hP
      go_wp2_with fail
      refine bodyPost_ret (v := .string plainT) ?_ rfl ⟨rfl, hb⟩
      simp [results, Tryz.results12, go_sem, plainT]
end Go.Proofs.YtpcgcghhddnifaaGreatDoor
namespace Go.Proofs.YtpcgcghhddnifaaGreatDoor
open Go.RowKit
open Ph
/-- is a text no right UTF-8? -/
def wrongU (x : ByteArray) : Bool := !(brk x 0).isNone
theorem fieldSpot (a b : Int) (w : World) : (Instr.field 72 (.agg #[.int .i64 a, .int .i64 b]) 0).run Tryz.prog w = .ok (.int .i64 a) w := by kernel_rfl
set_option maxRecDepth 100000 in
set_option maxHeartbeats 4000000 in
theorem clo_check (x : ByteArray) (hx : x.size ≤ 281474976710656) (w : World) : Calls Tryz.prog 29 #[.string x] w fun e w' => e = .returned (.bool (wrongU x)) ∧ Below w.heap.size w w' := by
  have HC := utfCheck x (by omega) w
  have HF := fieldSpot
  unfold wrongU
  cases hb : brk x 0 with
  | none =>
    rw [hb] at HC
    unfold spotV at HC
    go_enter Tryz.func29, Tryz.ntmps29
    go_wp2_with (go_at_call 30; refine HC.mono ?_; rintro e w1 ⟨rfl, hb1⟩)
    refine bodyPost_ret (v := .bool false) ?_ rfl ⟨rfl, hb1⟩
    simp [results, Tryz.results29, go_sem]
  | some k =>
    rw [hb] at HC
    unfold spotV at HC
    go_enter Tryz.func29, Tryz.ntmps29
    go_wp2_with (go_at_call 30; refine HC.mono ?_; rintro e w1 ⟨rfl, hb1⟩)
    refine bodyPost_ret (v := .bool true) ?_ rfl ⟨rfl, hb1⟩
    simp [results, Tryz.results29, go_sem]
theorem wr_take {l : List ByteArray} {i : Nat} (h : i < l.length) : (l.take (i + 1)).any wrongU = ((l.take i).any wrongU || wrongU l[i]) := by
  rw [List.take_succ_eq_append_getElem h, List.any_append]; simp
theorem wr_hit {l : List ByteArray} {i : Nat} (h : i < l.length) (hb : wrongU l[i] = true) : l.any wrongU = true := List.any_eq_true.2 ⟨_, List.getElem_mem h, hb⟩
def IdxT (l : List ByteArray) (w : World) (e : Ending) (w' : World) : Prop := ∃ k : Int, e = .returned (.int .i64 k) ∧ decide (0 ≤ k) = l.any wrongU ∧ Below w.heap.size w w'
theorem entersCk (args : Array Value) (w : World) : (callFunc 29 args).run Tryz.prog w = .ok (.enter 29 args) w := by
  simp [callFunc, Tryz.func29, Tryz.f29]
set_option maxRecDepth 100000 in
set_option maxHeartbeats 4000000 in
theorem index_check (A : Option Addr) (l : List ByteArray) (c B : Nat) (hn : l.length ≤ 281474976710656) (hx : ∀ x ∈ l, x.size ≤ 281474976710656) (w : World) (hL : Texts w B A l) (hB : B ≤ w.heap.size) :
    Calls Tryz.prog 50 #[.slice A l.length c, .func (.func 29) #[] #[]] w (IdxT l w) := by
  go_enter Tryz.func50, Tryz.ntmps50
  go_wp2_with fail
  go_loopw [8] (fun u wr => ∃ i : Nat, u = .int .i64 i ∧ i ≤ l.length ∧ Texts wr B A l ∧ Below w.heap.size w wr ∧ (l.take i).any wrongU = false) (fun u _ => l.length - (intOf u).toNat)
  case atStart => exact ⟨0, rfl, by omega, hL, Below.refl _ _, by simp⟩
  case round =>
    obtain ⟨i, rfl, hi, hL, hb, hno⟩ := hrel
    by_cases h : i < l.length
    · obtain ⟨ad, rfl, b0, cx⟩ := hL (by omega)
      have c0 := cx i h
      clear cx
      have hc := clo_check l[i] (hx _ (List.getElem_mem h)) wr
      have hat := wr_take h
      cases hbg : wrongU l[i] with
      | true =>
        rw [hbg] at hc
        have hit := wr_hit h hbg
        clear hbg hat hno
        go_wp2_with fail
        refine hc.mono ?_
        rintro e w1 ⟨rfl, hb1⟩
        go_wp2_with fail
        refine bodyPost_ret (v := .int .i64 i) ?_ rfl ⟨i, rfl, by rw [hit]; simp, hb.trans (hb1.mono hb.size)⟩
        simp [results, Tryz.results50, go_sem]
      | false =>
        rw [hbg] at hc
        rw [hno, hbg, Bool.or_self] at hat
        clear hbg hno
        have hg9 := hb.size
        go_wp2_with fail
        refine hc.mono ?_
        rintro e w1 ⟨rfl, hb1⟩
        go_wp2_with fail
        go_roundw
        case rel => exact ⟨i + 1, by go_num, by omega, hL.below (hb1.mono (by omega)), hb.trans (hb1.mono hb.size), hat⟩
        case measure => simp [intOf]; omega
    · have hi2 : i = l.length := by omega
      subst hi2
      rw [List.take_length] at hno
      go_wp2_with fail
      refine bodyPost_ret (v := .int .i64 (-1)) ?_ rfl ⟨-1, rfl, by rw [hno]; rfl, hb⟩
      simp [results, Tryz.results50, go_sem]
set_option maxRecDepth 100000 in
set_option maxHeartbeats 4000000 in
theorem contains_check (A : Option Addr) (l : List ByteArray) (c B : Nat) (hn : l.length ≤ 281474976710656) (hx : ∀ x ∈ l, x.size ≤ 281474976710656) (w : World) (hL : Texts w B A l) (hB : B ≤ w.heap.size) :
    Calls Tryz.prog 28 #[.slice A l.length c, .func (.func 29) #[] #[]] w fun e w' => e = .returned (.bool (l.any wrongU)) ∧ Below w.heap.size w w' := by
  have HI := index_check A l c B hn hx w hL hB
  go_enter Tryz.func28, Tryz.ntmps28
  go_wp2_with (go_at_call 50; refine HI.mono ?_; rintro e w1 ⟨k, rfl, hk, hb⟩)
  refine bodyPost_ret (v := .bool (l.any wrongU)) ?_ rfl ⟨rfl, hb⟩
  simp [results, Tryz.results28, go_sem, ← hk]
end Go.Proofs.YtpcgcghhddnifaaGreatDoor
namespace Go.Proofs.YtpcgcghhddnifaaGreatDoor
open Go.RowKit Go.Shelf
attribute [local go_sem] Oper.semAt_some
/-- a place in a row of so many -/
abbrev Pl (m : Nat) := { i : Nat // i < m }
/-- the last k places, from the end -/
def downK (m k : Nat) (h : k ≤ m) : List (Pl m) := (List.range k).attach.map fun ⟨j, hj⟩ => ⟨m - 1 - j, by have := List.mem_range.1 hj; omega⟩
theorem downK_length (m k : Nat) (h : k ≤ m) : (downK m k h).length = k := by simp [downK]
theorem downK_zero (m : Nat) (h : 0 ≤ m) : downK m 0 h = [] := by simp [downK]
theorem downK_get (m k : Nat) (h : k ≤ m) (j : Nat) (hj : j < k) : (downK m k h)[j]? = some ⟨m - 1 - j, by omega⟩ := by
  unfold downK
  rw [List.getElem?_map, List.getElem?_attach]
  simp [hj]
theorem downK_succ (m k : Nat) (h : k < m) : downK m (k + 1) h = downK m k (by omega) ++ [⟨m - 1 - k, by omega⟩] := by
  apply List.ext_getElem?
  intro j
  rcases Nat.lt_trichotomy j k with c | c | c
  · rw [downK_get _ _ _ _ (by omega), List.getElem?_append_left (by rw [downK_length]; exact c), downK_get _ _ _ _ c]
  · subst c
    rw [downK_get _ _ _ _ (by omega), List.getElem?_append_right (by rw [downK_length]; omega), downK_length, Nat.sub_self]
    rfl
  · rw [List.getElem?_eq_none (by rw [downK_length]; omega), List.getElem?_eq_none (by simp [downK_length]; omega)]
/-- what a round that goes on keeps: what lay below, and the slice's own box -/
def KpB (n₀ Bs : Nat) (W W' : World) : Prop := Below n₀ W W' ∧ W'.heap[Bs]? = W.heap[Bs]?
theorem KpB.refl (n₀ Bs : Nat) (W : World) : KpB n₀ Bs W W := ⟨Below.refl _ _, rfl⟩
theorem KpB.trans {n₀ Bs : Nat} {A B C : World} (h : KpB n₀ Bs A B) (k : KpB n₀ Bs B C) : KpB n₀ Bs A C := ⟨h.1.trans k.1, k.2.trans h.2⟩
theorem KpB.box {n₀ Bs : Nat} {W W' : World} (h : KpB n₀ Bs W W') : W'.cell? ⟨Bs, 0, none⟩ = W.cell? ⟨Bs, 0, none⟩ := World.cell?_of_block (a := ⟨Bs, 0, none⟩) h.2
theorem KpB.put {n₀ Bs : Nat} {w W : World} (hn : n₀ ≤ w.heap.size) (hBs : Bs < w.heap.size) (l : Nat) (o o' : Obj) (hl : w.heap.size ≤ l) (ho : W.heap[l]? = some o) (hc : o.isCells = false) (hw : o.isWalk = false) : KpB n₀ Bs W (W.putObj l o') :=
  ⟨belowK_b hn W l o o' hl ho hc hw, World.putObj_heap_other (by omega)⟩
def encB (xs : List ByteArray) (x : Pl xs.length) : Array Value := #[.int .i64 (x.1 : Int), .string (getT xs x.1)]
set_option maxRecDepth 100000 in
set_option maxHeartbeats 2000000 in
theorem back1_in (F : Fence) (n : Nat) (h55 : F.fn 55) (hro : F.round = none) (hn : 1 ≤ n) (l Bs n₀ cap : Nat) (A : Option Addr) (xs : List ByteArray) (hreach : xs.length ≤ 100000) (J Jx : List (Pl xs.length) → World → Prop)
    (hY : ∀ pre x W, J pre W → pre.length < xs.length → YieldAt F (n - 1) Tryz.prog l (encB xs x) W fun e W' =>
      (e = .returned (.bool true) ∧ J (pre ++ [x]) W' ∧ KpB n₀ Bs W W') ∨ (e = .returned (.bool false) ∧ Jx (pre ++ [x]) W'))
    (W : World) (hBs : W.cell? ⟨Bs, 0, none⟩ = some (.slice A xs.length cap)) (hT : Texts W n₀ A xs) (h0 : J [] W) :
    CallsIn F n Tryz.prog 55 #[.func (.yield l) #[] #[], .pointer (some ⟨Bs, 0, none⟩)] W fun e W' => (∃ v, e = .returned v) ∧
      ((∃ ys, ys = downK xs.length xs.length (Nat.le_refl _) ∧ J ys W') ∨ (∃ pre, (∃ k, ∃ h : k < xs.length, pre = downK xs.length (k + 1) h) ∧ Jx pre W')) := by
  refine callsIn_of_wp Tryz.func55 rfl h55 ?_ hro
  simp only [Tryz.ntmps55, List.size_toArray, List.length_cons, List.length_nil, Nat.reduceAdd, Nat.reduceSub, Array.replicate_succ, Array.replicate_zero, List.push_toArray, List.append_toArray, List.nil_append, List.cons_append]
  gi_wp2
  gi_loopw [3] (fun i wr => ∃ (k : Nat) (hk : k ≤ xs.length) (q : Int), i = .int .i64 q ∧ q = (xs.length : Int) - 1 - k ∧ J (downK xs.length k hk) wr ∧ KpB n₀ Bs W wr)
    (fun i _ => (intOf i + 1).toNat)
  case atStart => exact ⟨0, Nat.zero_le _, _, rfl, by omega, by rw [downK_zero]; exact h0, KpB.refl _ _ _⟩
  case round =>
    obtain ⟨k, hk, q, rfl, hq, hJs, hnx⟩ := hrel
    have hBs' := hnx.box.trans hBs
    by_cases hlt : k < xs.length
    · obtain ⟨i, hi⟩ : ∃ i : Nat, i = xs.length - 1 - k := ⟨_, rfl⟩
      obtain rfl : q = (i : Int) := by omega
      have hil : i < xs.length := by omega
      obtain ⟨ad, rfl, hab, hcs⟩ := hT (by omega)
      have hc : wr.cell? (ad.add i) = some (.string (getT xs i)) := by
        rw [(hnx.1.cell (p := ad.add i) (by rw [block_of_add]; exact hab)).trans (hcs i hil)]
        simp [getT, hil]
      obtain ⟨fn, tmps, assign, body, hy, hR⟩ := hY _ (⟨i, hil⟩ : Pl xs.length) wr hJs (by rw [downK_length]; exact hlt)
      simp only [encB] at hy
      have hd := downK_succ xs.length k hlt
      have he : (⟨xs.length - 1 - k, by omega⟩ : Pl xs.length) = ⟨i, hil⟩ := by simp [hi]
      rw [he] at hd
      have h0i : (0 : Int) ≤ (i : Int) := by omega
      have hHd := Lib.hid hd
      have hHi := Lib.hid hi
      clear hd hi he hq hcs
      gi_wp2
      refine hR.mono ?_
      rintro e W3 (⟨rfl, hJ3, hk3⟩ | ⟨rfl, hJx3⟩)
      · gi_wp2
        go_roundw
        case rel => exact ⟨k + 1, hlt, _, rfl, by have := hHi.out; omega, by rw [hHd.out]; exact hJ3, hnx.trans hk3⟩
        case measure => simp [intOf]
      · gi_wp2
        refine bodyPost_ret (results_none rfl _ _ _) rfl ?_
        exact ⟨⟨_, rfl⟩, .inr ⟨_, ⟨k, hlt, rfl⟩, by rw [hHd.out]; exact hJx3⟩⟩
    · obtain rfl : k = xs.length := by omega
      obtain rfl : q = -1 := by omega
      gi_wp2
      go_end0
      exact ⟨⟨_, rfl⟩, .inl ⟨_, rfl, hJs⟩⟩
set_option maxHeartbeats 1000000 in
theorem back_in (F : Fence) (n : Nat) (h32 : F.fn 32) (hro : F.round = none) (a : Option Addr) (len cap : Nat) (w : World) :
    CallsIn F n Tryz.prog 32 #[.slice a len cap] w fun e w' => e = .returned (.func (.func 55) #[] #[.pointer (some ⟨w.heap.size, 0, none⟩)]) ∧ w' = w.alloc (.cells #[.slice a len cap] 23) := by
  refine callsIn_of_wp Tryz.func32 rfl h32 ?_ hro
  simp only [Tryz.ntmps32, List.size_toArray, List.length_cons, List.length_nil, Nat.reduceAdd, Nat.reduceSub, Array.replicate_succ, Array.replicate_zero, List.push_toArray, List.append_toArray, List.nil_append, List.cons_append]
  gi_wp2
  go_ret
  exact ⟨rfl, rfl⟩
theorem back_stops (F : Fence) (n : Nat) (h55 : F.fn 55) (hro : F.round = none) (hn : 1 ≤ n) (Bs n₀ cap : Nat) (A : Option Addr) (xs : List ByteArray) (hreach : xs.length ≤ 100000) (w : World) (hBl : Bs < w.heap.size) (hn₀ : n₀ ≤ w.heap.size) (hBs : w.cell? ⟨Bs, 0, none⟩ = some (.slice A xs.length cap)) (hT : Texts w n₀ A xs) :
    SeqStopsK F n Tryz.prog 55 #[.pointer (some ⟨Bs, 0, none⟩)] (encB xs) (KpB n₀ Bs) (fun ys => ys = downK xs.length xs.length (Nat.le_refl _)) (fun pre => ∃ k, ∃ h : k < xs.length, pre = downK xs.length (k + 1) h) xs.length w := by
  intro l J Jx W hW hJ hJx hY h0
  exact back1_in F n h55 hro hn l Bs n₀ cap A xs hreach J Jx hY W ((hW.cell (p := ⟨Bs, 0, none⟩) hBl).trans hBs) (hT.below (hW.mono hn₀)) h0
end Go.Proofs.YtpcgcghhddnifaaGreatDoor
namespace Go.Proofs.YtpcgcghhddnifaaGreatDoor
open Ph
/-- a place as it is written -/
def tellP (n : Int) : ByteArray := ⟨(123 :: (digits n.toNat ++ [125])).toArray⟩
def catT (tell : Int → ByteArray) : List Pc → ByteArray
  | [] => ByteArray.empty
  | p :: l => txt tell p ++ catT tell l
def sumT (tell : Int → ByteArray) : List Pc → Nat
  | [] => 0
  | p :: l => (txt tell p).size + sumT tell l
theorem catT_size (tell : Int → ByteArray) : ∀ l, (catT tell l).size = sumT tell l
  | [] => rfl
  | p :: l => by rw [catT, sumT, ByteArray.size_append, catT_size tell l]
theorem putAll_eq (tell : Int → ByteArray) (most : Nat) : ∀ (l : List Pc) (acc : ByteArray), acc.size ≤ most → putAll tell most acc l = if acc.size + sumT tell l ≤ most then some (acc ++ catT tell l) else none
  | [], acc, h => by rw [putAll, sumT, catT, if_pos (by omega), ByteArray.append_empty]
  | p :: l, acc, h => by
    rw [putAll, sumT, catT]
    by_cases g : acc.size + (txt tell p).size ≤ most
    · rw [if_pos g, putAll_eq tell most l _ (by rw [ByteArray.size_append]; exact g), ByteArray.size_append, ByteArray.append_assoc, Nat.add_assoc]
    · rw [if_neg g, if_neg (by omega)]
theorem putAll_nil (tell : Int → ByteArray) (most : Nat) (l : List Pc) : putAll tell most ⟨#[]⟩ l = if sumT tell l ≤ most then some (catT tell l) else none := by
  have h := putAll_eq tell most l ⟨#[]⟩ (Nat.zero_le _)
  have e : (⟨#[]⟩ : ByteArray) ++ catT tell l = catT tell l := ByteArray.empty_append
  rw [e] at h
  rw [h]
  have z : (⟨#[]⟩ : ByteArray).size = 0 := rfl
  rw [z, Nat.zero_add]
/-- what is parsed is written as it was -/
theorem par_cat {s : ByteArray} {i : Nat} {r : Except Nat (List Pc)} (h : Par s i r) : ∀ l, r = .ok l → i ≤ s.size → catT tellP l = s.extract i s.size := by
  induction h with
  | fin i h =>
    rintro l ⟨⟩ hi
    obtain rfl : i = s.size := by omega
    rw [ByteArray.extract_same]; rfl
  | opens i j n r h h1 hj hj' h2 h3 hp hr ih =>
    intro l e hi
    cases r with
    | error k => cases e
    | ok m =>
      simp only [pre, Except.ok.injEq] at e
      subst e
      rw [List.singleton_append, catT, ih m rfl (by omega)]
      obtain ⟨n1, n2⟩ := place_some hp
      have e1 : txt tellP ⟨2, ⟨#[]⟩, n⟩ = s.extract i (j + 1) := by
        unfold txt
        rw [if_pos rfl]
        have hm : s.extract i (j + 1) = s.extract i (i + 1) ++ (s.extract (i + 1) j ++ s.extract j (j + 1)) := by
          rw [← ByteArray.extract_eq_extract_append_extract j (by omega) (by omega), ← ByteArray.extract_eq_extract_append_extract (i + 1) (by omega) (by omega)]
        rw [hm]
        apply ByteArray.ext
        apply Array.ext'
        rw [ByteArray.toList_data_append, ByteArray.toList_data_append, n2, ByteArray.extract_add_one (by omega), ByteArray.extract_add_one (by omega), h1, h2]
        simp [tellP]
      rw [e1, ← ByteArray.extract_eq_extract_append_extract (j + 1) (by omega) (by omega)]
  | noclose i h h1 h3 => rintro l ⟨⟩
  | badplace i j h h1 hj hj' h2 h3 hp => rintro l ⟨⟩
  | closes i h h1 => rintro l ⟨⟩
  | text i k r h hk hk' h1 h2 hr ih =>
    intro l e hi
    cases r with
    | error k => cases e
    | ok m =>
      simp only [pre, Except.ok.injEq] at e
      subst e
      rw [List.singleton_append, catT, ih m rfl hk']
      have e1 : txt tellP ⟨1, s.extract i k, 0⟩ = s.extract i k := by unfold txt; rw [if_neg (show ¬ ((1 : Int) = 2) by decide)]
      rw [e1, ← ByteArray.extract_eq_extract_append_extract k (by omega) (by omega)]
theorem Fine.cat {s : ByteArray} {l : List Pc} (h : Fine s l) : catT tellP l = s := by
  rw [par_cat h.2.2 l rfl (Nat.zero_le _), ByteArray.extract_zero_size]
end Go.Proofs.YtpcgcghhddnifaaGreatDoor
namespace Go.Proofs.YtpcgcghhddnifaaGreatDoor
open Go.RowKit
open Ph
theorem fillT_err {s : ByteArray} {xs : List ByteArray} (h : (fillT s xs).2 ≠ 0) : (fillT s xs).1 = ⟨#[]⟩ := by
  rcases outcome s with ⟨l, hf⟩ | ⟨a, b, hf⟩
  · rw [fillT_fine hf] at h ⊢
    unfold layP at h ⊢
    split
    · rfl
    · split
      · rfl
      · split
        · rename_i h1 _ h2 _ b hb
          simp only [h1, h2, hb] at h
          exact absurd rfl h
        · rfl
  · rw [fillT_wrong hf]
theorem accT_err {ed mid : ByteArray} {xs : List ByteArray} : ∀ k, (accT ed mid xs k).2 ≠ 0 → (accT ed mid xs k).1 = ⟨#[]⟩
  | 0, h => fillT_err h
  | k + 1, h => by
    rw [accT] at h ⊢
    split
    · rename_i h2
      rw [if_pos h2] at h
      exact fillT_err h
    · rename_i h2
      rw [if_neg h2] at h
      exact accT_err k h
noncomputable def stepF (st mid ed : ByteArray) (xs : List ByteArray) (s : ByteArray × Int) (i : Nat) : ByteArray × Int :=
  if s.2 = 0 then fillT (if i = xs.length - 2 then ed else if i = 0 then st else mid) [getT xs i, s.1] else s
noncomputable def foldF (st mid ed : ByteArray) (xs : List ByteArray) {m : Nat} (pre : List (Pl m)) : ByteArray × Int := (pre.map (·.1)).foldl (stepF st mid ed xs) (getT xs (xs.length - 1), 0)
theorem foldF_snoc (st mid ed : ByteArray) (xs : List ByteArray) {m : Nat} (pre : List (Pl m)) (x : Pl m) : foldF st mid ed xs (pre ++ [x]) = stepF st mid ed xs (foldF st mid ed xs pre) x.1 := by simp [foldF]
theorem foldF_nil (st mid ed : ByteArray) (xs : List ByteArray) {m : Nat} : foldF st mid ed xs (m := m) [] = (getT xs (xs.length - 1), 0) := rfl
theorem foldF_acc (st mid ed : ByteArray) (xs : List ByteArray) (m : Nat) (hm : xs.length = m + 1) (h : 3 ≤ xs.length) : ∀ k (hk : k + 1 < m), foldF st mid ed xs (downK m (k + 1) (by omega)) = accT ed mid xs k := by
  intro k
  induction k with
  | zero =>
    intro hk
    rw [downK_succ m 0 (by omega), foldF_snoc, downK_zero, foldF_nil]
    unfold stepF accT
    simp only [if_true]
    rw [if_pos (by omega), show m - 1 - 0 = xs.length - 2 by omega]
  | succ k ih =>
    intro hk
    rw [downK_succ m (k + 1) (by omega), foldF_snoc, ih (by omega)]
    unfold stepF
    rw [accT]
    simp only []
    rw [if_neg (show ¬ m - 1 - (k + 1) = xs.length - 2 by omega), if_neg (show ¬ m - 1 - (k + 1) = 0 by omega), show m - 1 - (k + 1) = xs.length - 3 - k by omega]
theorem foldF_all (two st mid ed : ByteArray) (xs : List ByteArray) (m : Nat) (hm : xs.length = m + 1) (h : 3 ≤ xs.length) : foldF st mid ed xs (downK m m (Nat.le_refl _)) = listP two st mid ed xs := by
  obtain ⟨k, rfl⟩ : ∃ k, m = k + 1 := ⟨m - 1, by omega⟩
  obtain ⟨j, rfl⟩ : ∃ j, k = j + 1 := ⟨k - 1, by omega⟩
  rw [downK_succ (j + 1 + 1) (j + 1) (by omega), foldF_snoc, foldF_acc st mid ed xs (j + 1 + 1) hm h j (by omega)]
  have e : listP two st mid ed xs = if (accT ed mid xs j).2 = 0 then fillT st [getT xs 0, (accT ed mid xs j).1] else (⟨#[]⟩, (accT ed mid xs j).2) := by
    unfold listP
    rw [if_neg (by omega), if_neg (by omega), if_neg (by omega), show xs.length - 3 = j by omega]
  have e0 : j + 1 + 1 - 1 - (j + 1) = 0 := by omega
  rw [e]
  unfold stepF
  simp only [e0]
  rw [if_neg (show ¬ 0 = xs.length - 2 by omega)]
  by_cases hne : (accT ed mid xs j).2 = 0
  · rw [if_pos hne, if_pos hne]; simp
  · rw [if_neg hne, if_neg hne, ← accT_err j hne]
theorem foldl_stop (st mid ed : ByteArray) (xs : List ByteArray) : ∀ (l : List Nat) (s : ByteArray × Int), s.2 ≠ 0 → l.foldl (stepF st mid ed xs) s = s
  | [], s, h => rfl
  | i :: l, s, h => by
    rw [List.foldl_cons]
    have : stepF st mid ed xs s i = s := by unfold stepF; rw [if_neg h]
    rw [this]
    exact foldl_stop st mid ed xs l s h
theorem downK_more (m : Nat) : ∀ (d k : Nat) (h : k + d ≤ m), ∃ l, downK m (k + d) h = downK m k (by omega) ++ l := by
  intro d
  induction d with
  | zero => intro k h; exact ⟨[], by simp⟩
  | succ d ih =>
    intro k h
    obtain ⟨l, hl⟩ := ih k (by omega)
    refine ⟨l ++ [⟨m - 1 - (k + d), by omega⟩], ?_⟩
    rw [← List.append_assoc, ← hl]
    exact downK_succ m (k + d) (by omega)
theorem foldF_stop (two st mid ed : ByteArray) (xs : List ByteArray) (m : Nat) (hm : xs.length = m + 1) (h : 3 ≤ xs.length) (k : Nat) (hk : k < m) (he : (foldF st mid ed xs (downK m (k + 1) hk)).2 ≠ 0) : listP two st mid ed xs = foldF st mid ed xs (downK m (k + 1) hk) := by
  rw [← foldF_all two st mid ed xs m hm h]
  obtain ⟨l, hl⟩ := downK_more m (m - (k + 1)) (k + 1) (by omega)
  have e : downK m m (Nat.le_refl _) = downK m (k + 1 + (m - (k + 1))) (by omega) := by
    have : k + 1 + (m - (k + 1)) = m := by omega
    congr 1
    exact this.symm
  rw [e, hl]
  unfold foldF at he ⊢
  rw [List.map_append, List.foldl_append]
  exact foldl_stop _ _ _ _ _ _ he
theorem listP_err {two st mid ed : ByteArray} {xs : List ByteArray} (h : (listP two st mid ed xs).2 ≠ 0) : (listP two st mid ed xs).1 = ⟨#[]⟩ := by
  unfold listP at h ⊢
  by_cases c0 : xs.length = 0
  · rw [if_pos c0]
  rw [if_neg c0] at h ⊢
  by_cases c1 : xs.length = 1
  · rw [if_pos c1] at h ⊢
    by_cases g : 262144 < (getT xs 0).size
    · rw [if_pos g]
    · rw [if_neg g] at h; exact absurd rfl h
  rw [if_neg c1] at h ⊢
  by_cases c2 : xs.length = 2
  · rw [if_pos c2] at h ⊢; exact fillT_err h
  rw [if_neg c2] at h ⊢
  by_cases g : (accT ed mid xs (xs.length - 3)).2 = 0
  · rw [if_pos g] at h ⊢; exact fillT_err h
  · rw [if_neg g]
theorem stepF_err {st mid ed : ByteArray} {xs : List ByteArray} {s : ByteArray × Int} {i : Nat} (h0 : s.2 = 0) (h : (stepF st mid ed xs s i).2 ≠ 0) : (stepF st mid ed xs s i).1 = ⟨#[]⟩ := by
  unfold stepF at h ⊢
  rw [if_pos h0] at h ⊢
  exact fillT_err h
theorem foldF_size (st mid ed : ByteArray) (xs : List ByteArray) (hx : ∀ x ∈ xs, x.size ≤ 281474976710656) {m : Nat} (pre : List (Pl m)) : (foldF st mid ed xs pre).1.size ≤ 281474976710656 := by
  unfold foldF
  have h0 : (getT xs (xs.length - 1), (0 : Int)).1.size ≤ 281474976710656 := by
    by_cases c : xs.length - 1 < xs.length
    · show (getT xs (xs.length - 1)).size ≤ _
      rw [getT_get c]; exact hx _ (List.getElem_mem c)
    · have : getT xs (xs.length - 1) = ⟨#[]⟩ := by unfold getT; simp [List.getD, List.getElem?_eq_none (Nat.le_of_not_lt c)]
      show (getT xs (xs.length - 1)).size ≤ _
      rw [this]; exact Nat.zero_le _
  generalize (getT xs (xs.length - 1), (0 : Int)) = s at h0
  generalize pre.map (·.1) = l
  induction l generalizing s with
  | nil => exact h0
  | cons i l ih =>
    rw [List.foldl_cons]
    refine ih _ ?_
    unfold stepF
    split
    · exact Nat.le_trans (fillT_le _ _) (by decide)
    · exact h0
end Go.Proofs.YtpcgcghhddnifaaGreatDoor
namespace Go.Proofs.YtpcgcghhddnifaaGreatDoor
open Go.RowKit
open Ph
theorem ba_nil (a : ByteArray) : a ++ (⟨#[]⟩ : ByteArray) = a := by cases a; simp [ByteArray.ext_iff]
theorem ba_nil' (a : ByteArray) : (⟨#[]⟩ : ByteArray) ++ a = a := by cases a; simp [ByteArray.ext_iff]
theorem putAll_cat {tell : Int → ByteArray} {most : Nat} : ∀ (l : List Pc) (acc b : ByteArray), putAll tell most acc l = some b → b = acc ++ catT tell l
  | [], acc, b, e => by rw [putAll] at e; cases e; exact (ba_nil _).symm
  | p :: l, acc, b, e => by
    rw [putAll] at e
    split at e
    · have := putAll_cat l _ b e
      rw [this]
      show _ = acc ++ (txt tell p ++ catT tell l)
      rw [ByteArray.append_assoc]
    · cases e
theorem catT_app (tell : Int → ByteArray) (l m : List Pc) : catT tell (l ++ m) = catT tell l ++ catT tell m := by
  induction l with
  | nil => exact (ba_nil' _).symm
  | cons p l ih =>
    show txt tell p ++ catT tell (l ++ m) = txt tell p ++ catT tell l ++ catT tell m
    rw [ih, ByteArray.append_assoc]
theorem catT_plain {t u : Int → ByteArray} {l : List Pc} (h : ∀ p ∈ l, p.kind ≠ 2) : catT t l = catT u l := by
  induction l with
  | nil => rfl
  | cons p l ih =>
    show txt t p ++ catT t l = txt u p ++ catT u l
    rw [ih fun q hq => h q (by simp [hq])]
    unfold txt
    rw [if_neg (h p (by simp)), if_neg (h p (by simp))]
def noTell (_ : Int) : ByteArray := ⟨#[]⟩
/-- a phrase of two places: which comes first, and the texts around them -/
structure TwoP (s : ByteArray) (b : Bool) (l1 l2 l3 : List Pc) (p q : Pc) : Prop where
  fine : Fine s (l1 ++ p :: (l2 ++ q :: l3))
  plain : ∀ x ∈ l1 ++ (l2 ++ l3), x.kind ≠ 2
  kp : p.kind = 2
  kq : q.kind = 2
  at_ : (b = true ∧ p.place = 0 ∧ q.place = 1) ∨ (b = false ∧ p.place = 1 ∧ q.place = 0)
theorem two_of_once {s : ByteArray} (h : onceT s 2 = true) : ∃ b l1 l2 l3 p q, TwoP s b l1 l2 l3 p q := by
  rcases outcome s with ⟨l, hf⟩ | ⟨a, b, hf⟩
  · rw [onceT_fine hf, once2] at h
    simp only [Bool.and_eq_true, decide_eq_true_eq] at h
    obtain ⟨h1, h2, h3⟩ := h
    unfold nums at h1 h2 h3
    obtain ⟨m, hm⟩ : ∃ m, l.filter (fun p => p.kind == 2) = m := ⟨_, rfl⟩
    rw [hm] at h1 h2 h3
    match m, h1 with
    | [p, q], _ =>
      obtain ⟨l1, r, e1, n1, k1, f1⟩ := List.filter_eq_cons_iff.1 hm
      obtain ⟨l2, l3, e2, n2, k2, f2⟩ := List.filter_eq_cons_iff.1 f1
      have n3 := List.filter_eq_nil_iff.1 f2
      subst e2 e1
      simp only [List.map_cons, List.map_nil, List.count_cons, List.count_nil] at h2 h3
      have kp : p.kind = 2 := by simpa using k1
      have kq : q.kind = 2 := by simpa using k2
      have hat : (p.place = 0 ∧ q.place = 1) ∨ (p.place = 1 ∧ q.place = 0) := by
        by_cases a0 : p.place = 0 <;> by_cases b0 : q.place = 0 <;> by_cases a1 : p.place = 1 <;> by_cases b1 : q.place = 1 <;> simp_all
      have hpl : ∀ x ∈ l1 ++ (l2 ++ l3), x.kind ≠ 2 := by
        intro x hx
        rw [List.mem_append, List.mem_append] at hx
        rcases hx with hx | hx | hx
        · simpa using n1 x hx
        · simpa using n2 x hx
        · simpa using n3 x hx
      rcases hat with ⟨a, b⟩ | ⟨a, b⟩
      · exact ⟨true, l1, l2, l3, p, q, hf, hpl, kp, kq, .inl ⟨rfl, a, b⟩⟩
      · exact ⟨false, l1, l2, l3, p, q, hf, hpl, kp, kq, .inr ⟨rfl, a, b⟩⟩
  · rw [onceT_wrong hf] at h; cases h
def kat (l : List Pc) : ByteArray := catT noTell l
theorem TwoP.fill {s : ByteArray} {b : Bool} {l1 l2 l3 : List Pc} {p q : Pc} (h : TwoP s b l1 l2 l3 p q) (x y : ByteArray) (he : (fillT s [x, y]).2 = 0) :
    (fillT s [x, y]).1 = kat l1 ++ ((if b then x else y) ++ (kat l2 ++ ((if b then y else x) ++ kat l3))) := by
  rw [fillT_fine h.fine] at he ⊢
  unfold layP at he ⊢
  split
  · rename_i k hk
    rw [hk] at he
    exact absurd (show (2 : Int) = 0 from he) (by decide)
  · rename_i hk
    rw [hk] at he
    dsimp only at he
    split
    · rename_i ha
      rw [ha] at he
      exact absurd (show (2 : Int) = 0 from he) (by decide)
    · rename_i ha
      rw [ha] at he
      dsimp only at he
      split
      · rename_i r hr
        have := putAll_cat _ _ _ hr
        rw [ba_nil'] at this
        rw [this, catT_app]
        have e1 : catT (argOf [x, y]) l1 = kat l1 := catT_plain fun z hz => h.plain z (by simp [hz])
        have e2 : catT (argOf [x, y]) l2 = kat l2 := catT_plain fun z hz => h.plain z (by simp [hz])
        have e3 : catT (argOf [x, y]) l3 = kat l3 := catT_plain fun z hz => h.plain z (by simp [hz])
        show catT _ l1 ++ (txt _ p ++ catT _ (l2 ++ q :: l3)) = _
        rw [catT_app]
        show catT _ l1 ++ (txt _ p ++ (catT _ l2 ++ (txt _ q ++ catT _ l3))) = _
        rw [e1, e2, e3]
        unfold txt
        rw [if_pos h.kp, if_pos h.kq]
        rcases h.at_ with ⟨rfl, a, c⟩ | ⟨rfl, a, c⟩ <;> rw [a, c] <;> rfl
      · rename_i hr
        rw [hr] at he
        exact absurd (show (3 : Int) = 0 from he) (by decide)
/-- a text stands in another -/
def Within (x s : ByteArray) : Prop := ∃ u v : ByteArray, s = u ++ (x ++ v)
theorem Within.refl (x : ByteArray) : Within x x := ⟨⟨#[]⟩, ⟨#[]⟩, by rw [ba_nil, ba_nil']⟩
theorem Within.trans {x y z : ByteArray} (h : Within x y) (h' : Within y z) : Within x z := by
  obtain ⟨u, v, rfl⟩ := h
  obtain ⟨a, b, rfl⟩ := h'
  exact ⟨a ++ u, v ++ b, by simp only [ByteArray.append_assoc]⟩
theorem Within.size {x s : ByteArray} (h : Within x s) : x.size ≤ s.size := by
  obtain ⟨u, v, rfl⟩ := h
  simp only [ByteArray.size_append]; omega
theorem Within.contains {x s : ByteArray} (h : Within x s) : Lib.contains s.data.toList x.data.toList = true := by
  obtain ⟨u, v, rfl⟩ := h
  unfold Lib.contains
  rw [decide_eq_true_eq]
  have e : (u ++ (x ++ v)).data.toList = u.data.toList ++ (x.data.toList ++ v.data.toList) := by simp [ByteArray.data_append]
  rw [e]
  rcases Lib.index_spec (u.data.toList ++ (x.data.toList ++ v.data.toList)) x.data.toList with ⟨_, h2⟩ | ⟨i, h1, _⟩
  · have := h2 u.data.toList.length (by simp)
    unfold Lib.occAt at this
    rw [List.drop_left, List.isPrefixOf_iff_prefix.2 (List.prefix_append _ _)] at this
    cases this
  · rw [h1]; omega
theorem TwoP.holds {s : ByteArray} {b : Bool} {l1 l2 l3 : List Pc} {p q : Pc} (h : TwoP s b l1 l2 l3 p q) (x y : ByteArray) (he : (fillT s [x, y]).2 = 0) :
    Within x (fillT s [x, y]).1 ∧ Within y (fillT s [x, y]).1 ∧ x.size + y.size ≤ (fillT s [x, y]).1.size := by
  rw [h.fill x y he]
  cases b
  · refine ⟨⟨kat l1 ++ (y ++ kat l2), kat l3, by simp [ByteArray.append_assoc]⟩, ⟨kat l1, kat l2 ++ (x ++ kat l3), by simp⟩, ?_⟩
    simp only [ByteArray.size_append, if_false, Bool.false_eq_true]; omega
  · refine ⟨⟨kat l1, kat l2 ++ (y ++ kat l3), by simp⟩, ⟨kat l1 ++ (x ++ kat l2), kat l3, by simp [ByteArray.append_assoc]⟩, ?_⟩
    simp only [ByteArray.size_append, if_true]; omega
theorem once_holds {s : ByteArray} (h : onceT s 2 = true) (x y : ByteArray) (he : (fillT s [x, y]).2 = 0) :
    Within x (fillT s [x, y]).1 ∧ Within y (fillT s [x, y]).1 ∧ x.size + y.size ≤ (fillT s [x, y]).1.size := by
  obtain ⟨b, l1, l2, l3, p, q, ht⟩ := two_of_once h
  exact ht.holds x y he
def tot (xs : List ByteArray) : Nat := (xs.map (·.size)).sum
theorem accT_ok {ed mid : ByteArray} {xs : List ByteArray} {k : Nat} (h : (accT ed mid xs (k + 1)).2 = 0) : (accT ed mid xs k).2 = 0 ∧ accT ed mid xs (k + 1) = fillT mid [getT xs (xs.length - 3 - k), (accT ed mid xs k).1] := by
  rw [accT] at h ⊢
  by_cases c : (accT ed mid xs k).2 = 0
  · rw [if_pos c]; exact ⟨c, rfl⟩
  · rw [if_neg c] at h; exact absurd h c
theorem tot_drop {xs : List ByteArray} {i : Nat} (h : i < xs.length) : tot (xs.drop i) = (getT xs i).size + tot (xs.drop (i + 1)) := by
  unfold tot
  rw [List.drop_eq_getElem_cons h, getT_get h, List.map_cons, List.sum_cons]
theorem accT_holds {ed mid : ByteArray} {xs : List ByteArray} (hed : onceT ed 2 = true) (hmid : onceT mid 2 = true) (h3 : 3 ≤ xs.length) : ∀ k, k ≤ xs.length - 3 → (accT ed mid xs k).2 = 0 →
    (∀ j, xs.length - 2 - k ≤ j → j < xs.length → Within (getT xs j) (accT ed mid xs k).1) ∧ tot (xs.drop (xs.length - 2 - k)) ≤ (accT ed mid xs k).1.size := by
  intro k
  induction k with
  | zero =>
    intro _ he
    obtain ⟨a, b, c⟩ := once_holds hed _ _ he
    refine ⟨fun j h1 h2 => ?_, ?_⟩
    · rcases Nat.lt_or_ge j (xs.length - 1) with g | g
      · obtain rfl : j = xs.length - 2 := by omega
        exact a
      · obtain rfl : j = xs.length - 1 := by omega
        exact b
    · rw [Nat.sub_zero, tot_drop (by omega), show xs.length - 2 + 1 = xs.length - 1 by omega, tot_drop (by omega), show xs.length - 1 + 1 = xs.length by omega, List.drop_length]
      show _ + (_ + 0) ≤ _
      exact c
  | succ k ih =>
    intro hk he
    obtain ⟨h0, e⟩ := accT_ok he
    obtain ⟨i1, i2⟩ := ih (by omega) h0
    rw [e] at he ⊢
    obtain ⟨a, b, c⟩ := once_holds hmid _ _ he
    refine ⟨fun j h1 h2 => ?_, ?_⟩
    · rcases Nat.lt_or_ge j (xs.length - 2 - k) with g | g
      · obtain rfl : j = xs.length - 3 - k := by omega
        exact a
      · exact (i1 j g h2).trans b
    · rw [show xs.length - 2 - (k + 1) = xs.length - 3 - k by omega, tot_drop (by omega), show xs.length - 3 - k + 1 = xs.length - 2 - k by omega]
      omega
theorem listP_holds {two st mid ed : ByteArray} {xs : List ByteArray} (h2 : onceT two 2 = true) (hst : onceT st 2 = true) (hed : onceT ed 2 = true) (hmid : onceT mid 2 = true) (he : (listP two st mid ed xs).2 = 0) :
    (∀ j, j < xs.length → Within (getT xs j) (listP two st mid ed xs).1) ∧ tot xs ≤ (listP two st mid ed xs).1.size := by
  unfold listP at he ⊢
  by_cases c0 : xs.length = 0
  · obtain rfl := List.eq_nil_of_length_eq_zero c0
    exact ⟨fun j hj => absurd hj (by simp), Nat.zero_le _⟩
  rw [if_neg c0] at he ⊢
  by_cases c1 : xs.length = 1
  · rw [if_pos c1] at he ⊢
    match xs, c1 with
    | [x], _ =>
      split at he
      · exact absurd he (by decide)
      · rename_i hs
        rw [if_neg hs]
        refine ⟨fun j hj => ?_, ?_⟩
        · obtain rfl : j = 0 := by simpa using hj
          exact Within.refl _
        · show x.size + 0 ≤ x.size
          omega
  rw [if_neg c1] at he ⊢
  by_cases c2 : xs.length = 2
  · rw [if_pos c2] at he ⊢
    match xs, c2 with
    | [x, y], _ =>
      obtain ⟨a, b, c⟩ := once_holds h2 _ _ he
      refine ⟨fun j hj => ?_, ?_⟩
      · match j, hj with
        | 0, _ => exact a
        | 1, _ => exact b
      · show x.size + (y.size + 0) ≤ _
        exact c
  rw [if_neg c2] at he ⊢
  split at he
  · rename_i ha
    rw [if_pos ha]
    obtain ⟨i1, i2⟩ := accT_holds hed hmid (by omega) _ (Nat.le_refl _) ha
    obtain ⟨a, b, c⟩ := once_holds hst _ _ he
    refine ⟨fun j hj => ?_, ?_⟩
    · rcases Nat.eq_zero_or_pos j with rfl | g
      · exact a
      · exact (i1 j (by omega) hj).trans b
    · rw [show tot xs = tot (xs.drop 0) from rfl, tot_drop (by omega)]
      rw [show xs.length - 2 - (xs.length - 3) = 0 + 1 by omega] at i2
      omega
  · rename_i ha
    exact absurd he ha
theorem plainT_fine : Fine plainT [⟨2, ⟨#[]⟩, 0⟩, ⟨1, plainT.extract 3 5, 0⟩, ⟨2, ⟨#[]⟩, 1⟩] := by
  refine ⟨by decide, by decide +kernel, ?_⟩
  have p3 : Par plainT 8 (.ok []) := .fin 8 (by decide)
  have p2 : Par plainT 5 (.ok [⟨2, ⟨#[]⟩, 1⟩]) := .opens 5 7 1 (.ok []) (by decide) (by decide) (by decide) (by decide) (by decide) (fun k hk h1 h2 => by (have e : k = 6 := by omega); subst e; decide +revert) (by decide) p3
  have p1 : Par plainT 3 (.ok [⟨1, plainT.extract 3 5, 0⟩, ⟨2, ⟨#[]⟩, 1⟩]) := .text 3 5 (.ok [⟨2, ⟨#[]⟩, 1⟩]) (by decide) (by decide) (by decide) (fun m hm h1 h2 => by
    rcases (show m = 3 ∨ m = 4 by omega) with rfl | rfl
    · show ¬ (_ ∨ _); decide +revert
    · show ¬ (_ ∨ _); decide +revert) (fun _ => by show _ ∨ _; decide +revert) p2
  exact .opens 0 2 0 _ (by decide) (by decide) (by decide) (by decide) (by decide) (fun k hk h1 h2 => by (have e : k = 1 := by omega); subst e; decide +revert) (by decide) p1
/-- what a part of a list's style is has two places, each once -/
theorem plainT_once : onceT plainT 2 = true := by
  rw [onceT_fine plainT_fine, once2]
  decide
theorem askT_once {L : List Sd} {loc path o : ByteArray} (ho : onceT o 2 = true) : onceT (askT L loc path 2 o) 2 = true := by
  unfold askT
  split
  · split
    · rename_i h; exact h
    · exact ho
  · exact ho
theorem partT_once (L : List Sd) (loc st nm : ByteArray) : onceT (partT L loc st nm) 2 = true := askT_once (askT_once plainT_once)
end Go.Proofs.YtpcgcghhddnifaaGreatDoor
