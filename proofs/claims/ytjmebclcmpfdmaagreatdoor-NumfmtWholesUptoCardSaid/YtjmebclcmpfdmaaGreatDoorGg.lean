/-
  strings.Builder's WriteRune at this program: the library's contract, laid by hand. Conditions: those that the theorem names.
  Digits dressed: numfmt.dress. Conditions: the text is of digits; the slice reads as ten runes; sizes.
  Digits dressed: ref25's Dress. Conditions: the text is of digits; the slice reads as ten runes; sizes.
  The sign of a system by its name: paths, what the sources answer there, numfmt's plain and ref25's Plain. Conditions: the system and the sign's name are names; sizes.
-/
import Derived.Test.YtjmebclcmpfdmaaGreatDoorRows
import Derived.Test.YtjmebclcmpfdmaaGreatDoorGc
import Derived.Shelf.Strings.BuilderRune
import Derived.Test.YtjmebclcmpfdmaaGreatDoorGf
set_option linter.unusedVariables false
set_option linter.unusedSimpArgs false
namespace Go.Proofs
open Go.Shelf
def Tryz.bs3_ren : Go.Shelf.Ren := ⟨fun | 166 => 68 | 167 => 229 | 168 => 88 | 240 => 121 | 276 => 164 | 242 => 141 | 278 => 177 | n => n, fun | 0 => 0 | 3 => 3 | 4 => 4 | 5 => 5 | 9 => 9 | 20 => 20 | 21 => 21 | 37 => 108 | 46 => 116 | 51 => 166 | 70 => 119 | 72 => 121 | 75 => 124 | 80 => 78 | 164 => 214 | n => n, fun | n => n⟩
theorem Tryz.bs168 : Go.Proofs.Lays.n168 Tryz.prog Tryz.bs3_ren := {
  mixed := by kernel_rfl
  f168 := Tryz.func88.trans (congrArg some (by kernel_rfl))
  f240 := Tryz.func121.trans (congrArg some (by kernel_rfl))
  f242 := Tryz.func141.trans (congrArg some (by kernel_rfl))
  f276 := Tryz.func164.trans (congrArg some (by kernel_rfl))
  f278 := Tryz.func177.trans (congrArg some (by kernel_rfl))
  t0 := Tryz.underlying0
  a0 := Tryz.isAgg0
  z0 := Tryz.sizeOf0
  v0 := Tryz.zeroValue0
  t3 := Tryz.underlying3
  a3 := Tryz.isAgg3
  z3 := Tryz.sizeOf3
  v3 := Tryz.zeroValue3
  t4 := Tryz.underlying4
  a4 := Tryz.isAgg4
  z4 := Tryz.sizeOf4
  v4 := Tryz.zeroValue4
  t5 := Tryz.underlying5
  a5 := Tryz.isAgg5
  z5 := Tryz.sizeOf5
  v5 := Tryz.zeroValue5
  t9 := Tryz.underlying9
  a9 := Tryz.isAgg9
  z9 := Tryz.sizeOf9
  v9 := Tryz.zeroValue9
  t20 := Tryz.underlying20
  a20 := Tryz.isAgg20
  z20 := Tryz.sizeOf20
  v20 := Tryz.zeroValue20
  t21 := Tryz.underlying21
  a21 := Tryz.isAgg21
  z21 := Tryz.sizeOf21
  v21 := Tryz.zeroValue21
  t37 := Tryz.underlying108
  a37 := Tryz.isAgg108
  z37 := Tryz.sizeOf108
  v37 := Tryz.zeroValue108
  t46 := Tryz.underlying116
  a46 := Tryz.isAgg116
  z46 := Tryz.sizeOf116
  v46 := Tryz.zeroValue116
  t51 := Tryz.underlying166
  a51 := Tryz.isAgg166
  z51 := Tryz.sizeOf166
  v51 := Tryz.zeroValue166
  t70 := Tryz.underlying119
  a70 := Tryz.isAgg119
  z70 := Tryz.sizeOf119
  v70 := Tryz.zeroValue119
  t72 := Tryz.underlying121
  a72 := Tryz.isAgg121
  z72 := Tryz.sizeOf121
  v72 := Tryz.zeroValue121
  t75 := Tryz.underlying124
  a75 := Tryz.isAgg124
  z75 := Tryz.sizeOf124
  v75 := Tryz.zeroValue124
  t164 := Tryz.underlying214
  a164 := Tryz.isAgg214
  z164 := Tryz.sizeOf214
  v164 := Tryz.zeroValue214
  }
theorem Tryz.bs3Extra : Builder.Extra Tryz.prog Tryz.bs3_ren := {
  sizeBuilder := by kernel_rfl
  liesBuilder := by kernel_rfl
  t5 := Tryz.underlying5
  a5 := Tryz.isAgg5
  z5 := Tryz.sizeOf5
  v5 := Tryz.zeroValue5
  infoByte := by kernel_rfl
  cellsByte := by kernel_rfl
  sizeByte := by kernel_rfl
  neB5 := by decide }
open Go.RowKit in
theorem Tryz.WriteRuneK (B b : Nat) (bs : List Value) (r : Int) (hr0 : -2147483648 ≤ r) (hr1 : r ≤ 2147483647) (w : World) (h : Lib.IsBuilderF 121 5 B b bs w) (hlen : bs.length + 4 ≤ 140737488355328) (hBw : B ≤ w.heap.size) :
    Calls Tryz.prog 88 #[.pointer (some ⟨b, 0, none⟩), .int .i32 r] w fun e w' => e = .returned (.tuple #[.int .i64 (Lib.runeCells r).length, .nilIface]) ∧ (Lib.BuilderAtF 121 5 B b (.pointer (some ⟨b, 0, none⟩)) (bs ++ Lib.runeCells r) w' ∧ Below B w w' ∧ Lib.OthersKept 5 (some b) w w') :=
  Any.Builder_WriteRune_k Tryz.bs168 Tryz.bs3Extra B b bs r hr0 hr1 w h hlen hBw
end Go.Proofs
namespace Go.Proofs.YtjmebclcmpfdmaaGreatDoor
open Go.RowKit
open Ph
/-- a text of digits -/
def digT (s : ByteArray) : Prop := ∀ j, j < s.size → 48 ≤ (s.get! j).toNat ∧ (s.get! j).toNat ≤ 57
/-- the form of the rune that stands for a digit -/
def runeB (D : List Nat) (b : UInt8) : ByteArray := ⟨(Lib.encodeRune ((D.getD (b.toNat - 48) 0 : Nat) : Int)).toArray⟩
/-- the first so many digits of a text, dressed -/
def dressN (D : List Nat) (s : ByteArray) : Nat → ByteArray
  | 0 => ⟨#[]⟩
  | j + 1 => dressN D s j ++ runeB D (s.get! j)
/-- a text of digits in the digits of a system -/
def dressT (D : List Nat) (s : ByteArray) : ByteArray := dressN D s s.size
theorem runeB_size (D : List Nat) (b : UInt8) : (runeB D b).size ≤ 4 := by
  have h := (Lib.runeCells_le ((D.getD (b.toNat - 48) 0 : Nat) : Int)).2
  rw [Lib.runeCells_length] at h
  show (Lib.encodeRune _).toArray.size ≤ 4
  rw [List.size_toArray]
  exact h
theorem dressN_size (D : List Nat) (s : ByteArray) : ∀ j, (dressN D s j).size ≤ 4 * j
  | 0 => Nat.le_refl _
  | j + 1 => by
    have := dressN_size D s j
    have := runeB_size D (s.get! j)
    unfold dressN
    rw [ByteArray.size_append]
    omega
theorem dressT_size (D : List Nat) (s : ByteArray) : (dressT D s).size ≤ 4 * s.size := dressN_size D s _
theorem cells_rune (a : ByteArray) (D : List Nat) (b : UInt8) : Lib.strCells a ++ Lib.runeCells ((D.getD (b.toNat - 48) 0 : Nat) : Int) = Lib.strCells (a ++ runeB D b) := by
  rw [← cells_push, ← Lib.byteCells_encodeRune]
  rfl
set_option maxRecDepth 100000 in
set_option maxHeartbeats 4000000 in
theorem dress_any (s : ByteArray) (D : List Nat) (hD : D.length = 10) (hD2 : ∀ r ∈ D, r ≤ 1114111) (hs : digT s) (hz : s.size ≤ 1000000) (A : Option Addr) (c B : Nat) (w : World) (hR : Runs w B A D) (hB : B ≤ w.heap.size) :
    Calls Tryz.prog 37 #[.string s, .slice A 10 c] w fun e w' => e = .returned (.string (dressT D s)) ∧ Below w.heap.size w w' := by
  have hT : dressT D s = dressN D s s.size := rfl
  rw [hT]
  clear hT
  have hI0 := fresh_isBuilderF w
  obtain ⟨ad, rfl, hab, hcell⟩ := hR (by omega)
  have HR := Lib.hid hR
  clear hR hcell
  go_enter Tryz.func37, Tryz.ntmps37
  go_wp2_with fail
  go_loopw [7] (fun _ wr => ∃ j : Nat, j ≤ s.size ∧ wr.heap[w.heap.size + 1]? = some (.stringIter s j) ∧ Lib.IsBuilderF 121 5 w.heap.size w.heap.size (Lib.strCells (dressN D s j)) wr ∧ Runs wr B (some ad) D ∧ Below w.heap.size w wr) (fun _ wr => s.size - wr.iterPos (w.heap.size + 1))
  case atStart =>
    refine ⟨0, by omega, ?_, hI0.alloc _, HR.out.below (((Below.refl B w).alloc hB _).alloc (by simp; omega) _), (((Below.refl _ w).alloc (Nat.le_refl _) _).alloc (by simp) _)⟩
    have := World.iter_heap (w.alloc (.cells #[.pointer none, .slice none 0 0] 121)) s 0
    simpa using this
  case round =>
    clear hI0
    obtain ⟨j, hj, hit, hI, hRr, hb⟩ := hrel
    have hsz : w.heap.size + 1 < wr.heap.size := (Array.getElem?_eq_some_iff.1 hit).1
    by_cases hp : j < s.size
    · obtain ⟨d1, d2⟩ := hs j hp
      rw [get_eq s j hp] at d1 d2
      have hnx : ∀ ty, (Instr.next (.pointer (some ⟨w.heap.size + 1, 0, none⟩)) true ty).run Tryz.prog wr = _ := fun ty => Lib.run_next_ascii_at wr (w.heap.size + 1) s j ty hit hp (by omega)
      have hsN : dressN D s (j + 1) = dressN D s j ++ runeB D s[j] := by rw [← get_eq s j hp]; rfl
      have hzN := dressN_size D s j
      obtain ⟨d, hd⟩ : ∃ d, s[j].toNat = d + 48 := ⟨s[j].toNat - 48, by omega⟩
      have hd10 : d < 10 := by omega
      have hit2 := Lib.iterAt_heap wr (w.heap.size + 1) s j (j + 1) hit
      have hb2 := Lib.below_iterAt hb (k := w.heap.size + 1) (by omega) s (j + 1)
      have hI2 := hI.iterAt hit (j + 1)
      have hR2 := hRr.below (Lib.below_iterAt (Below.refl B wr) (k := w.heap.size + 1) (by omega) s (j + 1))
      have hd' : ((s[j].toNat : Nat) : Int) = (d : Int) + 48 := by omega
      simp only [hd'] at hnx
      have hd9 : (d : Int) ≤ 9 := by omega
      have hd9' : (d : Int) < 10 := by omega
      have hd57 : (d : Int) + 48 ≤ 57 := by omega
      have hd48 : (48 : Int) ≤ (d : Int) + 48 := by omega
      obtain ⟨ad', e', _, hc2⟩ := hR2 (by omega)
      cases e'
      have hgd : D.getD d 0 = D[d] := by rw [List.getD_eq_getElem?_getD, List.getElem?_eq_getElem (by omega)]; rfl
      have hcd := hc2 d (D.getD d 0) (by rw [hgd, List.getElem?_eq_getElem (by omega)])
      have hrm : D.getD d 0 ≤ 1114111 := by rw [hgd]; exact hD2 _ (List.getElem_mem _)
      have hcl : Lib.strCells (dressN D s j) ++ Lib.runeCells ((D.getD d 0 : Nat) : Int) = Lib.strCells (dressN D s (j + 1)) := by
        rw [hsN, ← cells_rune, hd, Nat.add_sub_cancel]
      obtain ⟨r, hr⟩ : ∃ r, D.getD d 0 = r := ⟨_, rfl⟩
      rw [hr] at hcd hrm hcl
      have HW := Tryz.WriteRuneK w.heap.size w.heap.size (Lib.strCells (dressN D s j)) (r : Int) (by omega) (by omega) _ hI2 (by rw [Lib.strCells_length]; omega) hb2.size
      rw [hcl] at HW
      have HRR := Lib.hid hR2
      have HI2 := Lib.hid hit2
      have HIT := Lib.hid hit
      clear hr hcl hgd hc2 hsN hd hd' hR2 hit2 hI2 hI hit hRr d1 d2
      go_wp2_with (go_at_call 88; refine HW.mono ?_; rintro e w4 ⟨rfl, hI4, hb4, hk4⟩)
      go_roundw
      case rel => exact ⟨j + 1, hp, hk4 _ _ HI2.out (fun e => by injection e with e; omega) (fun c fz e => by cases e), Or.inr hI4, HRR.out.below (hb4.mono hB), hb2.trans hb4⟩
      case measure =>
        have h9 := hk4 _ _ HI2.out (fun e => by injection e with e; omega) (fun c fz e => by cases e)
        have h8 : wr.heap[w.heap.size + 1]? = some (.stringIter s j) := HIT.out
        simp only [World.iterPos, h9, h8]
        omega
    · obtain rfl : j = s.size := by omega
      have hnx : ∀ ty, (Instr.next (.pointer (some ⟨w.heap.size + 1, 0, none⟩)) true ty).run Tryz.prog wr = _ := fun ty => Lib.run_next_end_at wr (w.heap.size + 1) s s.size ty hit hp
      have HS := Tryz.Builder_String_any_k w.heap.size w.heap.size (dressN D s s.size).data.toList _ hI hb.size
      go_wp2_with (go_at_call 70; refine HS.mono ?_; rintro e w2 ⟨rfl, _, hb2, _⟩)
      refine bodyPost_ret (v := .string (dressN D s s.size)) ?_ rfl ⟨rfl, hb.trans hb2⟩
      simp [results, Tryz.results37, go_sem]
end Go.Proofs.YtjmebclcmpfdmaaGreatDoor
namespace Go.Proofs.YtjmebclcmpfdmaaGreatDoor
open Go.RowKit
open Ph
theorem encode_rune (D : List Nat) (b : UInt8) : Utf8.encode ((D.getD (b.toNat - 48) 0 : Nat) : Int) = runeB D b := encode_eq _
theorem rune_conv (r : Nat) (W : World) : (convert 21 9 (.int .i32 (r : Int))).run Tryz.prog W = .ok (.string (Utf8.encode (r : Int))) W := by
  simp [convert, run_underlying Tryz.underlying21, run_underlying Tryz.underlying9, Conv.intToString]
set_option maxRecDepth 100000 in
set_option maxHeartbeats 4000000 in
theorem Dress_any (s : ByteArray) (D : List Nat) (hD : D.length = 10) (hs : digT s) (hz : s.size ≤ 1000000) (A : Option Addr) (c B : Nat) (w : World) (hR : Runs w B A D) (hB : B ≤ w.heap.size) :
    Calls Tryz.prog 42 #[.string s, .slice A 10 c] w fun e w' => e = .returned (.string (dressT D s)) ∧ w = w' := by
  have hT : dressT D s = dressN D s s.size := rfl
  rw [hT]
  clear hT
  obtain ⟨ad, rfl, hab, hcell⟩ := hR (by omega)
  have HC := Lib.hid hcell
  clear hR hcell
  go_enter Tryz.func42, Tryz.ntmps42
  go_wp2_with fail
  go_loop [5, 6] (fun u i => ∃ j : Nat, j ≤ s.size ∧ i = .int .i64 j ∧ u = .string (dressN D s j)) (fun _ i => s.size - (intOf i).toNat)
  case atStart => exact ⟨0, by omega, rfl, rfl⟩
  case round =>
    obtain ⟨j, hj, rfl, rfl⟩ := hrel
    have hzN := dressN_size D s j
    by_cases hp : j < s.size
    · obtain ⟨d1, d2⟩ := hs j hp
      rw [get_eq s j hp] at d1 d2
      have hsN : dressN D s (j + 1) = dressN D s j ++ Utf8.encode ((D.getD (s[j].toNat - 48) 0 : Nat) : Int) := by rw [encode_rune, ← get_eq s j hp]; rfl
      obtain ⟨d, hd⟩ : ∃ d, s[j].toNat = d + 48 := ⟨s[j].toNat - 48, by omega⟩
      have hd10 : d < 10 := by omega
      rw [hd, Nat.add_sub_cancel] at hsN
      have hlo : (48 : Int) ≤ ((s[j].toNat : Nat) : Int) := by omega
      have hhi : ((s[j].toNat : Nat) : Int) ≤ 57 := by omega
      have hix : ((s[j].toNat : Nat) : Int) - 48 = (d : Int) := by omega
      have hd9 : (d : Int) ≤ 9 := by omega
      have hd9' : (d : Int) < 10 := by omega
      have hgd : D.getD d 0 = D[d] := by rw [List.getD_eq_getElem?_getD, List.getElem?_eq_getElem (by omega)]; rfl
      have hcd := HC.out d (D.getD d 0) (by rw [hgd, List.getElem?_eq_getElem (by omega)])
      obtain ⟨r, hr⟩ : ∃ r, D.getD d 0 = r := ⟨_, rfl⟩
      rw [hr] at hcd hsN
      have hcv := rune_conv r
      obtain ⟨E, hE⟩ : ∃ E, Utf8.encode (r : Int) = E := ⟨_, rfl⟩
      have hE4 : E.size ≤ 4 := by
        rw [← hE, encode_eq]
        have h := (Lib.runeCells_le (r : Int)).2
        rw [Lib.runeCells_length] at h
        show (Lib.encodeRune _).toArray.size ≤ 4
        rw [List.size_toArray]
        exact h
      simp only [hE] at hcv
      rw [hE] at hsN
      have HSN := Lib.hid hsN
      obtain ⟨acc, hacc⟩ : ∃ acc, dressN D s j = acc := ⟨_, rfl⟩
      rw [hacc] at HSN hzN ⊢
      have hza : acc.size ≤ 4000000 := by omega
      clear hr hgd hsN d1 d2 hacc hE hd hzN
      go_wp2_with fail
      go_round
      case rel => exact ⟨j + 1, hp, by go_num, by rw [HSN.out]⟩
      case measure => simp [intOf]; omega
    · obtain rfl : j = s.size := by omega
      go_wp2_with fail
      go_ret
      exact ⟨rfl, rfl⟩
end Go.Proofs.YtjmebclcmpfdmaaGreatDoor
namespace Go.Proofs.YtjmebclcmpfdmaaGreatDoor
open Go.RowKit
open Ph
/-- the path of a sign in a system of digits -/
def sgnP (nm v : ByteArray) : List Stp := [⟨numbersB, []⟩, ⟨symbolsB, [(nsB, v)]⟩, ⟨nm, []⟩]
/-- the names of signs, and what they are where nothing is said -/
structure Sgn (nm p : ByteArray) : Prop where
  ok : (nameB nm && decide (nm.size ≤ 64)) = true
  z : nm.size ≤ 20
  ne : p.toList.isEmpty = false
  pz : p.size ≤ 4
  prog : ∀ w, Calls Tryz.prog 91 #[.string nm] w fun e w' => e = .returned (.string p) ∧ w' = w
  ref : ∀ w, Calls Tryz.prog 98 #[.string nm] w fun e w' => e = .returned (.string p) ∧ w' = w
theorem sgnP_ok {nm p v : ByteArray} (hs : Sgn nm p) (h : namedB v = true) : PathOk (sgnP nm v) := by
  refine ⟨by simp [sgnP], by simp [sgnP], ?_, ?_⟩
  · have h1 := named_le h
    have h2 := key_size symbolsB nsB v
    have h3 := hs.z
    show (stepT ⟨numbersB, []⟩).size + 1 + ((stepT ⟨symbolsB, [(nsB, v)]⟩).size + 1 + ((stepT ⟨nm, []⟩).size + 1 + 0)) ≤ 513
    rw [h2]
    show 7 + 1 + (7 + (12 + v.size + 3) + 1 + (nm.size + 1 + 0)) ≤ 513
    omega
  · intro s hs1
    simp only [sgnP, List.mem_cons, List.not_mem_nil, or_false] at hs1
    rcases hs1 with rfl | rfl | rfl
    · exact ⟨one_step _ (by decide +kernel), by simp⟩
    · exact ⟨key_step _ _ _ (by decide +kernel) (by decide +kernel) (named_val h), by simp⟩
    · exact ⟨one_step _ hs.ok, by simp⟩
def sgnObj (nm : ByteArray) (A1 : Option Addr) (c1 : Nat) : Obj := .cells #[.string numbersB, .slice none 0 0, .string symbolsB, .slice A1 1 c1, .string nm, .slice none 0 0] 92
theorem ask_sgn {nm p : ByteArray} (hsn : Sgn nm p) (A : Option Addr) (L : List Sd) (c B : Nat) (loc v : ByteArray) (hv : namedB v = true) (hn : L.length ≤ 281474976710656) (w : World) (hL : Saids w B A L) (hB : B ≤ w.heap.size) (A1 : Option Addr) (c1 : Nat) (hp : Pairs w w.heap.size A1 [(nsB, v)]) :
    Calls Tryz.prog 41 #[.agg #[.slice A L.length c], .string loc, .slice (some ⟨w.heap.size, 0, none⟩) 3 3] (w.alloc (sgnObj nm A1 c1)) fun e w' => e = .returned (valR (valueOf L loc (leftT (sgnP nm v)))) ∧ Below (w.heap.size + 1) (w.alloc (sgnObj nm A1 c1)) w' := by
  have S : Steps _ _ _ (sgnP nm v) := steps_new (cells_one numbersB (cells_key symbolsB nsB v A1 c1 hp (cells_one nm Cells.nil))) (Nat.le_refl _) 92
  have hz : (w.alloc (sgnObj nm A1 c1)).heap.size = w.heap.size + 1 := by simp
  have := Ask_any A L c (w.heap.size + 1) loc (some ⟨w.heap.size, 0, none⟩) 3 (sgnP nm v) (sgnP_ok hsn hv) hn (w.alloc (sgnObj nm A1 c1)) ((hL.below ((Below.refl B w).alloc hB _)).more (by omega)) S (by omega)
  rw [hz] at this
  exact this
theorem say_sgn {nm p : ByteArray} (hsn : Sgn nm p) (A : Option Addr) (L : List Sd) (c B : Nat) (loc v : ByteArray) (hv : namedB v = true) (hn : L.length ≤ 281474976710656) (w : World) (hL : Saids w B A L) (hB : B ≤ w.heap.size) (A1 : Option Addr) (c1 : Nat) (hp : Pairs w w.heap.size A1 [(nsB, v)]) :
    Calls Tryz.prog 72 #[.agg #[srcV A L.length c, .string loc], .slice (some ⟨w.heap.size, 0, none⟩) 3 3] (w.alloc (sgnObj nm A1 c1)) fun e w' => e = .returned (valR (valueOf L loc (leftT (sgnP nm v)))) ∧ Below (w.heap.size + 1) (w.alloc (sgnObj nm A1 c1)) w' := by
  have S : Steps _ _ _ (sgnP nm v) := steps_new (cells_one numbersB (cells_key symbolsB nsB v A1 c1 hp (cells_one nm Cells.nil))) (Nat.le_refl _) 92
  have hz : (w.alloc (sgnObj nm A1 c1)).heap.size = w.heap.size + 1 := by simp
  have := say_any A L c (w.heap.size + 1) loc (some ⟨w.heap.size, 0, none⟩) 3 (sgnP nm v) (sgnP_ok hsn hv) hn (w.alloc (sgnObj nm A1 c1)) ((hL.below ((Below.refl B w).alloc hB _)).more (by omega)) S (by omega)
  rw [hz] at this
  exact this
/-- the sign that a source says -/
def signV (L : List Sd) (loc v nm p : ByteArray) : ByteArray := ((valueOf L loc (leftT (sgnP nm v))).orElse fun _ => valueOf L loc (leftT (sgnP nm latnB))).getD p
def decimalB : ByteArray := ⟨#[100, 101, 99, 105, 109, 97, 108]⟩
set_option maxRecDepth 100000 in
theorem sgn_decimal : Sgn decimalB ⟨#[46]⟩ := by
  refine ⟨by decide +kernel, by decide, by decide +kernel, by decide, fun w => ?_, fun w => ?_⟩
  · unfold decimalB
    go_enter Tryz.func91, Tryz.ntmps91
    go_wp2_with fail
    go_ret
    exact ⟨rfl, rfl⟩
  · unfold decimalB
    go_enter Tryz.func98, Tryz.ntmps98
    go_wp2_with fail
    go_ret
    exact ⟨rfl, rfl⟩
def groupB : ByteArray := ⟨#[103, 114, 111, 117, 112]⟩
set_option maxRecDepth 100000 in
theorem sgn_group : Sgn groupB ⟨#[44]⟩ := by
  refine ⟨by decide +kernel, by decide, by decide +kernel, by decide, fun w => ?_, fun w => ?_⟩
  · unfold groupB
    go_enter Tryz.func91, Tryz.ntmps91
    go_wp2_with fail
    go_ret
    exact ⟨rfl, rfl⟩
  · unfold groupB
    go_enter Tryz.func98, Tryz.ntmps98
    go_wp2_with fail
    go_ret
    exact ⟨rfl, rfl⟩
def percentSignB : ByteArray := ⟨#[112, 101, 114, 99, 101, 110, 116, 83, 105, 103, 110]⟩
set_option maxRecDepth 100000 in
theorem sgn_percentSign : Sgn percentSignB ⟨#[37]⟩ := by
  refine ⟨by decide +kernel, by decide, by decide +kernel, by decide, fun w => ?_, fun w => ?_⟩
  · unfold percentSignB
    go_enter Tryz.func91, Tryz.ntmps91
    go_wp2_with fail
    go_ret
    exact ⟨rfl, rfl⟩
  · unfold percentSignB
    go_enter Tryz.func98, Tryz.ntmps98
    go_wp2_with fail
    go_ret
    exact ⟨rfl, rfl⟩
set_option maxRecDepth 100000 in
theorem sgn_minusSign : Sgn minusB ⟨#[45]⟩ := by
  refine ⟨by decide +kernel, by decide, by decide +kernel, by decide, fun w => ?_, fun w => ?_⟩
  · unfold minusB
    go_enter Tryz.func91, Tryz.ntmps91
    go_wp2_with fail
    go_ret
    exact ⟨rfl, rfl⟩
  · unfold minusB
    go_enter Tryz.func98, Tryz.ntmps98
    go_wp2_with fail
    go_ret
    exact ⟨rfl, rfl⟩
def plusSignB : ByteArray := ⟨#[112, 108, 117, 115, 83, 105, 103, 110]⟩
set_option maxRecDepth 100000 in
theorem sgn_plusSign : Sgn plusSignB ⟨#[43]⟩ := by
  refine ⟨by decide +kernel, by decide, by decide +kernel, by decide, fun w => ?_, fun w => ?_⟩
  · unfold plusSignB
    go_enter Tryz.func91, Tryz.ntmps91
    go_wp2_with fail
    go_ret
    exact ⟨rfl, rfl⟩
  · unfold plusSignB
    go_enter Tryz.func98, Tryz.ntmps98
    go_wp2_with fail
    go_ret
    exact ⟨rfl, rfl⟩
end Go.Proofs.YtjmebclcmpfdmaaGreatDoor
