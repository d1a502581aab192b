/-
  strings.Builder's WriteString at this program: the library's contract, laid by hand. Conditions: those that the theorem names.
  strings.Builder's WriteByte at this program: the library's contract, laid by hand. Conditions: those that the theorem names.
  Words for a Builder: joined cells, a fresh one, one that lies below. No condition.
  path.text at a step that may be. Condition: the step's keys read as these; they may be.
  path.Print at steps that may be: slices.Grow, slices.Concat of one row, path.put, Print. Condition: the slice reads as these steps; they may be.
  path.put and path.Print at steps that may be. Condition: the slice reads as these steps; they may be; the path is short.
-/
import Derived.Test.YtjmebclcmpfdmaaGreatDoorRows
import Derived.Test.YtjmebclcmpfdmaaGreatDoorShelf
import Derived.Shelf.Strings.BuilderK
import Derived.Test.YtjmebclcmpfdmaaGreatDoorGa
import Derived.Test.YtjmebclcmpfdmaaGreatDoorGb
import Derived.Lib.AppendZeros
set_option linter.unusedVariables false
set_option linter.unusedSimpArgs false
namespace Go.Proofs
open Go.Shelf
def Tryz.bs_ren : Go.Shelf.Ren := ⟨fun | 166 => 68 | 240 => 121 | 276 => 164 | n => n, fun | 70 => 119 | 72 => 121 | 37 => 108 | 3 => 3 | 0 => 0 | 5 => 5 | 4 => 4 | 9 => 9 | 20 => 20 | 164 => 214 | 75 => 124 | 80 => 78 | n => n, fun | n => n⟩
theorem Tryz.bs240 : Go.Proofs.Lays.n240 Tryz.prog Tryz.bs_ren := {
  mixed := by kernel_rfl
  f240 := Tryz.func121.trans (congrArg some (by kernel_rfl))
  f276 := Tryz.func164.trans (congrArg some (by kernel_rfl))
  t0 := Tryz.underlying0
  a0 := Tryz.isAgg0
  z0 := Tryz.sizeOf0
  v0 := Tryz.zeroValue0
  t4 := Tryz.underlying4
  a4 := Tryz.isAgg4
  z4 := Tryz.sizeOf4
  v4 := Tryz.zeroValue4
  t9 := Tryz.underlying9
  a9 := Tryz.isAgg9
  z9 := Tryz.sizeOf9
  v9 := Tryz.zeroValue9
  t20 := Tryz.underlying20
  a20 := Tryz.isAgg20
  z20 := Tryz.sizeOf20
  v20 := Tryz.zeroValue20
  t70 := Tryz.underlying119
  a70 := Tryz.isAgg119
  z70 := Tryz.sizeOf119
  v70 := Tryz.zeroValue119
  t72 := Tryz.underlying121
  a72 := Tryz.isAgg121
  z72 := Tryz.sizeOf121
  v72 := Tryz.zeroValue121
  t164 := Tryz.underlying214
  a164 := Tryz.isAgg214
  z164 := Tryz.sizeOf214
  v164 := Tryz.zeroValue214 }
theorem Tryz.bs166 : Go.Proofs.Lays.n166 Tryz.prog Tryz.bs_ren := {
  mixed := by kernel_rfl
  f166 := Tryz.func68.trans (congrArg some (by kernel_rfl))
  f240 := Tryz.func121.trans (congrArg some (by kernel_rfl))
  f276 := Tryz.func164.trans (congrArg some (by kernel_rfl))
  t0 := Tryz.underlying0
  a0 := Tryz.isAgg0
  z0 := Tryz.sizeOf0
  v0 := Tryz.zeroValue0
  t3 := Tryz.underlying3
  a3 := Tryz.isAgg3
  z3 := Tryz.sizeOf3
  v3 := Tryz.zeroValue3
  t4 := Tryz.underlying4
  a4 := Tryz.isAgg4
  z4 := Tryz.sizeOf4
  v4 := Tryz.zeroValue4
  t9 := Tryz.underlying9
  a9 := Tryz.isAgg9
  z9 := Tryz.sizeOf9
  v9 := Tryz.zeroValue9
  t20 := Tryz.underlying20
  a20 := Tryz.isAgg20
  z20 := Tryz.sizeOf20
  v20 := Tryz.zeroValue20
  t37 := Tryz.underlying108
  a37 := Tryz.isAgg108
  z37 := Tryz.sizeOf108
  v37 := Tryz.zeroValue108
  t70 := Tryz.underlying119
  a70 := Tryz.isAgg119
  z70 := Tryz.sizeOf119
  v70 := Tryz.zeroValue119
  t72 := Tryz.underlying121
  a72 := Tryz.isAgg121
  z72 := Tryz.sizeOf121
  v72 := Tryz.zeroValue121
  t75 := Tryz.underlying124
  a75 := Tryz.isAgg124
  z75 := Tryz.sizeOf124
  v75 := Tryz.zeroValue124
  t164 := Tryz.underlying214
  a164 := Tryz.isAgg214
  z164 := Tryz.sizeOf214
  v164 := Tryz.zeroValue214 }
theorem Tryz.bsExtra : Builder.Extra Tryz.prog Tryz.bs_ren := {
  sizeBuilder := by kernel_rfl
  liesBuilder := by kernel_rfl
  t5 := Tryz.underlying5
  a5 := Tryz.isAgg5
  z5 := Tryz.sizeOf5
  v5 := Tryz.zeroValue5
  infoByte := by kernel_rfl
  cellsByte := by kernel_rfl
  sizeByte := by kernel_rfl
  neB5 := by decide }
open Go.RowKit in
theorem Tryz.WriteStringK (B b : Nat) (bs : List Value) (s : ByteArray) (w : World) (h : Lib.IsBuilderF 121 5 B b bs w) (hlen : bs.length + s.size ≤ 140737488355328) (hBw : B ≤ w.heap.size) :
    Calls Tryz.prog 68 #[.pointer (some ⟨b, 0, none⟩), .string s] w fun e w' => e = .returned (.tuple #[.int .i64 s.size, .nilIface]) ∧ (Lib.BuilderAtF 121 5 B b (.pointer (some ⟨b, 0, none⟩)) (bs ++ Lib.strCells s) w' ∧ Below B w w' ∧ Lib.OthersKept 5 (some b) w w') :=
  Any.Builder_WriteString_k Tryz.bs166 Tryz.bsExtra B b bs s w h hlen hBw
end Go.Proofs
namespace Go.Proofs
open Go.Shelf
def Tryz.bs2_ren : Go.Shelf.Ren := ⟨fun | 166 => 68 | 167 => 229 | 168 => 88 | 240 => 121 | 276 => 164 | 242 => 141 | 278 => 177 | n => n, fun | 0 => 0 | 3 => 3 | 4 => 4 | 5 => 5 | 9 => 9 | 20 => 20 | 21 => 21 | 37 => 108 | 46 => 169 | 51 => 166 | 70 => 119 | 72 => 121 | 75 => 124 | 80 => 78 | 164 => 214 | n => n, fun | n => n⟩
theorem Tryz.bs167 : Go.Proofs.Lays.n167 Tryz.prog Tryz.bs2_ren := {
  mixed := by kernel_rfl
  f167 := Tryz.func229.trans (congrArg some (by kernel_rfl))
  f240 := Tryz.func121.trans (congrArg some (by kernel_rfl))
  f276 := Tryz.func164.trans (congrArg some (by kernel_rfl))
  t0 := Tryz.underlying0
  a0 := Tryz.isAgg0
  z0 := Tryz.sizeOf0
  v0 := Tryz.zeroValue0
  t4 := Tryz.underlying4
  a4 := Tryz.isAgg4
  z4 := Tryz.sizeOf4
  v4 := Tryz.zeroValue4
  t5 := Tryz.underlying5
  a5 := Tryz.isAgg5
  z5 := Tryz.sizeOf5
  v5 := Tryz.zeroValue5
  t9 := Tryz.underlying9
  a9 := Tryz.isAgg9
  z9 := Tryz.sizeOf9
  v9 := Tryz.zeroValue9
  t20 := Tryz.underlying20
  a20 := Tryz.isAgg20
  z20 := Tryz.sizeOf20
  v20 := Tryz.zeroValue20
  t37 := Tryz.underlying108
  a37 := Tryz.isAgg108
  z37 := Tryz.sizeOf108
  v37 := Tryz.zeroValue108
  t70 := Tryz.underlying119
  a70 := Tryz.isAgg119
  z70 := Tryz.sizeOf119
  v70 := Tryz.zeroValue119
  t72 := Tryz.underlying121
  a72 := Tryz.isAgg121
  z72 := Tryz.sizeOf121
  v72 := Tryz.zeroValue121
  t75 := Tryz.underlying124
  a75 := Tryz.isAgg124
  z75 := Tryz.sizeOf124
  v75 := Tryz.zeroValue124
  t164 := Tryz.underlying214
  a164 := Tryz.isAgg214
  z164 := Tryz.sizeOf214
  v164 := Tryz.zeroValue214
  }
theorem Tryz.bs2Extra : Builder.Extra Tryz.prog Tryz.bs2_ren := {
  sizeBuilder := by kernel_rfl
  liesBuilder := by kernel_rfl
  t5 := Tryz.underlying5
  a5 := Tryz.isAgg5
  z5 := Tryz.sizeOf5
  v5 := Tryz.zeroValue5
  infoByte := by kernel_rfl
  cellsByte := by kernel_rfl
  sizeByte := by kernel_rfl
  neB5 := by decide }
open Go.RowKit in
theorem Tryz.WriteByteK (B b : Nat) (bs : List Value) (c : Int) (w : World) (h : Lib.IsBuilderF 121 5 B b bs w) (hlen : bs.length + 1 ≤ 140737488355328) (hBw : B ≤ w.heap.size) :
    Calls Tryz.prog 229 #[.pointer (some ⟨b, 0, none⟩), .int .u8 c] w fun e w' => e = .returned .nilIface ∧ (Lib.BuilderAtF 121 5 B b (.pointer (some ⟨b, 0, none⟩)) (bs ++ [.int .u8 c]) w' ∧ Below B w w' ∧ Lib.OthersKept 5 (some b) w w') :=
  Any.Builder_WriteByte_k Tryz.bs167 Tryz.bs2Extra B b bs c w h hlen hBw
end Go.Proofs
namespace Go.Proofs.YtjmebclcmpfdmaaGreatDoor
open Go.RowKit
theorem cells_push (a b : ByteArray) : Lib.strCells a ++ Lib.strCells b = Lib.strCells (a ++ b) := by
  simp [Lib.strCells, ByteArray.data_append]
theorem fresh_isBuilderF (w : World) : Lib.IsBuilderF 121 5 w.heap.size w.heap.size [] (w.alloc (.cells #[.pointer none, .slice none 0 0] 121)) := Or.inl (Lib.BuilderAtF.of (by
  rcases Lib.fresh_isBuilder 121 5 w with h | h
  · exact h
  · exfalso
    have h0 := h.cell0
    have h1 := (Blk.new w 121 #[.pointer none, .slice none 0 0]).at_ 0 (v := .pointer none) rfl
    rw [h1] at h0
    cases h0))
theorem bldAt_below {T e : TypeId} {B b : Nat} {p : Value} {bs : List Value} {W W' : World} (h : Lib.BuilderAtF T e B b p bs W) (hb : Below W.heap.size W W') : Lib.BuilderAtF T e B b p bs W' := by
  have hlt := h.lt
  obtain ⟨hB, v, hv, hown, hne⟩ := h
  exact ⟨hB, v, (hb.block b hlt).trans hv, hown.kept (row := none) ⟨hb.os, hb.tape, hb.output, hb.size, fun k hk _ => hb.block k hk⟩ (Classical.em _), hne⟩
theorem bld_below {T e : TypeId} {B b : Nat} {bs : List Value} {W W' : World} (h : Lib.IsBuilderF T e B b bs W) (hb : Below W.heap.size W W') : Lib.IsBuilderF T e B b bs W' :=
  h.elim (fun x => .inl (bldAt_below x hb)) (fun x => .inr (bldAt_below x hb))
end Go.Proofs.YtjmebclcmpfdmaaGreatDoor
namespace Go.Proofs.YtjmebclcmpfdmaaGreatDoor
open Go.RowKit
open Ph
theorem idxSpecial : ∀ n, n < 256 → byteB (UInt8.ofNat n) = true → Lib.indexByte [91, 93, 47, 61, 92] (UInt8.ofNat n) = -1 := by decide +kernel
theorem idxB_no (b : UInt8) (h : byteB b = true) (w : World) : Calls Tryz.prog 217 #[.string ⟨#[91, 93, 47, 61, 92]⟩, .int .u8 b.toNat] w fun e w' => e = .returned (.int .i64 (-1)) ∧ w' = w := by
  have h1 := Tryz.strings_IndexByte ⟨#[91, 93, 47, 61, 92]⟩ b.toNat w
  have h2 := idxSpecial b.toNat (UInt8.toNat_lt b) (by rw [UInt8.ofNat_toNat]; exact h)
  rw [UInt8.ofNat_toNat] at h2
  rw [show (b.toNat : Int).toNat.toUInt8 = b by simp, show (⟨#[91, 93, 47, 61, 92]⟩ : ByteArray).data.toList = [91, 93, 47, 61, 92] from rfl, h2] at h1
  exact h1
theorem Blk.others {w w' : World} {g b : Nat} {t e : TypeId} {cs : Array Value} (h : Blk w g t cs) (ho : Lib.OthersKept e (some b) w w') (hg : g ≠ b) (ht : t ≠ e) : Blk w' g t cs :=
  ho g _ h (fun e1 => hg (Option.some.inj e1)) (fun c fz e1 => by cases e1; exact ht rfl)
/-- what stands ahead of a place -/
def preV (v : ByteArray) (j : Nat) : ByteArray := ⟨(v.data.toList.take j).toArray⟩
theorem ba_nil (a : ByteArray) : a ++ ⟨#[]⟩ = a := by
  apply ByteArray.ext
  simp [ByteArray.data_append]
theorem preV_zero (v : ByteArray) : preV v 0 = ⟨#[]⟩ := rfl
theorem preV_succ {v : ByteArray} {j : Nat} (h : j < v.size) : preV v (j + 1) = preV v j ++ ⟨#[v[j]]⟩ := by
  have hl := size_list v
  unfold preV
  rw [List.take_succ_eq_append_getElem (by omega), get_list v j h (by omega)]
  apply ByteArray.ext
  simp [ByteArray.data_append]
theorem preV_all (v : ByteArray) : preV v v.size = v := by
  unfold preV
  rw [← size_list v, List.take_length]
theorem preV_size {v : ByteArray} {j : Nat} (h : j ≤ v.size) : (preV v j).size = j := by
  have hl := size_list v
  show (v.data.toList.take j).toArray.size = j
  simp
  omega
theorem cells_byte (a : ByteArray) (b : UInt8) : Lib.strCells a ++ [.int .u8 (b.toNat : Int)] = Lib.strCells (a ++ ⟨#[b]⟩) := by
  simp [Lib.strCells, ByteArray.data_append]
/-- a step's text up to so many keys -/
def accK (nm : ByteArray) (ks : List (ByteArray × ByteArray)) (i : Nat) : ByteArray := (ks.take i).foldl (fun a k => a ++ keyT k) nm
theorem accK_succ {nm : ByteArray} {ks : List (ByteArray × ByteArray)} {i : Nat} (h : i < ks.length) : accK nm ks (i + 1) = accK nm ks i ++ keyT ks[i] := by
  unfold accK
  rw [List.take_succ_eq_append_getElem h, List.foldl_append]
  rfl
theorem keyT_size (k : ByteArray × ByteArray) : (keyT k).size = k.1.size + k.2.size + 3 := by
  unfold keyT
  simp only [ByteArray.size_append]
  show 1 + k.1.size + 1 + k.2.size + 1 = _
  omega
theorem accK_size {nm : ByteArray} {ks : List (ByteArray × ByteArray)} (hn : nm.size ≤ 64) (hk : ∀ (i : Nat) (h : i < ks.length), ks[i].1.size ≤ 64 ∧ ks[i].2.size ≤ 64) : ∀ i, i ≤ ks.length → (accK nm ks i).size ≤ 64 + 131 * i
  | 0, _ => by simpa [accK] using hn
  | i + 1, hi => by
    have h : i < ks.length := by omega
    rw [accK_succ h, ByteArray.size_append, keyT_size]
    have := accK_size hn hk i (by omega)
    have := hk i h
    omega
theorem keyT_split (a : ByteArray) (k : ByteArray × ByteArray) : ((a ++ ((⟨#[91]⟩ ++ k.1) ++ ⟨#[61]⟩)) ++ k.2) ++ ⟨#[93]⟩ = a ++ keyT k := by
  unfold keyT
  simp only [ByteArray.append_assoc]
set_option maxRecDepth 100000 in
set_option maxHeartbeats 4000000 in
theorem text_ok (s : Stp) (hok : stepB s = true) (hkl : s.keys.length ≤ 100) (Ak : Option Addr) (ck B : Nat) (w : World) (hP : Pairs w B Ak s.keys) (hB : B ≤ w.heap.size) :
    Calls Tryz.prog 199 #[stepV s.name Ak s.keys.length ck] w fun e w' => e = .returned (.string (stepT s)) ∧ Below w.heap.size w w' := by
  have hkey := stepB_key hok
  have hn2 : s.name.size ≤ 64 := by
    simp only [stepB, Bool.and_eq_true, decide_eq_true_eq] at hok
    exact hok.2.1
  clear hok
  have hT : stepT s = accK s.name s.keys s.keys.length := by unfold stepT accK; rw [List.take_length]
  rw [hT]
  clear hT
  obtain ⟨nm, hnm⟩ : ∃ nm, s.name = nm := ⟨_, rfl⟩
  obtain ⟨ks, hks⟩ : ∃ ks, s.keys = ks := ⟨_, rfl⟩
  unfold stepV
  rw [hnm] at hn2 ⊢
  rw [hks] at hkey hP hkl ⊢
  clear hnm hks
  have hsz := accK_size hn2 (fun i h => ⟨(hkey i h).2.1, (hkey i h).2.2.2.1⟩)
  have hI0 := fresh_isBuilderF (w.alloc (.cells #[.string nm, .slice Ak ks.length ck] 92))
  rw [World.size_alloc] at hI0
  have HW0 := Tryz.WriteStringK (w.heap.size + 1) (w.heap.size + 1) [] nm _ hI0 (by simp; omega) (by simp)
  rw [List.nil_append] at HW0
  go_enter Tryz.func199, Tryz.ntmps199
  have S0 := (Blk.new w 92 #[.string nm, .slice Ak ks.length ck]).alloc (.cells #[.pointer none, .slice none 0 0] 121)
  have s0 := S0.at_ 0 (v := .string nm) rfl
  have s1 := S0.at_ 1 (v := .slice Ak ks.length ck) rfl
  go_wp2_with (go_at_call 68; refine HW0.mono ?_; rintro e w1 ⟨rfl, hI1, hb1, hk1⟩; have S1 := S0.below hb1 (by omega); have q1 := S1.at_ 1 (v := .slice Ak ks.length ck) rfl)
  have hb0 : Below w.heap.size w w1 := (((Below.refl w.heap.size w).alloc (Nat.le_refl _) (.cells #[.string nm, .slice Ak ks.length ck] 92)).alloc (by simp) (.cells #[.pointer none, .slice none 0 0] 121)).trans (hb1.mono (by omega))
  have hP1 : Pairs w1 B Ak ks := hP.below (hb0.mono hB)
  clear hb1 hk1 S0 s0 s1 q1 HW0 hI0 hP
  go_loopw [13] (fun u wr => ∃ i : Nat, u = .int .i64 i ∧ i ≤ ks.length ∧ Pairs wr B Ak ks ∧ Lib.IsBuilderF 121 5 (w.heap.size + 1) (w.heap.size + 1) (Lib.strCells (accK nm ks i)) wr ∧ Below w.heap.size w wr) (fun u _ => ks.length - (intOf u).toNat)
  case atStart => exact ⟨0, rfl, by omega, hP1, Or.inr hI1, hb0⟩
  case round =>
    clear hP1 hI1 hb0 S1
    obtain ⟨i, rfl, hi, hP, hIs, hb⟩ := hrel
    by_cases h : i < ks.length
    · obtain ⟨ad, rfl, b0, c0, c1⟩ := hP.at_ h
      obtain ⟨k1, k2, k3, k4, k5⟩ := hkey i h
      have hs := hsz i hi
      have hac := accK_succ (nm := nm) h
      obtain ⟨acc, hacc⟩ : ∃ acc, accK nm ks i = acc := ⟨_, rfl⟩
      obtain ⟨k, hk⟩ : ∃ k, ks[i] = k := ⟨_, rfl⟩
      rw [hk] at c0 c1 k1 k2 k3 k4 k5 hac
      rw [hacc] at hs hac hIs
      have HAc := Lib.hid hac
      clear hk hac hacc k5
      obtain ⟨key, v⟩ := k
      dsimp only at k1 k2 k3 k4 c0 c1
      have hbb := hb.alloc hb.size (.cells #[.string key, .string v] 175)
      have hI1 := hIs.alloc (.cells #[.string key, .string v] 175)
      have hP1 := hP.alloc (Nat.le_trans hB hb.size) (.cells #[.string key, .string v] 175)
      have KB := Blk.new wr 175 #[.string key, .string v]
      have n9 := hbb.size
      have n8 : w.heap.size + 1 ≤ (wr.alloc (.cells #[.string key, .string v] 175)).heap.size := by have := hb.size; simp; omega
      have HW := Tryz.WriteStringK (w.heap.size + 1) (w.heap.size + 1) (Lib.strCells acc) ((⟨#[91]⟩ ++ key) ++ ⟨#[61]⟩) _ hI1 (by rw [Lib.strCells_length]; simp only [ByteArray.size_append]; show acc.size + (1 + key.size + 1) ≤ _; omega) n8
      rw [cells_push] at HW
      have z1 : ((⟨#[91]⟩ : ByteArray) ++ key).size ≤ 100 := by rw [ByteArray.size_append]; show 1 + key.size ≤ 100; omega
      go_wp2_with fail
      refine HW.mono ?_
      rintro e w2 ⟨rfl, hI2, hb2, hk2⟩
      have hbl : w.heap.size + 1 < wr.heap.size := by rcases hIs with q | q <;> exact q.lt
      have KB2 := KB.others hk2 (by omega) (by decide)
      have q1 := KB2.at_ 1 (v := .string v) rfl
      have hP2 := hP1.below (hb2.mono (by omega))
      have hB2 := hbb.trans (hb2.mono (by omega))
      clear HW KB hP1 hI1 hbb hk2 hb2
      go_wp2_with fail
      obtain ⟨wo, hwo⟩ : ∃ x, x = w2 := ⟨_, rfl⟩
      subst hwo
      obtain ⟨a2, ha2⟩ : ∃ a2, acc ++ ((⟨#[91]⟩ ++ key) ++ ⟨#[61]⟩) = a2 := ⟨_, rfl⟩
      have hz2 : a2.size ≤ 64 + 131 * i + 66 := by rw [← ha2]; simp only [ByteArray.size_append]; show acc.size + (1 + key.size + 1) ≤ _; omega
      rw [ha2] at hI2
      have HA2 := Lib.hid ha2
      clear ha2
      obtain ⟨g5, hg5⟩ : ∃ g5, wr.heap.size = g5 := ⟨_, rfl⟩
      rw [hg5] at KB2 hbl ⊢
      clear hg5 q1
      go_loopw [25] (fun u wx => ∃ j : Nat, u = .int .i64 j ∧ j ≤ v.size ∧ Lib.IsBuilderF 121 5 (w.heap.size + 1) (w.heap.size + 1) (Lib.strCells (a2 ++ preV v j)) wx ∧ Blk wx g5 175 #[.string key, .string v] ∧ Pairs wx B (some ad) ks ∧ Below w.heap.size w wx) (fun u _ => v.size - (intOf u).toNat)
      case atStart => exact ⟨0, rfl, by omega, by rw [preV_zero, ba_nil]; exact Or.inr hI2, KB2, hP2, hB2⟩
      case round =>
        clear KB2 hP2 hB2 hI2 hIs hP hb
        obtain ⟨j, rfl, hj, hI, KB, hP, hb⟩ := hrel
        have q1 := KB.at_ 1 (v := .string v) rfl
        have n7 : w.heap.size + 1 ≤ wr.heap.size := by have := KB.lt; omega
        by_cases hjl : j < v.size
        · have hbj := mem_byte k3 j hjl
          have HX := idxB_no v[j] hbj
          have hpz := preV_size (v := v) (j := j) hj
          have HWb := Tryz.WriteByteK (w.heap.size + 1) (w.heap.size + 1) (Lib.strCells (a2 ++ preV v j)) v[j].toNat _ hI (by rw [Lib.strCells_length, ByteArray.size_append]; omega) n7
          rw [cells_byte, ByteArray.append_assoc, ← preV_succ hjl] at HWb
          go_wp2_with (first | (go_at_call 217; refine (HX _).mono ?_; rintro e w3 ⟨rfl, rfl⟩) | (go_at_call 229; refine HWb.mono ?_; rintro e w4 ⟨rfl, hI4, hb4, hk4⟩))
          go_roundw
          case rel => exact ⟨j + 1, by go_num, hjl, Or.inr hI4, KB.others hk4 (by omega) (by decide), hP.below (hb4.mono (by omega)), hb.trans (hb4.mono (by omega))⟩
          case measure => simp [intOf]; omega
        · obtain rfl : j = v.size := by omega
          rw [preV_all] at hI
          have HWb := Tryz.WriteByteK (w.heap.size + 1) (w.heap.size + 1) (Lib.strCells (a2 ++ v)) 93 _ hI (by rw [Lib.strCells_length, ByteArray.size_append]; omega) n7
          have hce : Lib.strCells (a2 ++ v) ++ [.int .u8 93] = Lib.strCells ((a2 ++ v) ++ ⟨#[93]⟩) := cells_byte (a2 ++ v) 93
          rw [hce] at HWb
          have hfin : (a2 ++ v) ++ ⟨#[93]⟩ = acc ++ keyT (key, v) := by rw [← HA2.out]; exact keyT_split acc (key, v)
          rw [hfin] at HWb
          go_wp2_with (go_at_call 229; refine HWb.mono ?_; rintro e w4 ⟨rfl, hI4, hb4, hk4⟩)
          go_roundw
          case rel => exact ⟨i + 1, by go_num, by omega, hP.below (hb4.mono (by omega)), by rw [HAc.out]; exact Or.inr hI4, hb.trans (hb4.mono (by omega))⟩
          case measure => simp [intOf]; omega
    · obtain rfl : i = ks.length := by omega
      have HS := Tryz.Builder_String_any_k (w.heap.size + 1) (w.heap.size + 1) (accK nm ks ks.length).data.toList _ hIs (by rcases hIs with q | q <;> exact Nat.le_of_lt q.lt)
      go_wp2_with (go_at_call 70; refine HS.mono ?_; rintro e w2 ⟨rfl, _, hb2, _⟩)
      refine bodyPost_ret (v := .string (accK nm ks ks.length)) ?_ rfl ⟨rfl, hb.trans (hb2.mono (by omega))⟩
      simp [results, Tryz.results199, go_sem]
end Go.Proofs.YtjmebclcmpfdmaaGreatDoor
namespace Go.Proofs.YtjmebclcmpfdmaaGreatDoor
open Go.RowKit
open Ph
theorem infoSt : (Tryz.prog.info? 92).map (fun i => (i.zero, i.size, i.bytes)) = some (some (.agg #[.string ⟨#[]⟩, .slice none 0 0]), 2, 40) := by kernel_rfl
theorem infoS : (Tryz.prog.info? 9).map (fun i => (i.zero, i.size, i.bytes)) = some (some (.string ⟨#[]⟩), 1, 16) := by kernel_rfl
set_option maxRecDepth 100000 in
set_option maxHeartbeats 4000000 in
theorem grow_nil (n : Nat) (h0 : 0 < n) (hn : n ≤ 1000) (w : World) : Calls Tryz.prog 226 #[.slice none 0 0, .int .i64 n] w fun e w' => ∃ g cap, e = .returned (.slice (some ⟨g, 0, none⟩) 0 cap) ∧ w'.ownsRow w.heap.size 92 2 (.slice (some ⟨g, 0, none⟩) 0 cap) 0 [] ∧ n ≤ cap ∧ Below w.heap.size w w' := by
  obtain ⟨i0, hi0, hz0, hz1, hz2⟩ := info_parts infoSt
  have hr : ∀ (w1 : World) (ty : TypeId), _ := fun w1 ty => Lib.run_append_nil_zeros (P := Tryz.prog) w1 93 3 ty 92 i0 _ .i64 .i64 Tryz.underlying93 Tryz.underlying3 hi0 hz0 n h0 (by rw [hz1]; decide) (by omega) (by rw [hz2]; omega)
  have c0 : ¬ ((n : Int) < 0) := by omega
  have c1 : (n : Int) > 0 := by omega
  go_enter Tryz.func226, Tryz.ntmps226
  go_wp2_with (at_builtin; refine Lib.wpList_append_run _ rfl (.tmp 20) (.tmp 21) _ _ rfl _ _ rfl rfl _ _ (hr _ _) ?_)
  have hge := grownCap_ge w n 0 92
  refine bodyPost_ret (v := .slice (some ⟨w.heap.size, 0, none⟩) 0 (grownCap w n 0 92)) ?_ rfl ⟨_, _, rfl, World.ownsRow_made _ _ _ (Nat.le_refl _) ?_ ?_, hge, ?_⟩
  · simp [results, Tryz.results226, go_sem]
  · exact grownCap_le_maxLen w n 0 _ (by unfold maxLen; omega)
  · simp [Builtin.zeroCells]
    omega
  · exact blw_drew ((Below.refl _ _).alloc (Nat.le_refl _) _)
set_option maxRecDepth 100000 in
set_option maxHeartbeats 4000000 in
theorem concat_one (A : Option Addr) (c B g : Nat) (l : List Stp) (xs : List Value) (h0 : 0 < l.length) (hn : l.length ≤ 64) (w : World) (hx : Cells w B l xs) (hr : Reads w B 2 A l.length xs) (hB : B ≤ w.heap.size) (hg : w.cell? ⟨g, 0, none⟩ = some (.slice A l.length c)) (hgl : g < w.heap.size) :
    Calls Tryz.prog 197 #[.slice (some ⟨g, 0, none⟩) 1 1] w fun e w' => ∃ v, e = .returned v ∧ w'.ownsRow w.heap.size 92 2 v l.length xs ∧ Below w.heap.size w w' := by
  have HG := grow_nil l.length h0 (by omega)
  have h1 := hx.one
  have hxl := hx.length
  clear hx
  generalize l.length = n at *
  obtain ⟨i0, hi0, hz0, hz1, hz2⟩ := info_parts infoSt
  have hnn : ¬ ((n : Int) < 0) := by omega
  go_enter Tryz.func197, Tryz.ntmps197
  go_wp2_with fail
  go_loopw [3, 11] (fun s u wr => wr = w ∧ ((u = .int .i64 0 ∧ s = .int .i64 0) ∨ (u = .int .i64 1 ∧ s = .int .i64 n))) (fun _ u _ => 1 - (intOf u).toNat)
  case atStart => exact ⟨rfl, Or.inl ⟨rfl, rfl⟩⟩
  case round =>
    obtain ⟨rfl, ⟨rfl, rfl⟩ | ⟨rfl, rfl⟩⟩ := hrel
    · go_wp2_with fail
      go_roundw
      case rel => exact ⟨by trivial, Or.inr ⟨rfl, rfl⟩⟩
      case measure => decide
    · obtain ⟨wo, hwo⟩ : ∃ x, x = wr := ⟨_, rfl⟩
      subst hwo
      go_wp2_with (go_at_call 226; refine (HG _).mono ?_; rintro e w1 ⟨g1, cap, rfl, hown, hcap, hb1⟩)
      go_loopw [6, 27] (fun s u wx => (u = .int .i64 0 ∧ s = .slice (some ⟨g1, 0, none⟩) 0 cap ∧ wx = w1) ∨ (u = .int .i64 1 ∧ wx.ownsRow wo.heap.size 92 2 s n xs ∧ Below wo.heap.size wo wx)) (fun _ u _ => 1 - (intOf u).toNat)
      case atStart => exact Or.inl ⟨rfl, rfl, rfl⟩
      case round =>
        rcases hrel with ⟨rfl, rfl, rfl⟩ | ⟨rfl, hown2, hb2⟩
        · have hg1 := (World.cell?_of_block (hb1.block g hgl)).trans hg
          have hr1 := hr.below (hb1.mono hB)
          have hsz := hb1.size
          go_wp2_with (at_builtin; refine wpList_append_any _ rfl (.tmp 31) (.tmp 32) 93 rfl wo.heap.size 92 i0 _ 2 40 Tryz.underlying93 hi0 hz0 hz1 hz2 rfl (by omega) _ 0 [] rfl hown B A n c xs rfl hr1 h1 (by unfold maxLen; omega) (by omega) hsz ?_; intro v2 w2 hown2 hgr _)
          go_roundw
          case rel => exact Or.inr ⟨rfl, by simpa using hown2, hb1.grown hgr hsz (fun k hk => (hown.lt k hk).1)⟩
          case measure => decide
        · go_wp2_with fail
          refine bodyPost_ret (v := u6) ?_ rfl ⟨u6, rfl, hown2, hb2⟩
          simp [results, Tryz.results197, go_sem]
def Put (l : List Stp) (w : World) (e : Ending) (w' : World) : Prop := e = .returned (.tuple #[.string (leftT l), .int .i64 0]) ∧ Below w.heap.size w w'
/-- the texts of steps -/
def texts (l : List Stp) : List ByteArray := l.map stepT
theorem texts_take {l : List Stp} {i : Nat} (h : i < l.length) : texts (l.take (i + 1)) = texts (l.take i) ++ [stepT l[i]] := by
  unfold texts
  rw [List.take_succ_eq_append_getElem h, List.map_append]
  rfl
/-- how long the texts are together, with a sign behind each -/
def sizeT (l : List Stp) : Nat := (l.map fun s => (stepT s).size + 1).sum
theorem sizeT_take {l : List Stp} {i : Nat} (h : i < l.length) : sizeT (l.take (i + 1)) = sizeT (l.take i) + ((stepT l[i]).size + 1) := by
  unfold sizeT
  rw [List.take_succ_eq_append_getElem h, List.map_append, List.sum_append]
  simp
theorem sizeT_le {l : List Stp} : ∀ i, i ≤ l.length → sizeT (l.take i) ≤ sizeT l := by
  intro i hi
  unfold sizeT
  rw [← List.take_append_drop i l, List.map_append, List.sum_append]
  simp
theorem wpText {ops : Array Oper} {rest : List Oper} {o : Oper} {a : Act} {Q : Exit → Act → World → Prop} (hgd : o.guard = none) (sI xI : Operand)
    (ho : o.op = .call { callee := .builtin .append, args := #[sI, xI], argTypes := #[137, 137] })
    (base : Nat) (w0 : World) (v : Value) (l : List ByteArray) (p : ByteArray) (hs : a.eval sI = v) (hown : w0.ownsRow base 9 1 v l.length (l.map Value.string)) (hx : a.eval xI = .slice (some ⟨w0.heap.size, 0, none⟩) 1 1)
    (hl : l.length ≤ 1000000000000) (hb : base ≤ w0.heap.size)
    (h : ∀ v' w', w'.ownsRow base 9 1 v' (l ++ [p]).length ((l ++ [p]).map Value.string) → (w0.alloc (.cells #[.string p] 9)).grownBy w' v.ownBlock → wpList Tryz.prog ops Q rest (a.put o.dst v') w') :
    wpList Tryz.prog ops Q (o :: rest) a (w0.alloc (.cells #[.string p] 9)) := by
  obtain ⟨i0, hi0, hz0, hz1, hz2⟩ := info_parts infoS
  refine wpList_append_any _ hgd sI xI 137 ho base 9 i0 _ 1 16 Tryz.underlying137 hi0 hz0 hz1 hz2 rfl (by omega) v l.length (l.map Value.string) hs (hown.alloc _) (w0.heap.size + 1) _ 1 1 [.string p] hx ⟨rfl, fun _ => ⟨_, rfl, by simp, fun j u hu => ?_⟩⟩ ?_ ?_ ?_ ?_ ?_
  · have hc := (Blk.new w0 9 #[.string p]).cell j
    have he : (⟨w0.heap.size, 0, none⟩ : Addr).add j = ⟨w0.heap.size, j, none⟩ := by
      unfold Addr.add; split
      · rename_i h; rw [h]
      · simp
    rw [he, hc]; simpa using hu
  · intro u hu; simp at hu; subst hu; rfl
  · unfold maxLen; omega
  · omega
  · simp only [World.size_alloc]; omega
  · intro v' w' h1 h2 _
    refine h v' w' ?_ h2
    rw [List.map_append, List.length_append]
    exact h1
end Go.Proofs.YtjmebclcmpfdmaaGreatDoor
namespace Go.Proofs.YtjmebclcmpfdmaaGreatDoor
open Go.RowKit
open Ph
/-- steps that make a path -/
def PathOk (l : List Stp) : Prop := 0 < l.length ∧ l.length ≤ 64 ∧ sizeT l ≤ 513 ∧ ∀ s ∈ l, stepB s = true ∧ s.keys.length ≤ 100
theorem join_left (l : List Stp) : (⟨(Lib.join ((texts l).map (·.data.toList)) (⟨#[47]⟩ : ByteArray).data.toList).toArray⟩ : ByteArray) = leftT l := (left_join l).symm
theorem left_size (l : List Stp) (h : 0 < l.length) : (leftT l).size + 1 = sizeT l := by
  have key : ∀ (t : List Stp) (a : ByteArray), (t.foldl (fun a s => (a ++ ⟨#[47]⟩) ++ stepT s) a).size = a.size + sizeT t := by
    intro t
    induction t with
    | nil => intro a; simp [sizeT]
    | cons s t ih =>
      intro a
      rw [List.foldl_cons, ih]
      simp only [ByteArray.size_append, sizeT, List.map_cons, List.sum_cons]
      show a.size + 1 + _ + _ = _
      omega
  cases l with
  | nil => simp at h
  | cons s t =>
    show (t.foldl (fun a s => (a ++ ⟨#[47]⟩) ++ stepT s) (stepT s)).size + 1 = _
    rw [key]
    simp only [sizeT, List.map_cons, List.sum_cons]
    omega
theorem grown_lo {w w' : World} {row : Option Nat} {B : Nat} (hg : w.grownBy w' row) (hB : B ≤ w.heap.size) (hr : ∀ k, row = some k → B ≤ k) : Below B w w' :=
  (Below.refl B w).grown hg hB hr
theorem reads_of_own {w : World} {base e size n : Nat} {v : Value} {xs : List Value} (h : w.ownsRow base e size v n xs) : ∃ A c, v = .slice A n c ∧ Reads w w.heap.size size A n xs := by
  rcases h.2 with ⟨rfl, rfl⟩ | ⟨g, cap, cur, rfl, _⟩
  · exact ⟨none, 0, rfl, Reads.of_own h⟩
  · exact ⟨_, _, rfl, Reads.of_own h⟩
set_option maxRecDepth 100000 in
set_option maxHeartbeats 4000000 in
theorem put_one (A : Option Addr) (c B g : Nat) (l : List Stp) (hok : PathOk l) (w : World) (hS : Steps w B A l) (hB : B ≤ w.heap.size) (hg : w.cell? ⟨g, 0, none⟩ = some (.slice A l.length c)) (hgl : g < w.heap.size) :
    Calls Tryz.prog 166 #[.slice (some ⟨g, 0, none⟩) 1 1] w (Put l w) := by
  obtain ⟨h0, h64, h513, hst⟩ := hok
  obtain ⟨xs, hX, hr⟩ := hS
  have HC := concat_one A c B g l xs h0 h64 w hX hr hB hg hgl
  have c64 : (l.length : Int) ≤ 64 := by omega
  go_enter Tryz.func166, Tryz.ntmps166
  go_wp2_with (go_at_call 197; refine HC.mono ?_; rintro e w1 ⟨v, rfl, hown, hb1⟩; obtain ⟨A1, cap, rfl, hr1⟩ := reads_of_own hown)
  have hS1 : Steps w1 w1.heap.size A1 l := ⟨xs, (hX.blw (hb1.mono hB)).more (Nat.le_trans hB hb1.size), hr1⟩
  clear HC hown hX hr hg hr1
  go_loopw [20, 5, 6, 7] (fun u ok sz tx wr => ∃ i : Nat, u = .int .i64 i ∧ ok = .bool true ∧ sz = .int .i64 (sizeT (l.take i) : Nat) ∧ i ≤ l.length ∧ wr.ownsRow w1.heap.size 9 1 tx (texts (l.take i)).length ((texts (l.take i)).map Value.string) ∧ Steps wr w1.heap.size A1 l ∧ Below w1.heap.size w1 wr) (fun u _ _ _ _ => l.length - (intOf u).toNat)
  case atStart => exact ⟨0, rfl, rfl, rfl, by omega, ⟨rfl, Or.inl ⟨rfl, rfl⟩⟩, hS1, Below.refl _ _⟩
  case round =>
    clear hS1
    obtain ⟨i, rfl, rfl, rfl, hi, hown, hS, hb⟩ := hrel
    by_cases h : i < l.length
    · obtain ⟨ad, Ak, ck, hA, hab, c0, c1, hP⟩ := hS.at_ h
      obtain ⟨hs1, hs2⟩ := hst l[i] (List.getElem_mem h)
      have ht := texts_take h
      have hz := sizeT_take h
      have hzle := sizeT_le (l := l) (i + 1) (by omega)
      have hzi := sizeT_le (l := l) i (by omega)
      obtain ⟨s, hs⟩ : ∃ s, l[i] = s := ⟨_, rfl⟩
      rw [hs] at c0 c1 hP hs1 hs2 ht hz
      subst hA
      have HM := fun (w2 : World) => may_ok s hs1 hs2 Ak ck w1.heap.size w2
      have HT := fun (w2 : World) => text_ok s hs1 hs2 Ak ck w1.heap.size w2
      unfold stepV at HM HT
      have hbs := hb.size
      have P1 := hP.alloc (Nat.le_trans (Nat.le_refl _) hbs) (.cells #[.string s.name, .slice Ak s.keys.length ck] 92)
      have S1 := hS.alloc hbs (.cells #[.string s.name, .slice Ak s.keys.length ck] 92)
      have K1 := Blk.new wr 92 #[.string s.name, .slice Ak s.keys.length ck]
      have B1 := hb.alloc hbs (.cells #[.string s.name, .slice Ak s.keys.length ck] 92)
      have O1 := hown.alloc (.cells #[.string s.name, .slice Ak s.keys.length ck] 92)
      have e10 := K1.at_ 0 (v := .string s.name) rfl
      have e11 := K1.at_ 1 (v := .slice Ak s.keys.length ck) rfl
      have HM1 := HM _ P1 B1.size
      have hzz : (stepT s).size ≤ 1000 := by omega
      have hz5 : ((sizeT (l.take i) : Nat) : Int) ≤ 513 := by omega
      obtain ⟨z, hzv⟩ : ∃ z, sizeT (l.take i) = z := ⟨_, rfl⟩
      rw [hzv] at hz hz5 hzi ⊢
      obtain ⟨tt, htt⟩ : ∃ tt, stepT s = tt := ⟨_, rfl⟩
      rw [htt] at HT ht hz hzz
      have HZ := Lib.hid hz
      have HTk := Lib.hid ht
      have hll : (texts (l.take i)).length ≤ 1000000000000 := by unfold texts; rw [List.length_map, List.length_take]; omega
      obtain ⟨L, hLL⟩ : ∃ L, texts (l.take i) = L := ⟨_, rfl⟩
      rw [hLL] at O1 HTk hll
      clear hs htt hz ht hzv hzle hzi HM hP hS hb hown hLL
      go_wp2_with (go_at_call 198; refine HM1.mono ?_; rintro e w3 ⟨rfl, hb3⟩; have P3 := P1.below (hb3.mono B1.size); have S3 := S1.below (hb3.mono B1.size); have K3 := K1.below hb3 K1.lt; have B3 := B1.trans (hb3.mono B1.size); have O3 := own_below O1 hb3; have e30 := K3.at_ 0 (v := .string s.name) rfl; have e31 := K3.at_ 1 (v := .slice Ak s.keys.length ck) rfl; have HT3 := HT w3 P3 B3.size)
      clear P1 S1 K1 B1 O1 e10 e11 HM1 hb3 HT
      go_wp2_with (first | (go_at_call 199; refine HT3.mono ?_; rintro e w4 ⟨rfl, hb4⟩; have S4 := S3.below (hb4.mono B3.size); have B4 := B3.trans (hb4.mono B3.size); have O4 := own_below O3 hb4) | (at_builtin; refine wpText rfl (.tmp 39) (.tmp 41) rfl w1.heap.size w4 u7 L tt rfl O4 rfl hll B4.size ?_; intro v5 w5 O5 hg5))
      have hlk := fun k hk => (O4.lt k hk).1
      have S5 : Steps w5 w1.heap.size (some ad) l := (S4.alloc B4.size (.cells #[.string tt] 9)).below (grown_lo hg5 (by simp; exact Nat.le_succ_of_le B4.size) hlk)
      have B5 := (B4.alloc B4.size (.cells #[.string tt] 9)).grown hg5 (by simp; exact Nat.le_succ_of_le B4.size) hlk
      go_roundw
      case rel => exact ⟨i + 1, by go_num, by trivial, by rw [HZ.out]; go_num, by omega, by rw [HTk.out]; exact O5, S5, B5⟩
      case measure => simp [intOf]; omega
    · obtain rfl : i = l.length := by omega
      rw [List.take_length] at hown ⊢
      have hfin : ¬ (512 : Int) < (sizeT l : Nat) - 1 := by omega
      have hls := left_size l h0
      obtain ⟨g2, cap2, rfl, hg2, hlt2⟩ := hown.form (by unfold texts; rw [List.length_map]; exact h0)
      have hcap2 : (texts l).length ≤ cap2 := by
        rcases hown.2 with ⟨e, _⟩ | ⟨g', cap', cur, e, _, _, hle, _⟩
        · cases e
        · cases e; exact hle
      have hcj : ∀ (j : Nat) x, (texts l)[j]? = some x → wr.cell? ⟨g2, 0 + j, none⟩ = some (.string x) := fun j x hx => by
        have := hown.cells (g := g2) rfl j (.string x) (by rw [List.getElem?_map, hx]; rfl)
        rw [Nat.zero_add]
        have he : (⟨g2, 0, none⟩ : Addr).add j = ⟨g2, j, none⟩ := by
          unfold Addr.add; split
          · rename_i h; rw [h]
          · simp
        rw [← he]
        exact this
      have hjl : (Lib.join ((texts l).map (·.data.toList)) (⟨#[47]⟩ : ByteArray).data.toList).length ≤ 140737488355328 := by
        have h1 := congrArg ByteArray.size (join_left l)
        have h2 : (⟨(Lib.join ((texts l).map (·.data.toList)) (⟨#[47]⟩ : ByteArray).data.toList).toArray⟩ : ByteArray).size = (Lib.join ((texts l).map (·.data.toList)) (⟨#[47]⟩ : ByteArray).data.toList).length := by
          show (Lib.join ((texts l).map (·.data.toList)) (⟨#[47]⟩ : ByteArray).data.toList).toArray.size = _
          simp
        omega
      have HJ := Tryz.strings_Join g2 0 cap2 (texts l) ⟨#[47]⟩ wr (fun j x hx => hcj j x hx) hlt2 (by unfold texts; rw [List.length_map]; omega) hcap2 hjl
      rw [join_left] at HJ
      go_wp2_with (go_at_call 84; refine HJ.mono ?_; rintro e w5 ⟨rfl, hb5⟩)
      refine bodyPost_ret (v := .tuple #[.string (leftT l), .int .i64 0]) ?_ rfl ⟨rfl, hb1.trans ((hb.trans (hb5.mono hb.size)).mono hb1.size)⟩
      simp [results, Tryz.results166, go_sem]
theorem Print_ok (A : Option Addr) (c B : Nat) (l : List Stp) (hok : PathOk l) (w : World) (hS : Steps w B A l) (hB : B ≤ w.heap.size) :
    Calls Tryz.prog 125 #[.slice A l.length c] w (Put l w) := by
  have K := Blk.new w 93 #[.slice A l.length c]
  have HP := put_one A c B w.heap.size l hok (w.alloc (.cells #[.slice A l.length c] 93)) (hS.alloc hB _) (by simp; omega) (K.at_ 0 rfl) (by simp)
  have hB1 := (Below.refl w.heap.size w).alloc (Nat.le_refl _) (.cells #[.slice A l.length c] 93)
  go_enter Tryz.func125, Tryz.ntmps125
  go_wp2_with (go_at_call 166; refine HP.mono ?_; rintro e w1 ⟨rfl, hb1⟩)
  refine bodyPost_ret (v := .tuple #[.string (leftT l), .int .i64 0]) ?_ rfl ⟨rfl, hB1.trans (hb1.mono hB1.size)⟩
  simp [results, Tryz.results125, go_sem]
end Go.Proofs.YtjmebclcmpfdmaaGreatDoor
