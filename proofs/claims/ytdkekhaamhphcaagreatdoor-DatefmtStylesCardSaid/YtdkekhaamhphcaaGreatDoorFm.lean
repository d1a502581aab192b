/-
  The one form of a skeleton's fields: form, Skeleton, and the reference's Print. Condition: the slice reads as a skeleton's fields.
-/
import Derived.Test.YtdkekhaamhphcaaGreatDoorSn
import Derived.Test.YtdkekhaamhphcaaGreatDoorH
set_option linter.unusedVariables false
set_option linter.unusedSimpArgs false
namespace Go.Proofs.YtdkekhaamhphcaaGreatDoor
open Go.RowKit
theorem enc_ascii : ∀ n : Nat, n < 128 → Utf8.encode (n : Int) = ⟨#[UInt8.ofNat n]⟩ := by
  have : ∀ n : Nat, n < 128 → (Utf8.encode (n : Int)).data.toList = [UInt8.ofNat n] := by decide +kernel
  intro n hn
  apply ByteArray.ext
  apply Array.toList_inj.1
  exact this n hn
theorem rep_list (b : UInt8) : ∀ n, Lib.repeatL [b] n = List.replicate n b
  | 0 => rfl
  | n + 1 => by rw [Lib.repeatL, rep_list b n, List.replicate_succ]; rfl
theorem cells_push (a b : ByteArray) : Lib.strCells a ++ Lib.strCells b = Lib.strCells (a ++ b) := by
  simp [Lib.strCells, ByteArray.data_append]
theorem fresh_isBuilderF (w : World) : Lib.IsBuilderF 99 5 w.heap.size w.heap.size [] (w.alloc (.cells #[.pointer none, .slice none 0 0] 99)) := Or.inl (Lib.BuilderAtF.of (by
  rcases Lib.fresh_isBuilder 99 5 w with h | h
  · exact h
  · exfalso
    have h0 := h.cell0
    have h1 := (Blk.new w 99 #[.pointer none, .slice none 0 0]).at_ 0 (v := .pointer none) rfl
    rw [h1] at h0
    cases h0))
theorem bldAt_below {T e : TypeId} {B b : Nat} {p : Value} {bs : List Value} {W W' : World} (h : Lib.BuilderAtF T e B b p bs W) (hb : Below W.heap.size W W') : Lib.BuilderAtF T e B b p bs W' := by
  have hlt := h.lt
  obtain ⟨hB, v, hv, hown, hne⟩ := h
  exact ⟨hB, v, (hb.block b hlt).trans hv, hown.kept (row := none) ⟨hb.os, hb.tape, hb.output, hb.size, fun k hk _ => hb.block k hk⟩ (Classical.em _), hne⟩
theorem bld_below {T e : TypeId} {B b : Nat} {bs : List Value} {W W' : World} (h : Lib.IsBuilderF T e B b bs W) (hb : Below W.heap.size W W') : Lib.IsBuilderF T e B b bs W' :=
  h.elim (fun x => .inl (bldAt_below x hb)) (fun x => .inr (bldAt_below x hb))
theorem form_size {l : List Fd} (h : SkOk l) : ∀ i, i ≤ l.length → (formT (l.take i)).size ≤ 9 * i
  | 0, _ => Nat.le_refl 0
  | i + 1, hi => by
    have hl : i < l.length := by omega
    rw [formT_take hl, ByteArray.size_append, repB_size]
    have := form_size h i (by omega)
    have h2 := (h l[i] (List.getElem_mem hl)).2.1
    omega
set_option maxRecDepth 100000 in
set_option maxHeartbeats 4000000 in
theorem form_any (A : Option Addr) (l : List Fd) (c B : Nat) (hok : SkOk l) (hn : l.length ≤ 13) (w : World) (hL : Flds w B A l) (hB : B ≤ w.heap.size) :
    Calls Tryz.prog 40 #[.slice A l.length c] w fun e w' => e = .returned (.string (formT l)) ∧ Below w.heap.size w w' := by
  go_enter Tryz.func40, Tryz.ntmps40
  go_wp2_with fail
  go_loopw [8] (fun u wr => ∃ i : Nat, u = .int .i64 i ∧ i ≤ l.length ∧ Flds wr B A l ∧ Lib.IsBuilderF 99 5 w.heap.size w.heap.size (Lib.strCells (formT (l.take i))) wr ∧ Below w.heap.size w wr) (fun u _ => l.length - (intOf u).toNat)
  case atStart => exact ⟨0, rfl, by omega, hL.alloc hB _, fresh_isBuilderF w, (Below.refl _ _).alloc (Nat.le_refl _) _⟩
  case round =>
    obtain ⟨i, rfl, hi, hL, hIs, hb⟩ := hrel
    by_cases h : i < l.length
    · obtain ⟨ad, rfl, b0, c0, c1, c2⟩ := hL.fd h
      obtain ⟨hk1, hk2, hk3⟩ := hok l[i] (List.getElem_mem h)
      rw [hk3] at c2
      have hft := formT_take h
      have hfs := form_size hok i hi
      obtain ⟨acc, hacc⟩ : ∃ acc, formT (l.take i) = acc := ⟨_, rfl⟩
      rw [hacc] at hft hfs hIs
      obtain ⟨n, hn2⟩ : ∃ n : Nat, l[i].n = n := ⟨l[i].n.toNat, by omega⟩
      have HFT := Lib.hid hft
      clear hft hacc
      obtain ⟨x, hx⟩ : ∃ x, l[i] = x := ⟨_, rfl⟩
      rw [hx] at HFT hk1 hk2 hk3 c0 c1 hn2
      rw [hn2] at c1 hk2
      have HN2 := Lib.hid hn2
      have HX := Lib.hid hx
      clear hx hn2 hk3
      have hL1 := hL.alloc (Nat.le_trans hB hb.size) (.cells #[.int .u8 x.b.toNat, .int .i64 n, .string ⟨#[]⟩] 64)
      have hI1 := hIs.alloc (.cells #[.int .u8 x.b.toNat, .int .i64 n, .string ⟨#[]⟩] 64)
      have hbb := hb.alloc hb.size (.cells #[.int .u8 x.b.toNat, .int .i64 n, .string ⟨#[]⟩] 64)
      have hcv : ∀ w1 : World, (convert 5 9 (.int .u8 x.b.toNat)).run Tryz.prog w1 = .ok (.string ⟨#[x.b]⟩) w1 := fun w1 => by
        rw [run_convert_int_string w1 5 9 .u8 x.b.toNat (by rw [Tryz.underlying5]; rfl) Tryz.underlying9, enc_ascii _ (by omega), UInt8.ofNat_toNat]
      have HRp := fun w1 : World => Tryz.strings_Repeat ⟨#[x.b]⟩ n w1 (by omega) (by show 1 * n ≤ _; omega)
      rw [show (⟨#[x.b]⟩ : ByteArray).data.toList = [x.b] from rfl, rep_list] at HRp
      have n9 := hbb.size
      go_wp2_with fail
      refine (HRp _).mono ?_
      rintro e w1 ⟨rfl, hb1⟩
      have hI2 := bld_below hI1 hb1
      have HW := Tryz.WriteStringK w.heap.size w.heap.size (Lib.strCells acc) (repB x.b n) _ hI2 (by rw [Lib.strCells_length, repB_size]; omega) (Nat.le_trans n9 hb1.size)
      rw [cells_push] at HW
      go_wp2_with fail
      refine HW.mono ?_
      rintro e w2 ⟨rfl, hI3, hb2, hk9⟩
      go_wp2_with fail
      go_roundw
      case rel => exact ⟨i + 1, by go_num, by omega, (hL1.below (hb1.mono (Nat.le_trans hB n9))).below (hb2.mono hB), by rw [HFT.out, HN2.out]; exact Or.inr hI3, (hbb.trans (hb1.mono n9)).trans hb2⟩
      case measure => simp [intOf]; omega
    · have hi2 : i = l.length := by omega
      subst hi2
      rw [List.take_length] at hIs
      have HS := Tryz.Builder_String_any_k w.heap.size w.heap.size (formT l).data.toList _ hIs hb.size
      go_wp2_with (go_at_call 52; refine HS.mono ?_; rintro e w2 ⟨rfl, _, hb2, _⟩)
      refine bodyPost_ret (v := .string (formT l)) ?_ rfl ⟨rfl, hb.trans hb2⟩
      simp [results, Tryz.results40, go_sem]
/-- what is wrong with a skeleton -/
def SkWrong (s : ByteArray) (a b : Int) : Prop := (s.size ≤ 64 ∧ ∃ j : Nat, skelR s = .inl j ∧ a = 272 ∧ b = j) ∨ (64 < s.size ∧ a = 3 ∧ b = 0)
def SkFine (s : ByteArray) (l : List Fd) : Prop := s.size ≤ 64 ∧ skelR s = .inr l
theorem sk_or (s : ByteArray) : (∃ l, SkFine s l) ∨ ∃ a b, SkWrong s a b := by
  by_cases h : s.size ≤ 64
  · cases hR : skelR s with
    | inl j => exact Or.inr ⟨272, j, Or.inl ⟨h, j, hR, rfl, rfl⟩⟩
    | inr l => exact Or.inl ⟨l, h, hR⟩
  · exact Or.inr ⟨3, 0, Or.inr ⟨by omega, rfl, rfl⟩⟩
theorem SkWrong.ne {s : ByteArray} {a b : Int} (h : SkWrong s a b) : (a != 0) = true := by
  rcases h with ⟨_, j, _, rfl, _⟩ | ⟨_, rfl, _⟩ <;> rfl
theorem skelP_yes {s : ByteArray} {l : List Fd} (h : SkFine s l) {w : World} {e : Ending} {w' : World} (hp : SkelP s w e w') : ∃ v, e = .returned (.tuple #[v, .agg #[.int .i64 0, .int .i64 0]]) ∧ w'.ownsRow w.heap.size 64 3 v l.length (fcells l) ∧ Below w.heap.size w w' := by
  obtain ⟨h1, h2⟩ := h
  rcases hp with ⟨l', v, g1, g2, g3⟩ | ⟨j, g1, g2, g3⟩ | ⟨g1, g2⟩
  · rw [h2] at g2
    obtain rfl := Sum.inr.inj g2
    exact ⟨v, g3⟩
  · rw [h2] at g2; cases g2
  · omega
theorem skelP_wrong {s : ByteArray} {a b : Int} (h : SkWrong s a b) {w : World} {e : Ending} {w' : World} (hp : SkelP s w e w') : e = .returned (.tuple #[.slice none 0 0, .agg #[.int .i64 a, .int .i64 b]]) ∧ Below w.heap.size w w' := by
  rcases hp with ⟨l', v, g1, g2, g3⟩ | ⟨j, g1, g2, g3⟩ | ⟨g1, g2⟩ <;> rcases h with ⟨h1, k, h2, rfl, rfl⟩ | ⟨h1, rfl, rfl⟩
  · rw [h2] at g2; cases g2
  · omega
  · rw [h2] at g2
    obtain rfl := Sum.inl.inj g2
    exact g3
  · omega
  · omega
  · exact g2
set_option maxRecDepth 100000 in
set_option maxHeartbeats 4000000 in
theorem Skeleton_yes (s : ByteArray) (hs : s.size ≤ 281474976710656) (l : List Fd) (hf : SkFine s l) (w : World) : Calls Tryz.prog 15 #[.string s] w fun e w' => e = .returned (.tuple #[.string (formT l), sp 0 0]) ∧ Below w.heap.size w w' := by
  have hok := skelR_ok hf.2
  have HS : ∀ w1, Calls Tryz.prog 39 #[.string s] w1 _ := fun w1 => (skel_any s hs w1).mono fun e w2 hp => skelP_yes hf hp
  clear hf
  have P0 := Blk.new w 35 #[.int .i64 0, .int .i64 0]
  have B0 := (Below.refl w.heap.size w).alloc (Nat.le_refl _) (.cells #[.int .i64 0, .int .i64 0] 35)
  go_enter Tryz.func15, Tryz.ntmps15
  go_wp2_with (go_at_call 39; refine (HS _).mono ?_; rintro e w1 ⟨v, rfl, hown, hb1⟩; obtain ⟨A, c, rfl, hL⟩ := Flds.of_own hown; have P1 := P0.below hb1 P0.lt; have B1 := B0.trans (hb1.mono B0.size))
  have P2 := Blk.drew (P1.alloc (.cells #[.int .i64 0, .int .i64 0] 35))
  have S2 := Blk.drew (Blk.new w1 35 #[.int .i64 0, .int .i64 0])
  have B2 := blw_drew (B1.alloc B1.size (.cells #[.int .i64 0, .int .i64 0] 35))
  have s0 := S2.at_ 0 (v := .int .i64 0) rfl
  have s1 := S2.at_ 1 (v := .int .i64 0) rfl
  have f0 := P2.frozen
  have q0 := P2.at_ 0 (v := .int .i64 0) rfl
  have q1 := P2.at_ 1 (v := .int .i64 0) rfl
  have HF := form_any A l c w1.heap.size hok.1 hok.2 (w1.alloc (.cells #[.int .i64 0, .int .i64 0] 35)).drew (hL.alloc (Nat.le_refl _) _) (by simp)
  clear P1 P0 B0 B1 hb1
  go_region_with (go_at_call 40; refine HF.mono ?_; rintro e w3 ⟨rfl, hb3⟩; have P3 := P2.below hb3 P2.lt; have S3 := S2.below hb3 S2.lt; have t0 := S3.at_ 0 (v := .int .i64 0) rfl; have t1 := S3.at_ 1 (v := .int .i64 0) rfl; have p30 := P3.at_ 0 (v := .int .i64 0) rfl; have p31 := P3.at_ 1 (v := .int .i64 0) rfl; have f3 := P3.frozen; have B3 := B2.trans (hb3.mono B2.size))
  all_goals
    have P4 := (P3.set_ 0 (.int .i64 0)).set_ 1 (.int .i64 0)
    have B4 := (B3.setCell (p := ⟨w.heap.size, 0, none⟩) (Nat.le_refl _) (.int .i64 0)).setCell (p := ⟨w.heap.size, 1, none⟩) (Nat.le_refl _) (.int .i64 0)
    clear B3 P3 S3 t0 t1 f3 p30 p31
    generalize World.setCell _ ⟨w.heap.size, 1, none⟩ _ = w9 at *
    have p0 := P4.at_ 0 (v := .int .i64 0) rfl
    have p1 := P4.at_ 1 (v := .int .i64 0) rfl
    go_wp2_with fail
    refine bodyPost_ret (v := .tuple #[.string (formT l), sp 0 0]) ?_ rfl ⟨rfl, B4⟩
    simp [sp, results, Tryz.results15, go_sem, p0, p1]
set_option maxRecDepth 100000 in
set_option maxHeartbeats 4000000 in
theorem Skeleton_wrong (s : ByteArray) (hs : s.size ≤ 281474976710656) (a b : Int) (hf : SkWrong s a b) (w : World) : Calls Tryz.prog 15 #[.string s] w fun e w' => e = .returned (.tuple #[.string ⟨#[]⟩, sp a b]) ∧ Below w.heap.size w w' := by
  have HS : ∀ w1, Calls Tryz.prog 39 #[.string s] w1 _ := fun w1 => (skel_any s hs w1).mono fun e w2 hp => skelP_wrong hf hp
  have HE := fun (w1 : World) => form_any none [] 0 0 (fun x hx => by cases hx) (by simp) w1 (Flds.nil _ _ _) (Nat.zero_le _)
  rw [show formT [] = ⟨#[]⟩ from rfl, show ([] : List Fd).length = 0 from rfl] at HE
  clear hf
  have P0 := Blk.new w 35 #[.int .i64 0, .int .i64 0]
  have B0 := (Below.refl w.heap.size w).alloc (Nat.le_refl _) (.cells #[.int .i64 0, .int .i64 0] 35)
  go_enter Tryz.func15, Tryz.ntmps15
  go_wp2_with (go_at_call 39; refine (HS _).mono ?_; rintro e w1 ⟨rfl, hb1⟩; have P1 := P0.below hb1 P0.lt; have B1 := B0.trans (hb1.mono B0.size))
  have P2 := Blk.drew (P1.alloc (.cells #[.int .i64 a, .int .i64 b] 35))
  have S2 := Blk.drew (Blk.new w1 35 #[.int .i64 a, .int .i64 b])
  have B2 := blw_drew (B1.alloc B1.size (.cells #[.int .i64 a, .int .i64 b] 35))
  have s0 := S2.at_ 0 (v := .int .i64 a) rfl
  have s1 := S2.at_ 1 (v := .int .i64 b) rfl
  have f0 := P2.frozen
  have q0 := P2.at_ 0 (v := .int .i64 0) rfl
  have q1 := P2.at_ 1 (v := .int .i64 0) rfl
  clear P1 P0 B0 B1 hb1
  go_region_with (go_at_call 40; refine (HE _).mono ?_; rintro e w3 ⟨rfl, hb3⟩; have P3 := P2.below hb3 P2.lt; have S3 := S2.below hb3 S2.lt; have t0 := S3.at_ 0 (v := .int .i64 a) rfl; have t1 := S3.at_ 1 (v := .int .i64 b) rfl; have p30 := P3.at_ 0 (v := .int .i64 0) rfl; have p31 := P3.at_ 1 (v := .int .i64 0) rfl; have f3 := P3.frozen; have B3 := B2.trans (hb3.mono B2.size))
  all_goals
    have P4 := (P3.set_ 0 (.int .i64 a)).set_ 1 (.int .i64 b)
    have B4 := (B3.setCell (p := ⟨w.heap.size, 0, none⟩) (Nat.le_refl _) (.int .i64 a)).setCell (p := ⟨w.heap.size, 1, none⟩) (Nat.le_refl _) (.int .i64 b)
    clear B3 P3 S3 t0 t1 f3 p30 p31
    generalize World.setCell _ ⟨w.heap.size, 1, none⟩ _ = w9 at *
    have p0 := P4.at_ 0 (v := .int .i64 a) rfl
    have p1 := P4.at_ 1 (v := .int .i64 b) rfl
    go_wp2_with fail
    refine bodyPost_ret (v := .tuple #[.string ⟨#[]⟩, sp a b]) ?_ rfl ⟨rfl, B4⟩
    simp [sp, results, Tryz.results15, go_sem, p0, p1]
end Go.Proofs.YtdkekhaamhphcaaGreatDoor
