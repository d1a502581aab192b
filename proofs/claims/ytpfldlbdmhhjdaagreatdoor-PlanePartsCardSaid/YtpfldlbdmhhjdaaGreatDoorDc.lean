/-
  Contract of dec.plus: the sum of two rows of digits of one length. Conditions: sizes.
-/
import Derived.Test.YtpfldlbdmhhjdaaGreatDoorDb
import Derived.LoopN
import Derived.Deep.OwnRows
import Derived.Deep.RegionHeld3
import Derived.Laws.OwnMore
set_option linter.unusedVariables false
namespace Go.Proofs.YtpfldlbdmhhjdaaGreatDoor
open Go.RowKit Go.Fl Go.Sort
/-- what stands in the sum's cells when so many digits are told -/
def Told (P : List Nat) (n k g : Nat) (w : World) : Prop :=
  ∀ j, j ≤ n → w.cell? ⟨g, j, none⟩ = some (.int .u8 (if n < j + k then 48 + (P.getD (n - j) 0 : Int) else 0)) ∧ w.frozen? ⟨g, j, none⟩ = false
theorem Told.set {P : List Nat} {n k g : Nat} {w : World} (h : Told P n k g w) (hk : k ≤ n) {d : Int} (hd : d = 48 + (P.getD k 0 : Int)) : Told P n (k + 1) g (w.setCell ⟨g, n - k, none⟩ (.int .u8 d)) := fun j hj => by
  obtain ⟨a, b⟩ := h j hj
  obtain ⟨a0, _⟩ := h (n - k) (by omega)
  refine ⟨?_, by rw [World.frozen?_setCell]; exact b⟩
  rcases Nat.lt_trichotomy j (n - k) with c | c | c
  · rw [World.cell?_setCell_other _ _ _ _ (fun e => by cases e; omega), a, if_neg (by omega), if_neg (by omega)]
  · subst c
    rw [World.cell?_setCell_same _ _ _ a0, if_pos (by omega), hd, show n - (n - k) = k by omega]
  · rw [World.cell?_setCell_other _ _ _ _ (fun e => by cases e; omega), a, if_pos (by omega), if_pos (by omega)]
theorem Told.drewN {P : List Nat} {n k g : Nat} {w : World} (h : Told P n k g w) (d : Nat) : Told P n k g (w.drewN d) := fun j hj => by
  obtain ⟨a, b⟩ := h j hj
  exact ⟨by rw [World.cell?_drewN]; exact a, by rw [World.frozen?_drewN]; exact b⟩
theorem txt_get (l : List Nat) {i : Nat} (h : i < l.length) : (txt l)[l.length - 1 - i]'(by rw [txt_len]; omega) = chr l[i] := by
  unfold txt
  rw [List.getElem_map, List.getElem_reverse]
  congr 2
  omega
/-- a row's digit at its place in memory -/
theorem RowAt.digit {w : World} {ad : Addr} {l : List Nat} (h : RowAt w ad (txt l)) (hd : Dig l) {k : Nat} (hk : k < l.length) : w.cell? (ad.add (l.length - 1 - k)) = some (.int .u8 (48 + (l[k] : Int))) := by
  rw [h (l.length - 1 - k) (by rw [txt_len]; omega), txt_get l hk, chr_nat (hd _ (List.getElem_mem hk))]
  simp
/-- the sum's text, out of its cells -/
theorem txt_cells {P : List Nat} {n g : Nat} {w : World} (h : Told P n (n + 1) g w) (hP : Dig P) (hl : P.length = n + 1) : ∀ j (hj : j < (txt P).length), w.cell? ((⟨g, 0, none⟩ : Addr).add j) = some (.int .u8 ((txt P)[j].toNat : Int)) := fun j hj => by
  have hj2 : j < n + 1 := by rw [txt_len, hl] at hj; exact hj
  rw [Lib.add_plain, Nat.zero_add, (h j (by omega)).1, if_pos (by omega)]
  have hk : n - j < P.length := by omega
  have e := txt_get P hk
  have e2 : (txt P)[j] = chr P[n - j] := by
    rw [← e]
    congr 1
    omega
  rw [e2, chr_nat (hP _ (List.getElem_mem hk)), List.getD_eq_getElem?_getD, List.getElem?_eq_getElem hk]
  simp
theorem infoB : (Tryz.prog.info? 5).map (fun i => (i.zero, i.size, i.bytes)) = some (some (.int .u8 0), 1, 1) := by kernel_rfl
theorem make_bytes (n : Nat) (hn : n ≤ 200000) (W : World) : (Instr.makeSlice 67 (.int .i64 (n : Int)) (.int .i64 (n : Int))).run Tryz.prog W = .ok (.slice (some ⟨W.heap.size, 0, none⟩) n n) (W.alloc (.cells (madeCells #[.int .u8 0] n) 5)) := by
  obtain ⟨i, hi, hz, hs, hb⟩ := info_parts infoB
  have h := run_make (P := Tryz.prog) (w := W) 67 5 i (.int .u8 0) Tryz.underlying67 hi hz .i64 .i64 n n (by omega) (by omega) (by rw [hb]; omega) (by omega)
  rw [hs, Nat.mul_one, Int.toNat_natCast] at h
  exact h
theorem Told.start (P : List Nat) (n : Nat) (W : World) : Told P n 0 W.heap.size (W.alloc (.cells (madeCells #[.int .u8 0] (n + 1)) 5)) := fun j hj => by
  have h := World.rowIs_made W (.int .u8 0) (n + 1) 5
  rw [if_neg (by omega)]
  exact ⟨h.cell (by omega), h.frozen j⟩
theorem blw_drewN {B : Nat} {a w : World} (h : Below B a w) (k : Nat) : Below B a (w.drewN k) := ⟨h.os, h.tape, h.output, h.size, h.block⟩
theorem u8_wrap (x : Int) (h0 : 0 ≤ x) (h1 : x < 256) : IntKind.u8.wrap x = x := IntWalk.u8_in _ (by omega)
set_option maxRecDepth 100000 in
set_option maxHeartbeats 4000000 in
theorem plus_any (a b : Addr) (l m : List Nat) (ca cb : Nat) (hlen : l.length = m.length) (hn0 : 0 < l.length) (hn : l.length ≤ 100000) (hl : Dig l) (hm : Dig m) (w : World) (ra : RowAt w a (txt l)) (rb : RowAt w b (txt m)) (ba : a.block < w.heap.size) (bb : b.block < w.heap.size) :
    Calls Tryz.prog 27 #[.slice (some a) l.length ca, .slice (some b) m.length cb] w fun e w' => e = .returned (.string ⟨(txt (plusL l m 0)).toArray⟩) ∧ Below w.heap.size w w' := by
  rw [← hlen]
  obtain ⟨n, hN⟩ : ∃ n, l.length = n := ⟨_, rfl⟩
  rw [hN] at hn0 hn ⊢
  have hM : m.length = n := by omega
  have hPl : (plusL l m 0).length = n + 1 := by rw [plusL_len l m 0 hlen, hN]
  have hPd : Dig (plusL l m 0) := plusL_dig l m 0 hl hm (by decide)
  have hmk : ∀ W : World, (Instr.makeSlice 67 (.int .i64 ((n : Int) + 1)) (.int .i64 ((n : Int) + 1))).run Tryz.prog W = .ok (.slice (some ⟨W.heap.size, 0, none⟩) (n + 1) (n + 1)) (W.alloc (.cells (madeCells #[.int .u8 0] (n + 1)) 5)) := fun W => make_bytes (n + 1) (by omega) W
  have hT0 := Told.start (plusL l m 0) n w
  have hB0 := (Below.refl w.heap.size w).alloc (Nat.le_refl _) (.cells (madeCells #[.int .u8 0] (n + 1)) 5)
  generalize hW0 : w.alloc (.cells (madeCells #[.int .u8 0] (n + 1)) 5) = W0 at hT0 hB0
  have hmk0 := hmk w
  rw [hW0] at hmk0
  clear hmk hW0
  go_enter Tryz.func27, Tryz.ntmps27
  go_wp2_with fail
  go_loopw [6, 7] (fun u v wr => ∃ (k : Nat) (q : Int), k ≤ n ∧ u = .int .u8 (carry l m 0 k) ∧ v = .int .i64 q ∧ q = (n : Int) - 1 - k ∧ Told (plusL l m 0) n k w.heap.size wr ∧ Below w.heap.size w wr) (fun _ v _ => (intOf v + 1).toNat)
  case atStart => exact ⟨0, _, by omega, by rw [carry_zero]; rfl, rfl, by omega, hT0, hB0⟩
  case round =>
    clear hT0 hB0
    obtain ⟨k, q, hk, rfl, rfl, hq, hT, hb⟩ := hrel
    have hc1 := carry_le l m 0 k hl hm (by decide)
    by_cases hlt : k < n
    · obtain ⟨i, hi⟩ : ∃ i : Nat, i = n - 1 - k := ⟨_, rfl⟩
      obtain rfl : q = (i : Int) := by omega
      have hkl : k < l.length := by omega
      have hkm : k < m.length := by omega
      have c1 : wr.cell? (a.add i) = some (.int .u8 (48 + (l[k] : Int))) := by
        rw [hi, ← hN]; exact (ra.below hb ba).digit hl hkl
      have c2 : wr.cell? (b.add i) = some (.int .u8 (48 + (m[k] : Int))) := by
        rw [hi, ← hM]; exact (rb.below hb bb).digit hm hkm
      have d1 := dig_get hl hkl
      have d2 := dig_get hm hkm
      have hcs := carry_succ l m 0 k hkl hkm
      have hpg : (plusL l m 0).getD k 0 = (l[k] + m[k] + carry l m 0 k) % 10 := by
        rw [List.getD_eq_getElem?_getD, plusL_get l m 0 k hkl hkm]; rfl
      generalize l[k] = x at *
      generalize m[k] = y at *
      generalize carry l m 0 k = c at *
      obtain ⟨xa, hxa⟩ : ∃ xa : Int, xa = 48 + (x : Int) := ⟨_, rfl⟩
      obtain ⟨yb, hyb⟩ : ∃ yb : Int, yb = 48 + (y : Int) := ⟨_, rfl⟩
      rw [← hxa] at c1
      rw [← hyb] at c2
      have w1 : IntKind.u8.wrap (xa - 48) = (x : Int) := by rw [u8_wrap _ (by omega) (by omega)]; omega
      have w2 : IntKind.u8.wrap ((x : Int) + yb) = (x : Int) + yb := u8_wrap _ (by omega) (by omega)
      have w3 : IntKind.u8.wrap ((x : Int) + yb - 48) = ((x + y : Nat) : Int) := by rw [u8_wrap _ (by omega) (by omega)]; omega
      have w4 : IntKind.u8.wrap (((x + y : Nat) : Int) + (c : Int)) = ((x + y + c : Nat) : Int) := by rw [u8_wrap _ (by omega) (by omega)]; omega
      have hcs' : carry l m 0 (k + 1) = (x + y + c) / 10 := hcs
      have hz19 : x + y + c ≤ 19 := by omega
      generalize x + y = xy at *
      generalize xy + c = z at *
      have h0i : (0 : Int) ≤ (i : Int) := by omega
      have hin : (i : Int) < (n : Int) := by omega
      have hin2 : i < n := by omega
      have hni : n - k = i + 1 := by omega
      have hTs : ∀ d, Told (plusL l m 0) n (k + 1) w.heap.size ((wr.drewN d).setCell ⟨w.heap.size, i + 1, none⟩ (.int .u8 (48 + (z : Int) % 10))) := fun d => by
        rw [← hni]
        exact (hT.drewN d).set (by omega) (by rw [hpg]; simp)
      obtain ⟨s0, f0⟩ := hT (i + 1) (by omega)
      rw [if_neg (by omega)] at s0
      have HI := Lib.hid hi
      have HTS := Lib.hid hTs
      have HCS := Lib.hid hcs'
      have w5 : IntKind.u8.wrap (48 + (z : Int) % 10) = 48 + (z : Int) % 10 := u8_wrap _ (by omega) (by omega)
      have HB := Lib.hid (show (k + 1 : Nat) ≤ n ∧ ((i : Int) - 1 = (n : Int) - 1 - ((k + 1 : Nat) : Int)) by omega)
      clear hq hi hTs hcs hcs' hpg hxa hyb hni hT hkl hkm d1 d2 hc1
      go_wp2_with fail
      go_quiet (fail)
      go_wp2_with fail
      go_roundw
      case rel => exact ⟨k + 1, _, HB.out.1, by rw [HCS.out]; simp, rfl, HB.out.2, HTS.out _, (blw_drewN hb _).setCell (by simp) _⟩
      case measure => simp [intOf]
    · obtain rfl : k = n := by omega
      obtain rfl : q = -1 := by omega
      have hpl : (plusL l m 0).getD k 0 = carry l m 0 k := by
        have := plusL_last l m 0 hlen
        rw [hN] at this
        rw [List.getD_eq_getElem?_getD, this]; rfl
      generalize carry l m 0 k = c at *
      obtain ⟨s0, f0⟩ := hT 0 (by omega)
      rw [if_neg (by omega)] at s0
      have w5 : IntKind.u8.wrap (48 + (c : Int)) = 48 + (c : Int) := u8_wrap _ (by omega) (by omega)
      have hTs := hT.set (d := 48 + (c : Int)) (Nat.le_refl _) (by rw [hpl])
      rw [Nat.sub_self] at hTs
      have hcv := run_convert_bytes_back (P := Tryz.prog) (wr.setCell ⟨w.heap.size, 0, none⟩ (.int .u8 (48 + (c : Int)))) 67 9 5 ⟨w.heap.size, 0, none⟩ (k + 1) (txt (plusL l m 0)) Tryz.underlying67 Tryz.underlying5 Tryz.underlying9 (txt_cells hTs hPd hPl)
      rw [txt_len, hPl] at hcv
      have hbe := hb.setCell (p := ⟨w.heap.size, 0, none⟩) (by simp) (.int .u8 (48 + (c : Int)))
      generalize hr : (⟨(txt (plusL l m 0)).toArray⟩ : ByteArray) = r at *
      clear hT hTs hpl hPl hPd hq hlt hc1
      go_wp2_with fail
      refine bodyPost_ret (v := .string r) ?_ rfl ⟨by rw [hr], hbe⟩
      simp [results, Tryz.results27, go_sem]
end Go.Proofs.YtpfldlbdmhhjdaaGreatDoor
