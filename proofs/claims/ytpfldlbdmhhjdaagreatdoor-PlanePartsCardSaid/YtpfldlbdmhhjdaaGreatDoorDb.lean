/-
  Contracts of strconv.FormatUint at base 10, of bits as a row of digits: dec.plus. Conditions: sizes; the table of powers of ten.
-/
import Derived.Test.YtpfldlbdmhhjdaaGreatDoorDa
import Derived.Test.YtpfldlbdmhhjdaaGreatDoorShelf
import Derived.Lib.ItoaMem
import Derived.Lib.ConvBytes
set_option linter.unusedVariables false
namespace Go.Proofs.YtpfldlbdmhhjdaaGreatDoor
open Go.RowKit Go.Fl Go.Sort
theorem holds_zero0 (w : World) (T : TypeId) (nd : Nat) (hs : nd ≤ 24) : Holds (fun (b : UInt8) => Value.int .u8 (b.toNat : Int)) (w.alloc (.cells Lib.zeros24 T)) w.heap.size 0 (Array.replicate nd (0 : UInt8)) := fun j hj => by
  have hj' : j < nd := by simpa using hj
  refine ⟨?_, World.frozen?_alloc_new _ _ _ _⟩
  rw [World.cell?_alloc_new, Lib.zeros24_at _ (by omega), getElem!_pos _ j hj]
  simp
theorem fin_pos0 (w : World) (o : Obj) (dk : Array UInt8) (k : Nat) : Below w.heap.size w ((putRow (fun (b : UInt8) => Value.int .u8 (b.toNat : Int)) (w.alloc o) w.heap.size 0 dk).drewN k) := by
  rw [alloc_eq_grow]
  obtain ⟨os', _, e⟩ := putRow_grow_new (fun (b : UInt8) => Value.int .u8 (b.toNat : Int)) w #[o] w.heap.size 0 dk (Nat.le_refl _)
  rw [e]
  exact ⟨rfl, rfl, rfl, by simp [Go.Sort.grow, World.drewN], fun j hj => by simp only [Go.Sort.grow, World.drewN]; exact Array.getElem?_append_left hj⟩
set_option maxHeartbeats 6400000 in
set_option maxRecDepth 100000 in
theorem FormatUint_in (u : Nat) (hu64 : u < 9223372036854775808) (w : World) (htab : Lib.TabIs Tryz.prog w "internal/strconv.uint64pow10" .u64 Lib.pow10Tab) :
    Calls Tryz.prog 50 #[.int .u64 u, .int .i64 10] w fun e w' => e = .returned (.string ⟨(Lib.decDigits u).toArray⟩) ∧ Below w.heap.size w w' := by
  by_cases hs : u < 100
  · have h1 : (u : Int) < 100 := by omega
    have hw : IntKind.i64.wrap (u : Int) = u := IntWalk.i64_in _ (by omega)
    have hw2 : wrap64 (u : Int) = u := by simp only [wrap64]; omega
    have H := Tryz.internal_strconv_small u hs
    go_enter Tryz.func50, Tryz.ntmps50
    go_wp2_with (go_at_call 97; refine (H _).mono ?_; rintro e w1 ⟨rfl, rfl⟩)
    refine bodyPost_ret (v := .string ⟨(Lib.decDigits u).toArray⟩) ?_ rfl ⟨rfl, Below.refl _ _⟩
    simp [results, Tryz.results50, go_sem]
  · have h1 : ¬ (u : Int) < 100 := by omega
    have hu1 : 1 ≤ u := by omega
    have hnd20 : Lib.nDigits u ≤ 20 := by have := Lib.numDigits_eq u hu1 (by omega); split at this <;> omega
    have hal : Tryz.prog.arrayLen 175 = 24 := by simp [Program.arrayLen, Tryz.underlying175]
    have hsl1 : ∀ W, (Instr.sliceAt 175 (.pointer (some ⟨w.heap.size, 0, none⟩)) none (some (.int .i64 (Lib.nDigits u : Int))) none).run Tryz.prog W = .ok (.slice (some ⟨w.heap.size, 0, none⟩) (Lib.nDigits u) 24) W := fun W => by
      rw [run_sliceAt_array_h (P := Tryz.prog) (w := W) (t := 175) (a := ⟨w.heap.size, 0, none⟩) (by simp [Program.arrayLen, Program.elem, Tryz.underlying175]) .i64 (Lib.nDigits u : Int) (by omega) (by rw [hal]; omega)]
      go_simp
    have hH0 := holds_zero0 w 175 (Lib.nDigits u) (by omega)
    have hfmt := Tryz.internal_strconv_formatBase10 w.heap.size 0 24 u (Array.replicate (Lib.nDigits u) 0) (w.alloc (.cells Lib.zeros24 175)) hH0 (by rw [Array.size_replicate]; exact Lib.lt_pow_nDigits u) (by omega) (by rw [Array.size_replicate]; omega)
    rw [Array.size_replicate] at hfmt
    have HH0 := Lib.hid hH0
    clear hH0 hal
    have HN := Tryz.internal_strconv_numDigits u hu1 (by omega) (w.alloc (.cells Lib.zeros24 175)) (Lib.tabIs_alloc htab _)
    go_enter Tryz.func50, Tryz.ntmps50
    go_wp2_with (go_at_call 98; refine HN.mono ?_; rintro e w' ⟨rfl, rfl⟩)
    refine hfmt.mono ?_
    rintro e w' ⟨rfl, k, v', dk, rfl, hF⟩
    have hcv : (convert 67 9 (.slice (some ⟨w.heap.size, 0, none⟩) (Lib.nDigits u) 24)).run Tryz.prog ((putRow (fun (b : UInt8) => Value.int .u8 (b.toNat : Int)) (w.alloc (.cells Lib.zeros24 175)) w.heap.size 0 dk).drewN k) = .ok (.string ⟨(Lib.decDigits u).toArray⟩) ((putRow (fun (b : UInt8) => Value.int .u8 (b.toNat : Int)) (w.alloc (.cells Lib.zeros24 175)) w.heap.size 0 dk).drewN k) := by
      have h := run_convert_bytes_back (P := Tryz.prog) ((putRow (fun (b : UInt8) => Value.int .u8 (b.toNat : Int)) (w.alloc (.cells Lib.zeros24 175)) w.heap.size 0 dk).drewN k) 67 9 5 ⟨w.heap.size, 0, none⟩ 24 (Lib.decDigits u) Tryz.underlying67 Tryz.underlying5 Tryz.underlying9 (fun j hj => by
        rw [Lib.row_is_numeral hF j hj, Lib.add_plain, World.cell?_drewN]
        exact cell?_putRow (fun (b : UInt8) => Value.int .u8 (b.toNat : Int)) _ w.heap.size 0 _ dk HH0.out (by rw [hF.size, Array.size_replicate]) j (by rw [hF.size]; rw [Lib.decDigits_length] at hj; exact hj))
      rw [Lib.decDigits_length] at h
      exact h
    have HB := fin_pos0 w (.cells Lib.zeros24 175) dk k
    go_wp2_with fail
    refine bodyPost_ret (v := .string ⟨(Lib.decDigits u).toArray⟩) ?_ rfl ⟨rfl, HB⟩
    simp [results, Tryz.results50, go_sem]
theorem FormatUint_any (u : Nat) (hu64 : u < 9223372036854775808) (w : World) (htab : Lib.TabIs Tryz.prog w "internal/strconv.uint64pow10" .u64 Lib.pow10Tab) :
    Calls Tryz.prog 26 #[.int .u64 u, .int .i64 10] w fun e w' => e = .returned (.string ⟨(Lib.decDigits u).toArray⟩) ∧ Below w.heap.size w w' := by
  have H := FormatUint_in u hu64 w htab
  generalize (⟨(Lib.decDigits u).toArray⟩ : ByteArray) = r at *
  go_enter Tryz.func26, Tryz.ntmps26
  go_wp2_with (go_at_call 50; refine H.mono ?_; rintro e w1 ⟨rfl, hb⟩)
  refine bodyPost_ret (v := .string r) ?_ rfl ⟨rfl, hb⟩
  simp [results, Tryz.results26, go_sem]
/-! ### rows of digits in memory -/
/-- the cells of a slice hold the text of a row -/
def RowAt (w : World) (ad : Addr) (l : List UInt8) : Prop := ∀ j (h : j < l.length), w.cell? (ad.add j) = some (.int .u8 (l[j].toNat : Int))
theorem add_block (ad : Addr) (j : Nat) : (ad.add j).block = ad.block := by
  unfold Addr.add
  split <;> rfl
theorem RowAt.below {w w' : World} {B : Nat} {ad : Addr} {l : List UInt8} (h : RowAt w ad l) (hb : Below B w w') (hB : ad.block < B) : RowAt w' ad l := fun j hj =>
  (hb.cell (p := ad.add j) (by rw [add_block]; exact hB)).trans (h j hj)
end Go.Proofs.YtpfldlbdmhhjdaaGreatDoor
