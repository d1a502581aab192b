/-
  Contract of may: whether a piece may stand behind another one. Condition: strings.ContainsAny's own contract at the piece's text, where it is reached.
-/
import Derived.Test.YtbgcngkofbelmaaDoorK
namespace Go.Proofs.YtbgcngkofbelmaaDoor
open Go.RowKit
open Ph
def anyBrace (t : ByteArray) : Bool := t.data.toList.any fun b => b == 123 || b == 125
theorem containsAny_brace (l : List UInt8) : Lib.containsAny l [123, 125] = l.any fun b => b == 123 || b == 125 := by
  unfold Lib.containsAny
  induction l with
  | nil => rfl
  | cons b l ih =>
    have hge := Lib.indexAny_ge [123, 125] l
    rw [List.any_cons, ← ih]
    by_cases c : ([123, 125] : List UInt8).contains b
    · have c' : (b == 123 || b == 125) = true := by simpa using c
      rw [c', Lib.indexAny, if_pos c]; simp
    · have c' : (b == 123 || b == 125) = false := by simpa using c
      rw [c', Lib.indexAny, if_neg c]
      by_cases d : Lib.indexAny l [123, 125] = -1
      · simp [d]
      · have : (Lib.indexAny l [123, 125] == -1) = false := by simpa using d
        rw [this]
        simp only [Bool.false_or]
        congr 1
        apply propext
        simp
        omega
/-- strings.ContainsAny tells braces in this text -/
def Tells (t : ByteArray) : Prop := ∀ w : World, Calls Tryd.prog 53 #[.string t, .string ⟨#[123, 125]⟩] w fun e w' => e = .returned (.bool (anyBrace t)) ∧ Below w.heap.size w w'
theorem tells_ascii {t : ByteArray} (hs : t.size < 4294967281) (h : ∀ (j : Nat) b, t.data.toList[j]? = some b → b.toNat < 128) : Tells t := fun w => by
  have := Tryd.strings_ContainsAny_laid t ⟨#[123, 125]⟩ w hs (by decide) h (by
    intro j b hb
    match j, hb with
    | 0, hb => simp at hb; subst hb; decide
    | 1, hb => simp at hb; subst hb; decide
    | j + 2, hb => simp at hb)
  rw [show Lib.containsAny t.data.toList (⟨#[123, 125]⟩ : ByteArray).data.toList = anyBrace t from containsAny_brace _] at this
  exact this
theorem field26 (a b : Int) (w : World) : (Instr.field 26 (.agg #[.int .i64 a, .int .i64 b]) 0).run Tryd.prog w = .ok (.int .i64 a) w := by
  simp [Instr.field, run_underlying Tryd.underlying26, part, asAgg, Tryd.isAgg24, Tryd.sizeOf24]
def mayB (p a : Pc) : Bool :=
  if p.kind = 1 then decide (a.kind ≠ 1) && (!(p.text.toList.isEmpty) && ((brk p.text 0).isNone && !(anyBrace p.text))) else if p.kind = 2 then decide (0 ≤ p.place) && decide (p.place < 16) else false
def pv (p : Pc) : Value := .agg #[.int .i64 p.kind, .string p.text, .int .i64 p.place]
set_option maxRecDepth 100000 in
set_option maxHeartbeats 4000000 in
theorem may_any (p a : Pc) (ht : brk p.text 0 = none → Tells p.text) (hs : p.text.size ≤ 9223372036854775807) (w : World) :
    Calls Tryd.prog 37 #[pv p, pv a] w fun e w' => e = .returned (.bool (mayB p a)) ∧ Below w.heap.size w w' := by
  have HU := utfCheck p.text hs
  have hb2 := ((Below.refl w.heap.size w).alloc (Nat.le_refl _) (.cells #[.int .i64 p.kind, .string p.text, .int .i64 p.place] 31)).alloc (by simp) (.cells #[.int .i64 a.kind, .string a.text, .int .i64 a.place] 31)
  have B1 := (Blk.new w 31 #[.int .i64 p.kind, .string p.text, .int .i64 p.place]).alloc (.cells #[.int .i64 a.kind, .string a.text, .int .i64 a.place] 31)
  have X1 := B1.at_ 1 (v := .string p.text) rfl
  unfold pv mayB
  by_cases k1 : p.kind = 1
  · have t1 : (p.kind == 1) = true := by simpa using k1
    rw [if_pos k1]
    clear k1
    by_cases a1 : a.kind = 1
    · have t2 : (a.kind != 1) = false := by simpa using a1
      have t3 : decide (a.kind ≠ 1) = false := by simpa using a1
      rw [t3]
      clear a1 t3
      go_enter Tryd.func37, Tryd.ntmps37
      go_wp2_with fail
      refine bodyPost_ret (v := .bool false) ?_ rfl ⟨by simp, hb2⟩
      simp [results, Tryd.results37, go_sem]
    · have t2 : (a.kind != 1) = true := by simpa using a1
      have t3 : decide (a.kind ≠ 1) = true := by simpa using a1
      rw [t3]
      clear a1 t3
      cases e1 : p.text.toList.isEmpty with
      | true =>
        clear ht
        go_enter Tryd.func37, Tryd.ntmps37
        go_wp2_with fail
        refine bodyPost_ret (v := .bool false) ?_ rfl ⟨by simp, hb2⟩
        simp [results, Tryd.results37, go_sem]
      | false =>
        cases hk : brk p.text 0 with
        | some k =>
          rw [hk] at HU
          clear hk ht
          simp only [spotV] at HU
          have HF := field26 6 k
          go_enter Tryd.func37, Tryd.ntmps37
          go_wp2_with (go_at_call 30; refine (HU _).mono ?_; rintro e w' ⟨rfl, hb3⟩)
          refine bodyPost_ret (v := .bool false) ?_ rfl ⟨by simp, hb2.trans (hb3.mono hb2.size)⟩
          simp [results, Tryd.results37, go_sem]
        | none =>
          have HT := ht hk
          unfold Tells at HT
          rw [hk] at HU
          clear hk ht
          simp only [spotV] at HU
          have HF := field26 0 0
          go_enter Tryd.func37, Tryd.ntmps37
          go_wp2_with (first | (go_at_call 30; refine (HU _).mono ?_; rintro e w1 ⟨rfl, hb3⟩; have X3 := (hb3.cell (p := ⟨w.heap.size, 1, none⟩) (by simp; omega)).trans X1) | (go_at_call 53; refine (HT _).mono ?_; rintro e w2 ⟨rfl, hb4⟩))
          refine bodyPost_ret (v := .bool (!(anyBrace p.text))) ?_ rfl ⟨by simp, hb2.trans ((hb3.mono hb2.size).trans (hb4.mono (Nat.le_trans hb2.size hb3.size)))⟩
          simp [results, Tryd.results37, go_sem]
  · have t1 : (p.kind == 1) = false := by simpa using k1
    rw [if_neg k1]
    clear k1 ht
    by_cases k2 : p.kind = 2
    · have t2 : (p.kind == 2) = true := by simpa using k2
      rw [if_pos k2]
      clear k2
      by_cases g0 : 0 ≤ p.place
      · by_cases g1 : p.place < 16
        · go_enter Tryd.func37, Tryd.ntmps37
          go_wp2_with fail
          refine bodyPost_ret (v := .bool true) ?_ rfl ⟨by simp; omega, hb2⟩
          simp [results, Tryd.results37, go_sem]
        · go_enter Tryd.func37, Tryd.ntmps37
          go_wp2_with fail
          refine bodyPost_ret (v := .bool false) ?_ rfl ⟨by simp; omega, hb2⟩
          simp [results, Tryd.results37, go_sem]
      · go_enter Tryd.func37, Tryd.ntmps37
        go_wp2_with fail
        refine bodyPost_ret (v := .bool false) ?_ rfl ⟨by simp; omega, hb2⟩
        simp [results, Tryd.results37, go_sem]
    · have t2 : (p.kind == 2) = false := by simpa using k2
      rw [if_neg k2]
      clear k2
      go_enter Tryd.func37, Tryd.ntmps37
      go_wp2_with fail
      refine bodyPost_ret (v := .bool false) ?_ rfl ⟨rfl, hb2⟩
      simp [results, Tryd.results37, go_sem]
end Go.Proofs.YtbgcngkofbelmaaDoor
