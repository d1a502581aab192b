/-
  A run told in advance, part twenty-four: what is known of a program, laid in trees. No condition.
-/
import Derived.Test.YtdglogdigiajbaaGreatDoorVxW
import Derived.Lib.Bytealg
import Derived.Laws.Externs
import Derived.Lib.MakeNoZero
set_option linter.unusedSectionVars false
set_option linter.unusedSimpArgs false
set_option linter.unusedVariables false
namespace Go.Vx
open Go.RowKit

/-- All that a tree holds, a key being told as a + st * k. -/
def All {α : Type} (p : Nat → α → Prop) (T : Tr α) (a st : Nat) : Prop := ∀ k u, Tr.get T k = some u → p (a + st * k) u

theorem all_e {α : Type} {p : Nat → α → Prop} {a st : Nat} : All p .e a st := fun k u h => by rw [Tr.get_e] at h; simp at h

theorem all_n {α : Type} {p : Nat → α → Prop} {u : α} {x y : Tr α} {a st : Nat} (h0 : p a u) (hx : All p x (a + st) (2 * st)) (hy : All p y (a + 2 * st) (2 * st)) : All p (.n (some u) x y) a st := by
  intro k v h
  cases k with
  | zero =>
    rw [Tr.get_zero] at h
    obtain rfl := Option.some.inj h
    simpa using h0
  | succ j =>
    rw [Tr.get_succ] at h
    split at h
    · rename_i hj
      have := hx _ _ h
      have e : a + st + 2 * st * (j / 2) = a + st * (j + 1) := by
        have : j = 2 * (j / 2) := by omega
        generalize j / 2 = i at this ⊢
        subst this
        rw [Nat.mul_add, Nat.mul_comm 2 st, Nat.mul_assoc]
        omega
      rwa [e] at this
    · rename_i hj
      have := hy _ _ h
      have e : a + 2 * st + 2 * st * (j / 2) = a + st * (j + 1) := by
        have : j = 2 * (j / 2) + 1 := by omega
        generalize j / 2 = i at this ⊢
        subst this
        rw [Nat.mul_add, Nat.mul_add, Nat.mul_comm 2 st, Nat.mul_assoc]
        omega
      rwa [e] at this

theorem All.get {α : Type} {p : Nat → α → Prop} {T : Tr α} (h : All p T 0 1) {k : Nat} {u : α} (hk : Tr.get T k = some u) : p k u := by
  have := h k u hk
  simpa using this

def skC (P : Program) : List Field → List SK → Nat → Bool
  | [], [], _ => true
  | f :: fs, k :: ks, n => f.offset == n && f.name != "_" && (match P.underlying f.type, k with | some .string, .s => true | some (.int _), .i => true | some .bool, .b => true | _, _ => false) && skC P fs ks (n + 1)
  | _, _, _ => false

theorem skC_ok {P : Program} : ∀ {fs : List Field} {ks : List SK} {n : Nat}, skC P fs ks n = true →
    fs.map (·.offset) = List.range' n ks.length ∧ (∀ f ∈ fs, f.name ≠ "_") ∧ ∀ (i : Nat) (f : Field) (k : SK), fs[i]? = some f → ks[i]? = some k → ∃ d, P.underlying f.type = some d ∧ skD k d
  | [], [], n, h => by simp
  | [], k :: ks, n, h => by simp [skC] at h
  | f :: fs, [], n, h => by simp [skC] at h
  | f :: fs, k :: ks, n, h => by
    unfold skC at h
    simp only [Bool.and_eq_true] at h
    obtain ⟨⟨⟨h1, h2⟩, h3⟩, h4⟩ := h
    obtain ⟨i1, i2, i3⟩ := skC_ok h4
    refine ⟨?_, ?_, ?_⟩
    · rw [List.map_cons, List.length_cons, List.range'_succ, i1]
      congr 1
      simpa using h1
    · intro g hg
      rcases List.mem_cons.1 hg with rfl | hg
      · simpa using h2
      · exact i2 g hg
    · intro i g k' hg hk
      cases i with
      | zero =>
        simp only [List.getElem?_cons_zero, Option.some.injEq] at hg hk
        subst hg hk
        split at h3
        · rename_i e; exact ⟨_, e, trivial⟩
        · rename_i e; exact ⟨_, e, trivial⟩
        · rename_i e; exact ⟨_, e, trivial⟩
        · simp at h3
      | succ i => exact i3 i g k' (by simpa using hg) (by simpa using hk)

def skB (P : Program) (t : TypeId) (d : TypeDesc) (l : List SK) : Bool := (match d with | .struct fs => skC P fs.toList l 0 | _ => false) && !P.stoodInHeld t && !P.eqGuardType P.depth t

theorem skB_ok {P : Program} {t : TypeId} {d : TypeDesc} {l : List SK} (h : skB P t d l = true) : SkOk P t d l := by
  unfold skB at h
  simp only [Bool.and_eq_true, Bool.not_eq_true'] at h
  obtain ⟨⟨h1, h2⟩, h3⟩ := h
  refine ⟨?_, h2, h3⟩
  split at h1
  · rename_i fs
    obtain ⟨i1, i2, i3⟩ := skC_ok h1
    exact ⟨fs, rfl, by rw [List.range_eq_range']; exact i1, i2, i3⟩
  · simp at h1

def TyOk (P : Program) (t : Nat) (x : TI) : Prop := P.info? t = some x.i ∧ P.underlying t = some x.d ∧ ∀ l, x.sk = some l → SkOk P t x.d l
def FnOk (P : Program) (f : Nat) (g : Func) : Prop := P.funcs[f]? = some g ∧ ∀ c, g.body = some c → ∀ args w, (callFunc f args).run P w = .ok (.enter f args) w

theorem fn_none {P : Program} {f : Nat} {g : Func} (h1 : P.funcs[f]? = some g) (h2 : g.body = none) : FnOk P f g := ⟨h1, fun c h => by rw [h2] at h; cases h⟩
theorem ty_plain {P : Program} {t : Nat} {d : TypeDesc} {i : TypeInfo} (h1 : P.info? t = some i) (h2 : P.underlying t = some d) : TyOk P t ⟨d, i, none⟩ := ⟨h1, h2, fun _ h => by cases h⟩
theorem ty_sk {P : Program} {t : Nat} {d : TypeDesc} {i : TypeInfo} {l : List SK} (h1 : P.info? t = some i) (h2 : P.underlying t = some d) (h3 : skB P t d l = true) : TyOk P t ⟨d, i, some l⟩ := ⟨h1, h2, fun _ h => by obtain rfl := Option.some.inj h; exact skB_ok h3⟩

/-! ### Two functions of the library without a body -/

def indexByteY : List AV → Option AV
  | [.str s, .int .u8 (.ofNat n)] => match Nat.ble (Nat.succ n) 256 with
    | true => some (.int .i64 (indexFrom n 0 s))
    | false => none
  | _ => none

def countY : List AV → Option AV
  | [.str s, .int .u8 (.ofNat n)] => match Nat.ble (Nat.succ n) 256 with
    | true => some (.int .i64 (.ofNat (countOf n 0 s)))
    | false => none
  | _ => none

theorem beq_byte (b : UInt8) (n : Nat) (h : n < 256) : (b == n.toUInt8) = Nat.beq b.toNat n := by
  have e : n.toUInt8.toNat = n := by simp [Nat.toUInt8]; omega
  by_cases c : b.toNat = n
  · have : b = n.toUInt8 := by apply UInt8.toNat_inj.1; rw [e]; exact c
    rw [← this, beq_self_eq_true, c]
    exact (Nat.beq_refl n).symm
  · have h1 : Nat.beq b.toNat n = false := by
      cases h : Nat.beq b.toNat n
      · rfl
      · exact absurd (Nat.eq_of_beq_eq_true h) c
    rw [h1, beq_eq_false_iff_ne]
    intro h
    rw [h] at c
    exact c e

theorem indexFrom_eq (n : Nat) (hn : n < 256) : ∀ (l : List UInt8) (i : Nat), indexFrom n i l = if Lib.indexByte l n.toUInt8 = -1 then -1 else Lib.indexByte l n.toUInt8 + i
  | [], i => by simp [indexFrom, Lib.indexByte]
  | b :: l, i => by
    have ge := Lib.indexByte_ge l n.toUInt8
    unfold indexFrom Lib.indexByte
    rw [beq_byte b n hn]
    cases h : Nat.beq b.toNat n
    · simp only [Bool.false_eq_true, if_false]
      rw [indexFrom_eq n hn l (i + 1)]
      by_cases c : Lib.indexByte l n.toUInt8 = -1
      · simp [c]
      · have c' : (Lib.indexByte l n.toUInt8 == -1) = false := by simpa using c
        rw [if_neg c, c']
        simp only [Bool.false_eq_true, if_false]
        rw [if_neg (by omega)]
        omega
    · simp

theorem countOf_eq (n : Nat) (hn : n < 256) : ∀ (l : List UInt8) (i : Nat), countOf n i l = i + Lib.countByte l n.toUInt8
  | [], i => by simp [countOf, Lib.countByte]
  | b :: l, i => by
    unfold countOf
    have e : Lib.countByte (b :: l) n.toUInt8 = Lib.countByte l n.toUInt8 + if (b == n.toUInt8) = true then 1 else 0 := by
      unfold Lib.countByte; rw [List.count_cons]
    rw [e, beq_byte b n hn]
    cases h : Nat.beq b.toNat n
    · simp only [Bool.false_eq_true, if_false]
      rw [countOf_eq n hn l i]; omega
    · simp only [if_true]
      rw [countOf_eq n hn l (i + 1)]; omega

/-- What a function without a body comes to. -/
def ExtOk (P : Program) (f : FuncId) (p : List AV → Option AV) : Prop := ∀ args v, p args = some v → (∀ n, BndL n args → Bnd n v) ∧ ∀ R w, (callFunc f ⟨concL R args⟩).run P w = .ok (.value (conc R v)) w

theorem ext_index {P : Program} {f : FuncId} {fn : Func} (hf : P.funcs[f]? = some fn) (hname : (fn.name == "runtime.NumGoroutine") = false) (hb : fn.body.isNone = true) (hn : Extern.findNext fn = none) (he : Extern.find fn = some Extern.BytealgIndexByte.indexByte) : ExtOk P f indexByteY := by
  intro args v h
  unfold indexByteY at h
  split at h
  · rename_i s n
    split at h
    · rename_i hlt
      have hlt := Nat.le_of_ble_eq_true hlt
      obtain rfl := Option.some.inj h
      refine ⟨fun _ _ => by simp [Bnd], fun R w => ?_⟩
      rw [run_callFunc_extern hf hname hb hn he]
      have := Lib.run_indexByteString (P := P) ⟨⟨s⟩⟩ (.ofNat n) w
      simp only [concL, conc]
      rw [this]
      simp only [Result.andThen_ok]
      congr 2
      rw [indexFrom_eq n (by omega)]
      simp only [Int.ofNat_eq_natCast, Int.toNat_natCast]
      split
      · rename_i h; rw [h]
      · simp
    · simp at h
  · simp at h

theorem ext_count {P : Program} {f : FuncId} {fn : Func} (hf : P.funcs[f]? = some fn) (hname : (fn.name == "runtime.NumGoroutine") = false) (hb : fn.body.isNone = true) (hn : Extern.findNext fn = none) (he : Extern.find fn = some Extern.BytealgCount.count) : ExtOk P f countY := by
  intro args v h
  unfold countY at h
  split at h
  · rename_i s n
    split at h
    · rename_i hlt
      have hlt := Nat.le_of_ble_eq_true hlt
      obtain rfl := Option.some.inj h
      refine ⟨fun _ _ => by simp [Bnd], fun R w => ?_⟩
      rw [run_callFunc_extern hf hname hb hn he]
      have := Lib.run_countString (P := P) ⟨⟨s⟩⟩ (.ofNat n) w
      simp only [concL, conc]
      rw [this]
      simp only [Result.andThen_ok]
      congr 2
      rw [countOf_eq n (by omega)]
      simp
    · simp at h
  · simp at h

def bits64Y : List AV → Option AV
  | [.flt .f64 n] => some (.int .u64 (.ofNat n))
  | _ => none
def from64Y : List AV → Option AV
  | [.int .u64 (.ofNat n)] => some (.flt .f64 n)
  | _ => none
def sameY : List AV → Option AV
  | [v] => some v
  | _ => none

theorem ext_bits64 {P : Program} {f : FuncId} {fn : Func} (hf : P.funcs[f]? = some fn) (hname : (fn.name == "runtime.NumGoroutine") = false) (hb : fn.body.isNone = true) (hn : Extern.findNext fn = none) (he : Extern.find fn = some Extern.MathFloatBits.float64bits) : ExtOk P f bits64Y := by
  intro args v h
  unfold bits64Y at h
  split at h
  · rename_i n
    obtain rfl := Option.some.inj h
    refine ⟨fun _ _ => by simp [Bnd], fun R w => ?_⟩
    rw [run_callFunc_extern hf hname hb hn he]
    rfl
  · simp at h

theorem ext_from64 {P : Program} {f : FuncId} {fn : Func} (hf : P.funcs[f]? = some fn) (hname : (fn.name == "runtime.NumGoroutine") = false) (hb : fn.body.isNone = true) (hn : Extern.findNext fn = none) (he : Extern.find fn = some Extern.MathFloatBits.float64frombits) : ExtOk P f from64Y := by
  intro args v h
  unfold from64Y at h
  split at h
  · rename_i n
    obtain rfl := Option.some.inj h
    refine ⟨fun _ _ => by simp [Bnd], fun R w => ?_⟩
    rw [run_callFunc_extern hf hname hb hn he]
    rfl
  · simp at h

theorem ext_same {P : Program} {f : FuncId} {fn : Func} (hf : P.funcs[f]? = some fn) (hname : (fn.name == "runtime.NumGoroutine") = false) (hb : fn.body.isNone = true) (hn : Extern.findNext fn = none) (he : Extern.find fn = some Extern.AbiNoEscape.same) : ExtOk P f sameY := by
  intro args v h
  unfold sameY at h
  split at h
  · rename_i u
    obtain rfl := Option.some.inj h
    refine ⟨fun n hn => hn.1, fun R w => ?_⟩
    rw [run_callFunc_extern hf hname hb hn he]
    rfl
  · simp at h

def cmpX : List UInt8 → List UInt8 → Int
  | [], [] => 0
  | [], _ :: _ => -1
  | _ :: _, [] => 1
  | a :: x, b :: y => match Nat.ble (Nat.succ a.toNat) b.toNat with
    | true => -1
    | false => match Nat.ble (Nat.succ b.toNat) a.toNat with
      | true => 1
      | false => cmpX x y
def cmpY : List AV → Option AV
  | [.str a, .str b] => some (.int .i64 (cmpX a b))
  | _ => none

theorem cmpX_eq : ∀ (a b : List UInt8), cmpX a b = Lib.compareBytes a b
  | [], [] => rfl
  | [], _ :: _ => rfl
  | _ :: _, [] => rfl
  | a :: x, b :: y => by
    have hab : ∀ (a b : UInt8), Nat.ble (Nat.succ a.toNat) b.toNat = decide (a < b) := fun a b => by
      rw [Bool.eq_iff_iff, Nat.ble_eq, decide_eq_true_eq, UInt8.lt_iff_toNat_lt]; exact Iff.rfl
    unfold cmpX Lib.compareBytes
    rw [hab a b, hab b a, cmpX_eq x y]
    by_cases c : a < b
    · simp [c]
    · by_cases d : b < a
      · simp [c, d]
      · simp [c, d]

theorem ext_cmp {P : Program} {f : FuncId} {fn : Func} (hf : P.funcs[f]? = some fn) (hname : (fn.name == "runtime.NumGoroutine") = false) (hb : fn.body.isNone = true) (hn : Extern.findNext fn = none) (he : Extern.find fn = some Extern.BytealgCompare.compare) : ExtOk P f cmpY := by
  intro args v h
  unfold cmpY at h
  split at h
  · rename_i a b
    obtain rfl := Option.some.inj h
    refine ⟨fun _ _ => by simp [Bnd], fun R w => ?_⟩
    rw [run_callFunc_extern hf hname hb hn he]
    have := Lib.run_compareString (P := P) ⟨⟨a⟩⟩ ⟨⟨b⟩⟩ w
    simp only [concL, conc]
    rw [this, cmpX_eq]
    rfl
  · simp at h

theorem nz_ok {P : Program} {f : FuncId} {fn : Func} {ps : Array TypeId} {t e : TypeId} (hf : P.funcs[f]? = some fn) (hname : (fn.name == "runtime.NumGoroutine") = false) (hb : fn.body.isNone = true) (hn : Extern.findNext fn = none)
    (he : Extern.find fn = some (Extern.BytealgMakeNoZero.makeNoZero ps #[t])) (ht : P.underlying t = some (.slice e)) : NzOk P f e := by
  intro n w hle
  obtain ⟨cs, h1, h2, _⟩ := Lib.run_makeNoZero (P := P) w ps t e ht n (by omega)
  refine ⟨cs, w.drawn + 1 + 1, h2, ?_⟩
  rw [run_callFunc_extern hf hname hb hn he]
  have h1 : (Extern.BytealgMakeNoZero.makeNoZero ps #[t] ⟨[.int .i64 (Int.ofNat n)]⟩).run P w = _ := h1
  rw [h1]
  rfl

/-- The environment of a program. -/
noncomputable def mkE (tyT : Tr TI) (fnT : Tr Func) (ext : Nat → Option (List AV → Option AV)) (G : Nat) (mth : Nat → String → Option FuncId) (nz : Nat → Option TypeId) : Env := { ty := fun t => Tr.get tyT t, fn := fun f => Tr.get fnT f, ext, G, mth, nz }

/-- An environment in which of some functions only that is known. -/
noncomputable def sumE (E : Env) (fs : List Nat) (q : Nat → Option (List AV → St → Option (AV × St))) : Env := { E with fn := fun f => match fs.any (Nat.beq f) with | true => none | false => E.fn f, sum := q }

theorem sumE_ok {P : Program} {E : Env} (h : E.Ok P) {fs : List Nat} {q : Nat → Option (List AV → St → Option (AV × St))} (hq : ∀ f p, q f = some p → SumOk P E.G f p) : (sumE E fs q).Ok P where
  ty := h.ty
  fn f g hg := by
    have hg : (match fs.any (Nat.beq f) with | true => none | false => E.fn f) = some g := hg
    split at hg
    · simp at hg
    · exact h.fn f g hg
  call f g c hg := by
    have hg : (match fs.any (Nat.beq f) with | true => none | false => E.fn f) = some g := hg
    split at hg
    · simp at hg
    · exact h.call f g c hg
  ext := h.ext
  nz := h.nz
  sum := hq
  mixed := h.mixed
  mth := h.mth

/-- A method of a type's own, called through an interface: the receiver stays as it is. -/
def MthOk (P : Program) (t : Nat) (m : String) (f : FuncId) : Prop := ∀ v w, (method (P.types.size + Made.depth) t v m).run P w = .ok (f, v) w

theorem mth_value {P : Program} {t : Nat} {m : String} {f : FuncId} {i : TypeInfo} {d : TypeDesc} {r : Go.Method} (h1 : P.info? t = some i) (h2 : i.methods.find? (·.name == m) = some r) (h3 : r.path = #[]) (h4 : r.func = some (f, false)) (h5 : P.underlying t = some d) (h6 : ∀ e, d ≠ .pointer e) : MthOk P t m f := by
  intro v w
  have h0 : 0 < Made.depth := by decide
  have e : P.types.size + Made.depth = (P.types.size + Made.depth - 1) + 1 := by omega
  rw [e]
  unfold method
  simp only [Sem.run_bind, typeInfo, run_program, h1, Result.andThen_ok, h2, h3, h4, Sem.run_pure, follow, receiverAt, underlying, h5]
  cases d <;> first
    | exact absurd rfl (h6 _)
    | rfl


def mthB (P : Program) (t : Nat) (m : String) (f : FuncId) : Bool := match P.info? t, P.underlying t with
  | some i, some d => (match i.methods.find? (·.name == m) with
    | some r => r.path.isEmpty && (match r.func with | some (g, false) => g == f | _ => false)
    | none => false) && (match d with | .pointer _ => false | _ => true)
  | _, _ => false

theorem mth_ok {P : Program} {t : Nat} {m : String} {f : FuncId} (h : mthB P t m f = true) : MthOk P t m f := by
  unfold mthB at h
  split at h
  · rename_i i d h1 h5
    simp only [Bool.and_eq_true] at h
    obtain ⟨h2, h6⟩ := h
    split at h2
    · rename_i r hr
      simp only [Bool.and_eq_true] at h2
      obtain ⟨h3, h4⟩ := h2
      split at h4
      · rename_i g hg
        have : g = f := by simpa using h4
        subst this
        exact mth_value h1 hr (by simpa using h3) hg h5 (fun e he => by subst he; simp at h6)
      · simp at h4
    · simp at h2
  · simp at h

theorem mkE_ok {P : Program} {tyT : Tr TI} {fnT : Tr Func} {ext : Nat → Option (List AV → Option AV)} {G : Nat} (h1 : All (TyOk P) tyT 0 1) (h2 : All (FnOk P) fnT 0 1) (h3 : ∀ f p, ext f = some p → ExtOk P f p) (h4 : P.follows .mixedOrders = true) {mth : Nat → String → Option FuncId} (h5 : ∀ t m f, mth t m = some f → MthOk P t m f) {nz : Nat → Option TypeId} (h6 : ∀ f e, nz f = some e → NzOk P f e) : (mkE tyT fnT ext G mth nz).Ok P where
  ty _ _ h := h1.get h
  fn _ _ h := (h2.get h).1
  call _ _ c h hc := (h2.get h).2 c hc
  ext := h3
  nz := h6
  sum _ _ h := by cases h
  mixed := h4
  mth := h5

/-! ### A law that needs no heap: its answer is true -/

def isT : Option (AV × St) → Bool
  | some (.bool true, _) => true
  | _ => false

theorem isT_some {o : Option (AV × St)} (h : isT o = true) : ∃ s, o = some (.bool true, s) := by
  unfold isT at h
  split at h
  · exact ⟨_, rfl⟩
  · simp at h

/-- Names that stand for the blocks of the same number, and unknown values. -/
def renOf (l : List Value) (h : ∀ v ∈ l, isCell v) : Ren where
  blk := id
  cap := fun _ => 0
  opq := fun i => l.getD i (.string ⟨⟨[]⟩⟩)
  cell := fun i => by
    by_cases c : i < l.length
    · have e : l.getD i (.string ⟨⟨[]⟩⟩) = l[i] := by simp [List.getD, List.getElem?_eq_getElem c]
      rw [e]; exact h _ (List.getElem_mem c)
    · have e : l.getD i (.string ⟨⟨[]⟩⟩) = .string ⟨⟨[]⟩⟩ := by simp [List.getD, List.getElem?_eq_none (Nat.le_of_not_lt c)]
      rw [e]; trivial

theorem rel_empty (R : Ren) {G : Nat} (hG : G ≤ lim) (w : World) : Rel R { H := .e, nx := G } w where
  live n o h := by have h : Tr.get (.e : Tr AO) n = some o := h; rw [Tr.get_e] at h; simp at h
  inj n m o o' h := by have h : Tr.get (.e : Tr AO) n = some o := h; rw [Tr.get_e] at h; simp at h
  bnd n o h := by have h : Tr.get (.e : Tr AO) n = some o := h; rw [Tr.get_e] at h; simp at h
  lim := hG

/-- A run from an empty heap that comes to true: it does so in every world, and turns nothing that was there. -/
theorem told_true {E : Env} {P : Program} (hE : E.Ok P) (d lf : Nat) {G : Nat} (hEG : E.G = G) (hG : G ≤ lim) {f : FuncId} {fn : Func} {c : Code} {args : List AV} (hf : E.fn f = some fn) (hb : fn.body = some c) (h : isT (callX (d + 1) E lf G f args { H := .e, nx := G }) = true)
    (l : List Value) (hl : ∀ v ∈ l, isCell v) (hargs : BndL G args) (w : World) : Calls P f ⟨concL (renOf l hl) args⟩ w fun e w' => e = .returned (.bool true) ∧ Below w.heap.size w w' := by
  obtain ⟨s', hs⟩ := isT_some h
  refine (run_told hE d lf G hf hb hs (rel_empty (renOf l hl) hG w) hargs (Nat.le_refl _) (fun g hg => ⟨rfl, by rw [← hEG]; exact hg⟩)).mono fun e w' hh => ?_
  obtain ⟨R', rfl, h1, h2, h3⟩ := hh
  refine ⟨rfl, h2.os, h2.tape, h2.output, h2.size, fun k hk => h2.frame k hk fun n o hn hget => ?_⟩
  have hget : Tr.get (.e : Tr AO) n = some o := hget
  rw [Tr.get_e] at hget
  simp at hget

end Go.Vx
