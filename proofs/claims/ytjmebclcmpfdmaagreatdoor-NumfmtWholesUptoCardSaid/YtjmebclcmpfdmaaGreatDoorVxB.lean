/-
  A run told in advance, part one: values with named blocks, what they stand for, and a heap as a tree of names. No condition.
-/
import Derived.Calls
import Derived.Orders
import Derived.Below
import Derived.Laws.Sem
import Derived.Laws.Strings
set_option linter.unusedSectionVars false
set_option linter.unusedSimpArgs false
set_option linter.unusedVariables false
namespace Go.Vx
open Go.RowKit

/-- A value whose blocks are names. -/
inductive AV where
  | bool (b : Bool)
  | int (k : IntKind) (n : Int)
  | flt (k : FloatKind) (bits : Nat)
  | cpx (k : FloatKind) (re im : Nat)
  | str (s : List UInt8)
  | nilp
  | ptr (b o : Nat)
  | nils
  | slc (b o len cap : Nat)
  | nilm
  | map (b : Nat)
  | fn (f : FuncId) (first captured : List AV)
  | nilf
  | ifc (t : TypeId) (v : AV)
  | nili
  | agg (l : List AV)
  | tup (l : List AV)
  | opq (i : Nat)
  deriving Inhabited

def isCell : Value → Prop
  | .agg _ => False
  | .tuple _ => False
  | .bool _ => False
  | _ => True

/-- What the names stand for. -/
structure Ren where
  blk : Nat → Nat
  cap : Nat → Nat
  opq : Nat → Value
  cell : ∀ i, isCell (opq i)

def big : Nat := 18446744073709551616

def Ren.c (R : Ren) (c : Nat) : Nat := if c < big then c else R.cap (c - big)

mutual
def conc (R : Ren) : AV → Value
  | .bool b => .bool b
  | .int k n => .int k n
  | .flt k n => .float k n
  | .cpx k a b => .complex k a b
  | .str s => .string ⟨⟨s⟩⟩
  | .nilp => .pointer none
  | .ptr b o => .pointer (some ⟨R.blk b, o, none⟩)
  | .nils => .slice none 0 0
  | .slc b o l c => .slice (some ⟨R.blk b, o, none⟩) l (R.c c)
  | .nilm => .map none
  | .map b => .map (some (R.blk b))
  | .fn f a c => .func (.func f) ⟨concL R a⟩ ⟨concL R c⟩
  | .nilf => .nilFunc
  | .ifc t v => .iface t (conc R v)
  | .nili => .nilIface
  | .agg l => .agg ⟨concL R l⟩
  | .tup l => .tuple ⟨concL R l⟩
  | .opq i => R.opq i
def concL (R : Ren) : List AV → List Value
  | [] => []
  | v :: l => conc R v :: concL R l
end

theorem concL_map (R : Ren) (l : List AV) : concL R l = l.map (conc R) := by
  induction l with
  | nil => rfl
  | cons v l ih => simp [concL, ih]

@[simp] theorem concL_length (R : Ren) (l : List AV) : (concL R l).length = l.length := by simp [concL_map]

@[simp] theorem concL_getElem? (R : Ren) (l : List AV) (i : Nat) : (concL R l)[i]? = (l[i]?).map (conc R) := by simp [concL_map]

theorem concL_append (R : Ren) (l m : List AV) : concL R (l ++ m) = concL R l ++ concL R m := by simp [concL_map]

mutual
def Bnd (n : Nat) : AV → Prop
  | .ptr b _ => b < n
  | .slc b _ _ c => b < n ∧ (c < big ∨ c - big < n)
  | .map b => b < n
  | .fn _ a c => BndL n a ∧ BndL n c
  | .ifc _ v => Bnd n v
  | .agg l => BndL n l
  | .tup l => BndL n l
  | _ => True
def BndL (n : Nat) : List AV → Prop
  | [] => True
  | v :: l => Bnd n v ∧ BndL n l
end

theorem BndL_iff {n : Nat} {l : List AV} : BndL n l ↔ ∀ v ∈ l, Bnd n v := by
  induction l with
  | nil => simp [BndL]
  | cons v l ih => simp [BndL, ih]

theorem BndL_get {n : Nat} {l : List AV} (h : BndL n l) {i : Nat} {v : AV} (hv : l[i]? = some v) : Bnd n v :=
  BndL_iff.1 h v (List.mem_of_getElem? hv)

mutual
theorem Bnd.mono {n m : Nat} (h : n ≤ m) : ∀ {v : AV}, Bnd n v → Bnd m v
  | .ptr b o, hb => by simp only [Bnd] at *; omega
  | .slc b o l c, hb => by simp only [Bnd] at *; omega
  | .map b, hb => by simp only [Bnd] at *; omega
  | .fn f a c, hb => by simp only [Bnd] at *; exact ⟨BndL.mono h hb.1, BndL.mono h hb.2⟩
  | .ifc t v, hb => by simp only [Bnd] at *; exact Bnd.mono h hb
  | .agg l, hb => by simp only [Bnd] at *; exact BndL.mono h hb
  | .tup l, hb => by simp only [Bnd] at *; exact BndL.mono h hb
  | .bool _, _ | .int _ _, _ | .flt _ _, _ | .cpx _ _ _, _ | .str _, _ | .nilp, _ | .nils, _ | .nilm, _ | .nilf, _ | .nili, _ | .opq _, _ => by simp [Bnd]
theorem BndL.mono {n m : Nat} (h : n ≤ m) : ∀ {l : List AV}, BndL n l → BndL m l
  | [], _ => by simp [BndL]
  | v :: l, hb => by simp only [BndL] at *; exact ⟨Bnd.mono h hb.1, BndL.mono h hb.2⟩
end

/-- Two meanings agree on the names below n. -/
structure Agree (n : Nat) (R R' : Ren) : Prop where
  blk : ∀ i, i < n → R'.blk i = R.blk i
  cap : ∀ i, i < n → R'.cap i = R.cap i
  opq : R'.opq = R.opq

theorem Agree.refl (n : Nat) (R : Ren) : Agree n R R := ⟨fun _ _ => rfl, fun _ _ => rfl, rfl⟩

theorem Agree.mono {n m : Nat} {R R' : Ren} (h : Agree n R R') (hm : m ≤ n) : Agree m R R' :=
  ⟨fun i hi => h.blk i (by omega), fun i hi => h.cap i (by omega), h.opq⟩

theorem Agree.trans {n : Nat} {R R' R'' : Ren} (h : Agree n R R') (k : Agree n R' R'') : Agree n R R'' :=
  ⟨fun i hi => (k.blk i hi).trans (h.blk i hi), fun i hi => (k.cap i hi).trans (h.cap i hi), k.opq.trans h.opq⟩

mutual
theorem conc_agree {n : Nat} {R R' : Ren} (h : Agree n R R') : ∀ {v : AV}, Bnd n v → conc R' v = conc R v
  | .ptr b o, hb => by simp only [Bnd] at hb; simp only [conc, h.blk b hb]
  | .slc b o l c, hb => by
    simp only [Bnd] at hb
    simp only [conc, h.blk b hb.1, Ren.c]
    rcases hb.2 with hc | hc
    · rw [if_pos hc, if_pos hc]
    · by_cases hc' : c < big
      · rw [if_pos hc', if_pos hc']
      · rw [if_neg hc', if_neg hc', h.cap _ hc]
  | .map b, hb => by simp only [Bnd] at hb; simp only [conc, h.blk b hb]
  | .fn f a c, hb => by simp only [Bnd] at hb; simp only [conc, concL_agree h hb.1, concL_agree h hb.2]
  | .ifc t v, hb => by simp only [Bnd] at hb; simp only [conc, conc_agree h hb]
  | .agg l, hb => by simp only [Bnd] at hb; simp only [conc, concL_agree h hb]
  | .tup l, hb => by simp only [Bnd] at hb; simp only [conc, concL_agree h hb]
  | .opq i, _ => by simp only [conc, h.opq]
  | .bool _, _ | .int _ _, _ | .flt _ _, _ | .cpx _ _ _, _ | .str _, _ | .nilp, _ | .nils, _ | .nilm, _ | .nilf, _ | .nili, _ => by simp [conc]
theorem concL_agree {n : Nat} {R R' : Ren} (h : Agree n R R') : ∀ {l : List AV}, BndL n l → concL R' l = concL R l
  | [], _ => by simp [concL]
  | v :: l, hb => by simp only [BndL] at hb; simp only [concL, conc_agree h hb.1, concL_agree h hb.2]
end

mutual
/-- A value of the program's text as a value with names: it has none. -/
def quote : Value → Option AV
  | .bool b => some (.bool b)
  | .int k n => some (.int k n)
  | .float k n => some (.flt k n)
  | .complex k a b => some (.cpx k a b)
  | .string s => some (.str s.data.toList)
  | .pointer none => some .nilp
  | .slice none 0 0 => some .nils
  | .map none => some .nilm
  | .nilFunc => some .nilf
  | .func (.func f) ⟨[]⟩ ⟨[]⟩ => some (.fn f [] [])
  | .iface t v => (quote v).map (.ifc t)
  | .nilIface => some .nili
  | .agg c => (quoteA c).map .agg
  | .tuple c => (quoteA c).map .tup
  | _ => none
def quoteA : Array Value → Option (List AV)
  | ⟨l⟩ => quoteL l
def quoteL : List Value → Option (List AV)
  | [] => some []
  | v :: l => match quote v with
    | none => none
    | some a => (quoteL l).map (a :: ·)
end

mutual
theorem quote_ok (R : Ren) : ∀ {v : Value} {a : AV}, quote v = some a → conc R a = v ∧ Bnd 0 a
  | .bool b, a, h => by simp only [quote, Option.some.injEq] at h; subst h; simp [conc, Bnd]
  | .int k n, a, h => by simp only [quote, Option.some.injEq] at h; subst h; simp [conc, Bnd]
  | .float k n, a, h => by simp only [quote, Option.some.injEq] at h; subst h; simp [conc, Bnd]
  | .complex k x y, a, h => by simp only [quote, Option.some.injEq] at h; subst h; simp [conc, Bnd]
  | .string s, a, h => by simp only [quote, Option.some.injEq] at h; subst h; simp [conc, Bnd]
  | .pointer none, a, h => by simp only [quote, Option.some.injEq] at h; subst h; simp [conc, Bnd]
  | .pointer (some _), a, h => by simp [quote] at h
  | .slice none 0 0, a, h => by simp only [quote, Option.some.injEq] at h; subst h; simp [conc, Bnd]
  | .slice none (_ + 1) _, a, h => by simp [quote] at h
  | .slice none 0 (_ + 1), a, h => by simp [quote] at h
  | .slice (some _) _ _, a, h => by simp [quote] at h
  | .map none, a, h => by simp only [quote, Option.some.injEq] at h; subst h; simp [conc, Bnd]
  | .map (some _), a, h => by simp [quote] at h
  | .chan _, a, h => by simp [quote] at h
  | .func fn f c, a, h => by
    unfold quote at h
    split at h <;> simp_all
    all_goals (subst h; simp [conc, Bnd, concL, BndL])
  | .nilFunc, a, h => by simp only [quote, Option.some.injEq] at h; subst h; simp [conc, Bnd]
  | .iface t v, a, h => by
    simp only [quote, Option.map_eq_some_iff] at h
    obtain ⟨x, hx, rfl⟩ := h
    have := quote_ok R hx
    simp [conc, Bnd, this]
  | .nilIface, a, h => by simp only [quote, Option.some.injEq] at h; subst h; simp [conc, Bnd]
  | .agg c, a, h => by
    simp only [quote, Option.map_eq_some_iff] at h
    obtain ⟨x, hx, rfl⟩ := h
    have := quoteA_ok R hx
    simp [conc, Bnd, this]
  | .tuple c, a, h => by
    simp only [quote, Option.map_eq_some_iff] at h
    obtain ⟨x, hx, rfl⟩ := h
    have := quoteA_ok R hx
    simp [conc, Bnd, this]
theorem quoteA_ok (R : Ren) : ∀ {c : Array Value} {l : List AV}, quoteA c = some l → (⟨concL R l⟩ : Array Value) = c ∧ BndL 0 l
  | ⟨c⟩, l, h => by
    simp only [quoteA] at h
    have := quoteL_ok R h
    simp [this]
theorem quoteL_ok (R : Ren) : ∀ {c : List Value} {l : List AV}, quoteL c = some l → concL R l = c ∧ BndL 0 l
  | [], l, h => by simp only [quoteL, Option.some.injEq] at h; subst h; simp [concL, BndL]
  | v :: c, l, h => by
    simp only [quoteL] at h
    cases hv : quote v with
    | none => simp [hv] at h
    | some a =>
      simp only [hv, Option.map_eq_some_iff] at h
      obtain ⟨x, hx, rfl⟩ := h
      have h1 := quote_ok R hv
      have h2 := quoteL_ok R hx
      simp [concL, BndL, h1, h2]
end

/-- A tree whose keys are the numbers, as in a heap: below the place k lie 2k+1, 2k+2. -/
inductive Tr (α : Type) where
  | e
  | n (v : Option α) (x y : Tr α)

--DBG noncomputable
noncomputable def Tr.get {α : Type} (t : Tr α) : Nat → Option α :=
  Tr.rec (motive := fun _ => Nat → Option α) (fun _ => none)
    (fun v _ _ gx gy k => Nat.rec (motive := fun _ => Option α) v (fun j _ => Nat.rec (motive := fun _ => Option α) (gx (Nat.div j 2)) (fun _ _ => gy (Nat.div j 2)) (Nat.mod j 2)) k) t

/-- The tree with a at k, handed to what follows, its spine written out. -/
noncomputable def Tr.setK {α β : Type} (d : Nat) : Tr α → Nat → Option α → (Tr α → β) → β :=
  Nat.rec (motive := fun _ => Tr α → Nat → Option α → (Tr α → β) → β) (fun t _ _ f => f t)
    (fun _ ih t k a f => Tr.rec (motive := fun _ => β)
      (Nat.rec (motive := fun _ => β) (f (.n a .e .e)) (fun j _ => Nat.rec (motive := fun _ => β) (ih .e (Nat.div j 2) a fun z => f (.n none z .e)) (fun _ _ => ih .e (Nat.div j 2) a fun z => f (.n none .e z)) (Nat.mod j 2)) k)
      (fun v x y _ _ => Nat.rec (motive := fun _ => β) (f (.n a x y)) (fun j _ => Nat.rec (motive := fun _ => β) (ih x (Nat.div j 2) a fun z => f (.n v z y)) (fun _ _ => ih y (Nat.div j 2) a fun z => f (.n v x z)) (Nat.mod j 2)) k) t) d
--DBG end

theorem Tr.get_e {α : Type} (k : Nat) : (Tr.e : Tr α).get k = none := rfl
theorem Tr.get_zero {α : Type} (v : Option α) (x y : Tr α) : (Tr.n v x y).get 0 = v := rfl
theorem Tr.get_succ {α : Type} (v : Option α) (x y : Tr α) (j : Nat) : (Tr.n v x y).get (j + 1) = if j % 2 = 0 then x.get (j / 2) else y.get (j / 2) := by
  show Nat.rec (motive := fun _ => Option α) (x.get (j / 2)) (fun _ _ => y.get (j / 2)) (j % 2) = _
  cases h : j % 2 with
  | zero => rfl
  | succ n => simp

noncomputable def Tr.set {α : Type} (d : Nat) (t : Tr α) (k : Nat) (a : Option α) : Tr α := Tr.setK d t k a id

theorem Tr.setK_zero {α β : Type} (t : Tr α) (k : Nat) (a : Option α) (f : Tr α → β) : Tr.setK 0 t k a f = f t := rfl
theorem Tr.setK_e {α β : Type} (d k : Nat) (a : Option α) (f : Tr α → β) : Tr.setK (d + 1) .e k a f = Tr.setK (d + 1) (.n none .e .e) k a f := by
  cases k with
  | zero => rfl
  | succ j => rfl
theorem Tr.setK_n0 {α β : Type} (d : Nat) (v : Option α) (x y : Tr α) (a : Option α) (f : Tr α → β) : Tr.setK (d + 1) (.n v x y) 0 a f = f (.n a x y) := rfl
theorem Tr.setK_n {α β : Type} (d : Nat) (v : Option α) (x y : Tr α) (j : Nat) (a : Option α) (f : Tr α → β) :
    Tr.setK (d + 1) (.n v x y) (j + 1) a f = if j % 2 = 0 then Tr.setK d x (j / 2) a (fun z => f (.n v z y)) else Tr.setK d y (j / 2) a (fun z => f (.n v x z)) := by
  show Nat.rec (motive := fun _ => β) (Tr.setK d x (j / 2) a (fun z => f (.n v z y))) (fun _ _ => Tr.setK d y (j / 2) a (fun z => f (.n v x z))) (j % 2) = _
  cases h : j % 2 with
  | zero => rfl
  | succ n => simp

theorem Tr.setK_eq {α β : Type} : ∀ (d : Nat) (t : Tr α) (k : Nat) (a : Option α) (f : Tr α → β), Tr.setK d t k a f = f (Tr.set d t k a)
  | 0, t, k, a, f => rfl
  | d + 1, .e, k, a, f => by
    unfold Tr.set
    rw [Tr.setK_e, Tr.setK_e]
    cases k with
    | zero => rfl
    | succ j =>
      rw [Tr.setK_n, Tr.setK_n]
      split <;> (rw [Tr.setK_eq d, Tr.setK_eq d]; rfl)
  | d + 1, .n v x y, 0, a, f => rfl
  | d + 1, .n v x y, j + 1, a, f => by
    unfold Tr.set
    rw [Tr.setK_n, Tr.setK_n]
    split <;> (rw [Tr.setK_eq d, Tr.setK_eq d]; rfl)

theorem Tr.set_e {α : Type} (d k : Nat) (a : Option α) : Tr.set (d + 1) .e k a = Tr.set (d + 1) (.n none .e .e) k a := Tr.setK_e _ _ _ _
theorem Tr.set_n {α : Type} (d : Nat) (v : Option α) (x y : Tr α) (j : Nat) (a : Option α) :
    Tr.set (d + 1) (.n v x y) (j + 1) a = if j % 2 = 0 then .n v (Tr.set d x (j / 2) a) y else .n v x (Tr.set d y (j / 2) a) := by
  unfold Tr.set
  rw [Tr.setK_n]
  split <;> (rw [Tr.setK_eq]; rfl)

theorem Tr.get_e' {α : Type} (m : Nat) : (Tr.n none .e .e : Tr α).get m = none := by
  cases m with
  | zero => rfl
  | succ m => rw [Tr.get_succ]; split <;> rfl

theorem Tr.get_set {α : Type} : ∀ (d : Nat) (t : Tr α) (k m : Nat) (a : Option α), k + 1 < 2 ^ d →
    (Tr.set d t k a).get m = if m = k then a else t.get m
  | 0, t, k, m, a, hk => by simp at hk
  | d + 1, .e, k, m, a, hk => by
    rw [Tr.set_e]
    have key : ∀ x : Option α, (Tr.set (d + 1) (.n none .e .e) k a).get m = (if m = k then a else (Tr.n none .e .e : Tr α).get m) := fun _ => by
      cases k with
      | zero =>
        cases m with
        | zero => rfl
        | succ m => rfl
      | succ j =>
        rw [Tr.set_n]
        have hj : j / 2 + 1 < 2 ^ d := by rw [Nat.pow_succ] at hk; omega
        cases m with
        | zero => split <;> simp [Tr.get_zero]
        | succ m =>
          by_cases p : j % 2 = 0 <;> by_cases q : m % 2 = 0 <;> simp only [p, q, if_true, if_false, Tr.get_succ, Tr.get_set d .e (j / 2) (m / 2) a hj, Tr.get_e] <;>
            (by_cases e : m = j
             · subst e; simp_all
             · have : ¬ (m + 1 = j + 1) := by omega
               have h2 : ¬ (m / 2 = j / 2) ∨ True := .inr trivial
               simp only [this, if_false]
               try (have : ¬ (m / 2 = j / 2) := by omega
                    simp [this]))
    rw [key none, Tr.get_e', Tr.get_e]
  | d + 1, .n v x y, 0, m, a, hk => by
    show (Tr.n a x y).get m = _
    cases m with
    | zero => rfl
    | succ m => simp [Tr.get_succ]
  | d + 1, .n v x y, j + 1, m, a, hk => by
    rw [Tr.set_n]
    have hj : j / 2 + 1 < 2 ^ d := by rw [Nat.pow_succ] at hk; omega
    cases m with
    | zero => split <;> simp [Tr.get_zero]
    | succ m =>
      by_cases p : j % 2 = 0 <;> by_cases q : m % 2 = 0 <;> simp only [p, q, if_true, if_false, Tr.get_succ, Tr.get_set d x (j / 2) (m / 2) a hj, Tr.get_set d y (j / 2) (m / 2) a hj] <;>
        (by_cases e : m = j
         · subst e; simp_all
         · have : ¬ (m + 1 = j + 1) := by omega
           simp only [this, if_false]
           try (have : ¬ (m / 2 = j / 2) := by omega
                simp [this]))

end Go.Vx
set_option linter.unusedSectionVars false
set_option linter.unusedSimpArgs false
set_option linter.unusedVariables false
namespace Go.Vx
open Go.RowKit

inductive RK where
  | ro
  | ex
  | gr (cc esz : Nat)

inductive AO where
  | row (l : List AV) (e : TypeId) (k : RK)
  | mp (es : List (AV × AV × Nat)) (clk : Nat)
  | sit (s : List UInt8) (p : Nat)
  | mit (m : Option Nat) (since : Nat) (seen : List Nat) (last : Nat)

def Free (n : Nat) (fz : Nat × Nat) : Prop := ∀ i, i < n → ¬ (fz.1 ≤ i ∧ i < fz.2)

theorem free_zero (n : Nat) : Free n (0, 0) := by intro i _; simp

def entryC (R : Ren) (x : AV × AV × Nat) : MapEntry := { key := conc R x.1, val := conc R x.2.1, born := x.2.2 }

def ORel (R : Ren) : AO → Obj → Prop
  | .row l _ .ro, .cells c _ _ => True ∧ (∀ (i : Nat) (v : AV), l[i]? = some v → c[i]? = some (conc R v))
  | .row l e .ex, .cells c e' fz => e = e' ∧ c = ⟨concL R l⟩ ∧ Free c.size fz
  | .row l e (.gr cc esz), .cells c e' fz => e = e' ∧ (∀ (i : Nat) (v : AV), l[i]? = some v → c[i]? = some (conc R v)) ∧ c.size = R.cap cc * esz ∧ l.length ≤ c.size ∧ Free c.size fz
  | .mp es clk, .map es' clk' => es' = ⟨es.map (entryC R)⟩ ∧ clk' = clk
  | .sit s p, .stringIter s' p' => s' = ⟨⟨s⟩⟩ ∧ p' = p
  | .mit m since seen last, .mapIter m' since' seen' last' => m' = m.map R.blk ∧ since' = since ∧ seen' = ⟨seen⟩ ∧ last' = last
  | _, _ => False

def OBnd (n : Nat) : AO → Prop
  | .row l _ (.gr cc _) => BndL n l ∧ cc < n
  | .row l _ _ => BndL n l
  | .mp es _ => ∀ x ∈ es, Bnd n x.1 ∧ Bnd n x.2.1
  | .sit _ _ => True
  | .mit m _ _ _ => ∀ r, m = some r → r < n

theorem OBnd.row {n : Nat} {l : List AV} {e : TypeId} {k : RK} (h : OBnd n (.row l e k)) : BndL n l := by
  cases k <;> simp only [OBnd] at h <;> first | exact h | exact h.1

theorem OBnd.mono {n m : Nat} (h : n ≤ m) {o : AO} (hb : OBnd n o) : OBnd m o := by
  cases o with
  | row l e k => cases k <;> simp only [OBnd] at * <;> first | exact BndL.mono h hb | exact ⟨BndL.mono h hb.1, by omega⟩
  | mp es c => exact fun x hx => ⟨Bnd.mono h (hb x hx).1, Bnd.mono h (hb x hx).2⟩
  | sit s p => trivial
  | mit m s t u => exact fun r hr => by have := hb r hr; omega

theorem ORel.agree {n : Nat} {R R' : Ren} (h : Agree n R R') {o : AO} (hb : OBnd n o) {x : Obj} (hr : ORel R o x) : ORel R' o x := by
  cases o with
  | row l e k =>
    have hl : ∀ i v, l[i]? = some v → conc R' v = conc R v := fun i v hv => conc_agree h (BndL_get hb.row hv)
    cases k with
    | ro =>
      cases x <;> simp only [ORel] at hr ⊢
      exact ⟨hr.1, fun i v hv => by rw [hl i v hv]; exact hr.2 i v hv⟩
    | ex =>
      cases x <;> simp only [ORel] at hr ⊢
      exact ⟨hr.1, by rw [concL_agree h hb.row]; exact hr.2.1, hr.2.2⟩
    | gr cc esz =>
      cases x <;> simp only [ORel] at hr ⊢
      exact ⟨hr.1, fun i v hv => by rw [hl i v hv]; exact hr.2.1 i v hv, by rw [h.cap cc hb.2]; exact hr.2.2.1, hr.2.2.2⟩
  | mp es c =>
    cases x <;> simp only [ORel] at hr ⊢
    refine ⟨?_, hr.2⟩
    rw [hr.1]
    congr 1
    refine List.map_congr_left fun y hy => ?_
    have := hb y hy
    simp [entryC, conc_agree h this.1, conc_agree h this.2]
  | sit s p => cases x <;> simp only [ORel] at hr ⊢; exact hr
  | mit m s t u =>
    cases x <;> simp only [ORel] at hr ⊢
    refine ⟨?_, hr.2⟩
    rw [hr.1]
    cases m with
    | none => rfl
    | some r => simp [h.blk r (hb r rfl)]

structure St where
  H : Tr AO
  nx : Nat

def lim : Nat := 1048576

noncomputable def St.get (s : St) (n : Nat) : Option AO := Tr.get s.H n

noncomputable def St.put (s : St) (n : Nat) (o : Option AO) : St := { s with H := Tr.set 21 s.H n o }

theorem St.get_put (s : St) (n m : Nat) (o : Option AO) (hn : n < lim) : (s.put n o).get m = if m = n then o else s.get m :=
  Tr.get_set 21 s.H n m o (by unfold lim at hn; omega)

/-- The world fits the named heap. -/
structure Rel (R : Ren) (s : St) (w : World) : Prop where
  live : ∀ n o, s.get n = some o → ∃ x, w.heap[R.blk n]? = some x ∧ ORel R o x
  inj : ∀ n m o o', s.get n = some o → s.get m = some o' → R.blk n = R.blk m → n = m
  bnd : ∀ n o, s.get n = some o → n < s.nx ∧ OBnd s.nx o
  lim : s.nx ≤ lim

theorem Rel.lt {R : Ren} {s : St} {w : World} (h : Rel R s w) {n : Nat} {o : AO} (hn : s.get n = some o) : R.blk n < w.heap.size := by
  obtain ⟨x, hx, _⟩ := h.live n o hn
  exact (Array.getElem?_eq_some_iff.1 hx).1

/-- What a step from (R, s, w) to (R', s', w') has turned: names from lo on, new names, new blocks. -/
structure Mv (lo : Nat) (R : Ren) (s : St) (w : World) (R' : Ren) (s' : St) (w' : World) : Prop where
  blk : ∀ n, n < s.nx ∨ s'.nx ≤ n → R'.blk n = R.blk n
  cap : ∀ n, n < s.nx ∨ s'.nx ≤ n → R'.cap n = R.cap n
  opq : R'.opq = R.opq
  nx : s.nx ≤ s'.nx
  keep : ∀ n, n < lo → s'.get n = s.get n
  os : w'.os = w.os
  tape : w'.tape = w.tape
  output : w'.output = w.output
  size : w.heap.size ≤ w'.heap.size
  frame : ∀ b, b < w.heap.size → (∀ n o, lo ≤ n → s.get n = some o → R.blk n ≠ b) → w'.heap[b]? = w.heap[b]?
  back : ∀ n o, lo ≤ n → s'.get n = some o → R'.blk n < w.heap.size → ∃ m o', lo ≤ m ∧ s.get m = some o' ∧ R.blk m = R'.blk n

theorem Mv.agree {lo : Nat} {R R' : Ren} {s s' : St} {w w' : World} (h : Mv lo R s w R' s' w') : Agree s.nx R R' :=
  ⟨fun i hi => h.blk i (.inl hi), fun i hi => h.cap i (.inl hi), h.opq⟩

theorem Mv.refl (lo : Nat) (R : Ren) (s : St) (w : World) : Mv lo R s w R s w :=
  ⟨fun _ _ => rfl, fun _ _ => rfl, rfl, Nat.le_refl _, fun _ _ => rfl, rfl, rfl, rfl, Nat.le_refl _, fun _ _ _ => rfl, fun n o h1 h2 _ => ⟨n, o, h1, h2, rfl⟩⟩

theorem Mv.trans {lo : Nat} {R R1 R2 : Ren} {s s1 s2 : St} {w w1 w2 : World} (h : Mv lo R s w R1 s1 w1) (k : Mv lo R1 s1 w1 R2 s2 w2) : Mv lo R s w R2 s2 w2 where
  blk n hn := by
    have a := h.nx; have b := k.nx
    rw [k.blk n (by omega), h.blk n (by omega)]
  cap n hn := by
    have a := h.nx; have b := k.nx
    rw [k.cap n (by omega), h.cap n (by omega)]
  opq := k.opq.trans h.opq
  nx := Nat.le_trans h.nx k.nx
  keep n hn := (k.keep n hn).trans (h.keep n hn)
  os := k.os.trans h.os
  tape := k.tape.trans h.tape
  output := k.output.trans h.output
  size := Nat.le_trans h.size k.size
  frame b hb hn := by
    rw [← h.frame b hb hn]
    refine k.frame b (Nat.lt_of_lt_of_le hb h.size) fun n o hlo hg e => ?_
    obtain ⟨m, o', h1, h2, h3⟩ := h.back n o hlo hg (by omega)
    exact hn m o' h1 h2 (by omega)
  back n o hlo hg hlt := by
    obtain ⟨m, o', h1, h2, h3⟩ := k.back n o hlo hg (Nat.lt_of_lt_of_le hlt h.size)
    obtain ⟨m', o'', h4, h5, h6⟩ := h.back m o' h1 h2 (by omega)
    exact ⟨m', o'', h4, h5, by omega⟩

/-- A draw. -/
theorem Mv.drawn {lo : Nat} {R : Ren} {s : St} {w : World} (n : Nat) : Mv lo R s w R s { w with drawn := n } :=
  ⟨fun _ _ => rfl, fun _ _ => rfl, rfl, Nat.le_refl _, fun _ _ => rfl, rfl, rfl, rfl, Nat.le_refl _, fun _ _ _ => rfl, fun n o h1 h2 _ => ⟨n, o, h1, h2, rfl⟩⟩

theorem Rel.drawn {R : Ren} {s : St} {w : World} (h : Rel R s w) (n : Nat) : Rel R s { w with drawn := n } := ⟨h.live, h.inj, h.bnd, h.lim⟩

/-- The meaning with one more name. -/
def Ren.name (R : Ren) (n b c : Nat) : Ren :=
  { R with blk := fun i => if i = n then b else R.blk i, cap := fun i => if i = n then c else R.cap i }

theorem Ren.name_agree (R : Ren) (n b c : Nat) : Agree n R (R.name n b c) :=
  ⟨fun i hi => by simp only [Ren.name]; rw [if_neg (by omega)], fun i hi => by simp only [Ren.name]; rw [if_neg (by omega)], rfl⟩

@[simp] theorem Ren.name_blk (R : Ren) (n b c : Nat) : (R.name n b c).blk n = b := by simp [Ren.name]
@[simp] theorem Ren.name_cap (R : Ren) (n b c : Nat) : (R.name n b c).cap n = c := by simp [Ren.name]

noncomputable def St.add (s : St) (o : AO) : St := { H := Tr.set 21 s.H s.nx (some o), nx := s.nx + 1 }

theorem St.get_add (s : St) (o : AO) (m : Nat) (hn : s.nx < lim) : (s.add o).get m = if m = s.nx then some o else s.get m :=
  St.get_put s s.nx m (some o) hn

/-- A new block. -/
theorem rel_new {lo : Nat} {R : Ren} {s : St} {w : World} (h : Rel R s w) (hlo : lo ≤ s.nx) (hn : s.nx < lim) (o : AO) (x : Obj) (c : Nat)
    (hb : OBnd (s.nx + 1) o) (hr : ORel (R.name s.nx w.heap.size c) o x) :
    Rel (R.name s.nx w.heap.size c) (s.add o) { w with heap := w.heap.push x } ∧
    Mv lo R s w (R.name s.nx w.heap.size c) (s.add o) { w with heap := w.heap.push x } := by
  have hag := R.name_agree s.nx w.heap.size c
  have hold : ∀ m o', s.get m = some o' → (R.name s.nx w.heap.size c).blk m = R.blk m := fun m o' hm => hag.blk m (h.bnd m o' hm).1
  constructor
  · refine ⟨fun m o' hm => ?_, fun m k o1 o2 h1 h2 he => ?_, fun m o' hm => ?_, hn⟩
    · rw [St.get_add s o m hn] at hm
      by_cases e : m = s.nx
      · rw [if_pos e] at hm
        obtain rfl := Option.some.inj hm
        subst e
        exact ⟨x, by simp, hr⟩
      · rw [if_neg e] at hm
        obtain ⟨y, hy, hry⟩ := h.live m o' hm
        have hlt := h.lt hm
        refine ⟨y, ?_, ORel.agree hag (h.bnd m o' hm).2 hry⟩
        rw [hold m o' hm]
        show (w.heap.push x)[R.blk m]? = _
        rw [Array.getElem?_push, if_neg (by omega)]
        exact hy
    · rw [St.get_add s o m hn] at h1
      rw [St.get_add s o k hn] at h2
      by_cases e1 : m = s.nx <;> by_cases e2 : k = s.nx
      · omega
      · rw [if_neg e2] at h2
        have := h.lt h2
        rw [e1, hold k o2 h2] at he
        simp at he
        omega
      · rw [if_neg e1] at h1
        have := h.lt h1
        rw [e2, hold m o1 h1] at he
        simp at he
        omega
      · rw [if_neg e1] at h1
        rw [if_neg e2] at h2
        rw [hold m o1 h1, hold k o2 h2] at he
        exact h.inj m k o1 o2 h1 h2 he
    · rw [St.get_add s o m hn] at hm
      show m < s.nx + 1 ∧ _
      by_cases e : m = s.nx
      · rw [if_pos e] at hm
        obtain rfl := Option.some.inj hm
        exact ⟨by omega, hb⟩
      · rw [if_neg e] at hm
        have := h.bnd m o' hm
        exact ⟨by omega, this.2.mono (Nat.le_succ _)⟩
  · refine ⟨fun m hm => ?_, fun m hm => ?_, rfl, Nat.le_succ _, fun m hm => ?_, rfl, rfl, rfl, by simp, fun b hb' _ => ?_, fun m o' hlo' hm hlt => ?_⟩
    · have : m ≠ s.nx := by
        have e : (s.add o).nx = s.nx + 1 := rfl
        rw [e] at hm
        omega
      simp [Ren.name, this]
    · have : m ≠ s.nx := by
        have e : (s.add o).nx = s.nx + 1 := rfl
        rw [e] at hm
        omega
      simp [Ren.name, this]
    · rw [St.get_add s o m hn, if_neg (by omega)]
    · show (w.heap.push x)[b]? = _
      rw [Array.getElem?_push, if_neg (by omega)]
    · rw [St.get_add s o m hn] at hm
      by_cases e : m = s.nx
      · subst e
        simp at hlt
      · rw [if_neg e] at hm
        exact ⟨m, o', hlo', hm, (hold m o' hm).symm⟩

/-- A block of a name from lo on is written. -/
theorem rel_upd {lo : Nat} {R : Ren} {s : St} {w w' : World} (h : Rel R s w) {n : Nat} {o o' : AO} {x : Obj} (hg : s.get n = some o) (hlo : lo ≤ n)
    (hw : w' = { w with heap := w.heap.set (R.blk n) x (h.lt hg) }) (hb : OBnd s.nx o') (hr : ORel R o' x) :
    Rel R (s.put n (some o')) w' ∧ Mv lo R s w R (s.put n (some o')) w' := by
  have hlt := h.lt hg
  have hl : n < lim := Nat.lt_of_lt_of_le (h.bnd n o hg).1 h.lim
  have hp : ∀ m, (s.put n (some o')).get m = if m = n then some o' else s.get m := fun m => St.get_put s n m _ hl
  have hdom : ∀ m p, (s.put n (some o')).get m = some p → ∃ q, s.get m = some q := by
    intro m p hm
    rw [hp] at hm
    by_cases e : m = n
    · exact ⟨o, e ▸ hg⟩
    · rw [if_neg e] at hm
      exact ⟨p, hm⟩
  subst hw
  constructor
  · refine ⟨fun m p hm => ?_, fun m k o1 o2 h1 h2 he => ?_, fun m p hm => ?_, h.lim⟩
    · have hm' := hm
      rw [hp] at hm
      by_cases e : m = n
      · rw [if_pos e] at hm
        obtain rfl := Option.some.inj hm
        subst e
        exact ⟨x, by simp, hr⟩
      · rw [if_neg e] at hm
        obtain ⟨y, hy, hry⟩ := h.live m p hm
        refine ⟨y, ?_, hry⟩
        have : R.blk n ≠ R.blk m := fun e' => e (h.inj m n p o hm hg e'.symm)
        show (w.heap.set (R.blk n) x hlt)[R.blk m]? = _
        rw [Array.getElem?_set_ne hlt this]
        exact hy
    · obtain ⟨q1, g1⟩ := hdom m o1 h1
      obtain ⟨q2, g2⟩ := hdom k o2 h2
      exact h.inj m k q1 q2 g1 g2 he
    · rw [hp] at hm
      show m < s.nx ∧ OBnd s.nx p
      by_cases e : m = n
      · rw [if_pos e] at hm
        obtain rfl := Option.some.inj hm
        exact ⟨e ▸ (h.bnd n o hg).1, hb⟩
      · rw [if_neg e] at hm
        exact h.bnd m p hm
  · refine ⟨fun _ _ => rfl, fun _ _ => rfl, rfl, Nat.le_refl _, fun m hm => ?_, rfl, rfl, rfl, by simp, fun b hb' hn => ?_, fun m p hlo' hm _ => ?_⟩
    · rw [hp, if_neg (by omega)]
    · have := hn n o hlo hg
      show (w.heap.set (R.blk n) x hlt)[b]? = _
      rw [Array.getElem?_set_ne hlt this]
    · obtain ⟨q, g⟩ := hdom m p hm
      exact ⟨m, q, hlo', g, rfl⟩

/-- A row that was appended to where it lay: its old name is given up. -/
theorem rel_rename {lo : Nat} {R : Ren} {s : St} {w w' : World} (h : Rel R s w) (hlo' : lo ≤ s.nx) (hn : s.nx < lim) {n : Nat} {o o' : AO} {x : Obj} (hg : s.get n = some o) (hlo : lo ≤ n)
    (c : Nat) (hw : w' = { w with heap := w.heap.set (R.blk n) x (h.lt hg) }) (hb : OBnd (s.nx + 1) o') (hr : ORel (R.name s.nx (R.blk n) c) o' x) :
    Rel (R.name s.nx (R.blk n) c) ((s.put n none).add o') w' ∧ Mv lo R s w (R.name s.nx (R.blk n) c) ((s.put n none).add o') w' := by
  have hlt := h.lt hg
  have hl : n < lim := Nat.lt_of_lt_of_le (h.bnd n o hg).1 h.lim
  have hnn := (h.bnd n o hg).1
  have hp : ∀ m, ((s.put n none).add o').get m = if m = s.nx then some o' else if m = n then none else s.get m := fun m => by
    have := St.get_add (s.put n none) o' m hn
    rw [this, St.get_put s n m none hl]
    rfl
  have hag := R.name_agree s.nx (R.blk n) c
  have hold : ∀ m q, s.get m = some q → (R.name s.nx (R.blk n) c).blk m = R.blk m := fun m q hm => hag.blk m (h.bnd m q hm).1
  have hcase : ∀ m p, ((s.put n none).add o').get m = some p → (m = s.nx ∧ p = o') ∨ (m ≠ s.nx ∧ m ≠ n ∧ s.get m = some p) := by
    intro m p hm
    rw [hp] at hm
    by_cases e : m = s.nx
    · rw [if_pos e] at hm
      exact .inl ⟨e, (Option.some.inj hm).symm⟩
    · rw [if_neg e] at hm
      by_cases e' : m = n
      · rw [if_pos e'] at hm; simp at hm
      · rw [if_neg e'] at hm
        exact .inr ⟨e, e', hm⟩
  subst hw
  constructor
  · refine ⟨fun m p hm => ?_, fun m k o1 o2 h1 h2 he => ?_, fun m p hm => ?_, hn⟩
    · rcases hcase m p hm with ⟨rfl, rfl⟩ | ⟨e, e', hm⟩
      · exact ⟨x, by simp, hr⟩
      · obtain ⟨y, hy, hry⟩ := h.live m p hm
        refine ⟨y, ?_, ORel.agree hag (h.bnd m p hm).2 hry⟩
        rw [hold m p hm]
        have : R.blk n ≠ R.blk m := fun e'' => e' (h.inj m n p o hm hg e''.symm)
        show (w.heap.set (R.blk n) x hlt)[R.blk m]? = _
        rw [Array.getElem?_set_ne hlt this]
        exact hy
    · rcases hcase m o1 h1 with ⟨rfl, rfl⟩ | ⟨e1, e1', g1⟩ <;> rcases hcase k o2 h2 with ⟨rfl, rfl⟩ | ⟨e2, e2', g2⟩
      · rfl
      · rw [hold k _ g2] at he
        simp at he
        exact absurd (h.inj k n _ o g2 hg he.symm) e2'
      · rw [hold m _ g1] at he
        simp at he
        exact absurd (h.inj m n _ o g1 hg he) e1'
      · rw [hold m o1 g1, hold k o2 g2] at he
        exact h.inj m k o1 o2 g1 g2 he
    · show m < s.nx + 1 ∧ OBnd (s.nx + 1) p
      rcases hcase m p hm with ⟨rfl, rfl⟩ | ⟨e, e', hm⟩
      · exact ⟨by omega, hb⟩
      · have := h.bnd m p hm
        exact ⟨by omega, this.2.mono (Nat.le_succ _)⟩
  · have enx : ((s.put n none).add o').nx = s.nx + 1 := rfl
    refine ⟨fun m hm => ?_, fun m hm => ?_, rfl, by rw [enx]; omega, fun m hm => ?_, rfl, rfl, rfl, by simp, fun b hb' hnb => ?_, fun m p hlo'' hm hlt' => ?_⟩
    · rw [enx] at hm
      have : m ≠ s.nx := by omega
      simp [Ren.name, this]
    · rw [enx] at hm
      have : m ≠ s.nx := by omega
      simp [Ren.name, this]
    · rw [hp, if_neg (by omega), if_neg (by omega)]
    · have := hnb n o hlo hg
      show (w.heap.set (R.blk n) x hlt)[b]? = _
      rw [Array.getElem?_set_ne hlt this]
    · rcases hcase m p hm with ⟨rfl, rfl⟩ | ⟨e, e', hm⟩
      · exact ⟨n, o, hlo, hg, by simp⟩
      · exact ⟨m, p, hlo'', hm, (hold m p hm).symm⟩

end Go.Vx
