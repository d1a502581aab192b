/-
  A run told in advance, part one: values with named blocks, what they stand for, and a heap as a tree of names. No condition.
-/
import Derived.Calls
import Derived.Orders
import Derived.Below
set_option linter.unusedSectionVars false
set_option linter.unusedSimpArgs false
set_option linter.unusedVariables false
namespace Go.Vx
open Go.RowKit

/-- A value whose blocks are names. -/
inductive AV where
  | bool (b : Bool)
  | int (k : IntKind) (n : Int)
  | flt (k : FloatKind) (bits : Nat)
  | cpx (k : FloatKind) (re im : Nat)
  | str (s : List UInt8)
  | nilp
  | ptr (b o : Nat)
  | nils
  | slc (b o len cap : Nat)
  | nilm
  | map (b : Nat)
  | fn (f : FuncId) (first captured : List AV)
  | nilf
  | ifc (t : TypeId) (v : AV)
  | nili
  | agg (l : List AV)
  | tup (l : List AV)
  | opq (i : Nat)
  deriving Inhabited

def isCell : Value → Prop
  | .agg _ => False
  | .tuple _ => False
  | .bool _ => False
  | _ => True

/-- What the names stand for. -/
structure Ren where
  blk : Nat → Nat
  cap : Nat → Nat
  opq : Nat → Value
  cell : ∀ i, isCell (opq i)

def big : Nat := 18446744073709551616

def Ren.c (R : Ren) (c : Nat) : Nat := if c < big then c else R.cap (c - big)

mutual
def conc (R : Ren) : AV → Value
  | .bool b => .bool b
  | .int k n => .int k n
  | .flt k n => .float k n
  | .cpx k a b => .complex k a b
  | .str s => .string ⟨⟨s⟩⟩
  | .nilp => .pointer none
  | .ptr b o => .pointer (some ⟨R.blk b, o, none⟩)
  | .nils => .slice none 0 0
  | .slc b o l c => .slice (some ⟨R.blk b, o, none⟩) l (R.c c)
  | .nilm => .map none
  | .map b => .map (some (R.blk b))
  | .fn f a c => .func (.func f) ⟨concL R a⟩ ⟨concL R c⟩
  | .nilf => .nilFunc
  | .ifc t v => .iface t (conc R v)
  | .nili => .nilIface
  | .agg l => .agg ⟨concL R l⟩
  | .tup l => .tuple ⟨concL R l⟩
  | .opq i => R.opq i
def concL (R : Ren) : List AV → List Value
  | [] => []
  | v :: l => conc R v :: concL R l
end

theorem concL_map (R : Ren) (l : List AV) : concL R l = l.map (conc R) := by
  induction l with
  | nil => rfl
  | cons v l ih => simp [concL, ih]

@[simp] theorem concL_length (R : Ren) (l : List AV) : (concL R l).length = l.length := by simp [concL_map]

@[simp] theorem concL_getElem? (R : Ren) (l : List AV) (i : Nat) : (concL R l)[i]? = (l[i]?).map (conc R) := by simp [concL_map]

theorem concL_append (R : Ren) (l m : List AV) : concL R (l ++ m) = concL R l ++ concL R m := by simp [concL_map]

mutual
def Bnd (n : Nat) : AV → Prop
  | .ptr b _ => b < n
  | .slc b _ _ c => b < n ∧ (c < big ∨ c - big < n)
  | .map b => b < n
  | .fn _ a c => BndL n a ∧ BndL n c
  | .ifc _ v => Bnd n v
  | .agg l => BndL n l
  | .tup l => BndL n l
  | _ => True
def BndL (n : Nat) : List AV → Prop
  | [] => True
  | v :: l => Bnd n v ∧ BndL n l
end

theorem BndL_iff {n : Nat} {l : List AV} : BndL n l ↔ ∀ v ∈ l, Bnd n v := by
  induction l with
  | nil => simp [BndL]
  | cons v l ih => simp [BndL, ih]

theorem BndL_get {n : Nat} {l : List AV} (h : BndL n l) {i : Nat} {v : AV} (hv : l[i]? = some v) : Bnd n v :=
  BndL_iff.1 h v (List.mem_of_getElem? hv)

mutual
theorem Bnd.mono {n m : Nat} (h : n ≤ m) : ∀ {v : AV}, Bnd n v → Bnd m v
  | .ptr b o, hb => by simp only [Bnd] at *; omega
  | .slc b o l c, hb => by simp only [Bnd] at *; omega
  | .map b, hb => by simp only [Bnd] at *; omega
  | .fn f a c, hb => by simp only [Bnd] at *; exact ⟨BndL.mono h hb.1, BndL.mono h hb.2⟩
  | .ifc t v, hb => by simp only [Bnd] at *; exact Bnd.mono h hb
  | .agg l, hb => by simp only [Bnd] at *; exact BndL.mono h hb
  | .tup l, hb => by simp only [Bnd] at *; exact BndL.mono h hb
  | .bool _, _ | .int _ _, _ | .flt _ _, _ | .cpx _ _ _, _ | .str _, _ | .nilp, _ | .nils, _ | .nilm, _ | .nilf, _ | .nili, _ | .opq _, _ => by simp [Bnd]
theorem BndL.mono {n m : Nat} (h : n ≤ m) : ∀ {l : List AV}, BndL n l → BndL m l
  | [], _ => by simp [BndL]
  | v :: l, hb => by simp only [BndL] at *; exact ⟨Bnd.mono h hb.1, BndL.mono h hb.2⟩
end

/-- Two meanings agree on the names below n. -/
structure Agree (n : Nat) (R R' : Ren) : Prop where
  blk : ∀ i, i < n → R'.blk i = R.blk i
  cap : ∀ i, i < n → R'.cap i = R.cap i
  opq : R'.opq = R.opq

theorem Agree.refl (n : Nat) (R : Ren) : Agree n R R := ⟨fun _ _ => rfl, fun _ _ => rfl, rfl⟩

theorem Agree.mono {n m : Nat} {R R' : Ren} (h : Agree n R R') (hm : m ≤ n) : Agree m R R' :=
  ⟨fun i hi => h.blk i (by omega), fun i hi => h.cap i (by omega), h.opq⟩

theorem Agree.trans {n : Nat} {R R' R'' : Ren} (h : Agree n R R') (k : Agree n R' R'') : Agree n R R'' :=
  ⟨fun i hi => (k.blk i hi).trans (h.blk i hi), fun i hi => (k.cap i hi).trans (h.cap i hi), k.opq.trans h.opq⟩

mutual
theorem conc_agree {n : Nat} {R R' : Ren} (h : Agree n R R') : ∀ {v : AV}, Bnd n v → conc R' v = conc R v
  | .ptr b o, hb => by simp only [Bnd] at hb; simp only [conc, h.blk b hb]
  | .slc b o l c, hb => by
    simp only [Bnd] at hb
    simp only [conc, h.blk b hb.1, Ren.c]
    rcases hb.2 with hc | hc
    · rw [if_pos hc, if_pos hc]
    · by_cases hc' : c < big
      · rw [if_pos hc', if_pos hc']
      · rw [if_neg hc', if_neg hc', h.cap _ hc]
  | .map b, hb => by simp only [Bnd] at hb; simp only [conc, h.blk b hb]
  | .fn f a c, hb => by simp only [Bnd] at hb; simp only [conc, concL_agree h hb.1, concL_agree h hb.2]
  | .ifc t v, hb => by simp only [Bnd] at hb; simp only [conc, conc_agree h hb]
  | .agg l, hb => by simp only [Bnd] at hb; simp only [conc, concL_agree h hb]
  | .tup l, hb => by simp only [Bnd] at hb; simp only [conc, concL_agree h hb]
  | .opq i, _ => by simp only [conc, h.opq]
  | .bool _, _ | .int _ _, _ | .flt _ _, _ | .cpx _ _ _, _ | .str _, _ | .nilp, _ | .nils, _ | .nilm, _ | .nilf, _ | .nili, _ => by simp [conc]
theorem concL_agree {n : Nat} {R R' : Ren} (h : Agree n R R') : ∀ {l : List AV}, BndL n l → concL R' l = concL R l
  | [], _ => by simp [concL]
  | v :: l, hb => by simp only [BndL] at hb; simp only [concL, conc_agree h hb.1, concL_agree h hb.2]
end

mutual
/-- A value of the program's text as a value with names: it has none. -/
def quote : Value → Option AV
  | .bool b => some (.bool b)
  | .int k n => some (.int k n)
  | .float k n => some (.flt k n)
  | .complex k a b => some (.cpx k a b)
  | .string s => some (.str s.data.toList)
  | .pointer none => some .nilp
  | .slice none 0 0 => some .nils
  | .map none => some .nilm
  | .nilFunc => some .nilf
  | .func (.func f) ⟨[]⟩ ⟨[]⟩ => some (.fn f [] [])
  | .iface t v => (quote v).map (.ifc t)
  | .nilIface => some .nili
  | .agg c => (quoteA c).map .agg
  | .tuple c => (quoteA c).map .tup
  | _ => none
def quoteA : Array Value → Option (List AV)
  | ⟨l⟩ => quoteL l
def quoteL : List Value → Option (List AV)
  | [] => some []
  | v :: l => match quote v with
    | none => none
    | some a => (quoteL l).map (a :: ·)
end

mutual
theorem quote_ok (R : Ren) : ∀ {v : Value} {a : AV}, quote v = some a → conc R a = v ∧ Bnd 0 a
  | .bool b, a, h => by simp only [quote, Option.some.injEq] at h; subst h; simp [conc, Bnd]
  | .int k n, a, h => by simp only [quote, Option.some.injEq] at h; subst h; simp [conc, Bnd]
  | .float k n, a, h => by simp only [quote, Option.some.injEq] at h; subst h; simp [conc, Bnd]
  | .complex k x y, a, h => by simp only [quote, Option.some.injEq] at h; subst h; simp [conc, Bnd]
  | .string s, a, h => by simp only [quote, Option.some.injEq] at h; subst h; simp [conc, Bnd]
  | .pointer none, a, h => by simp only [quote, Option.some.injEq] at h; subst h; simp [conc, Bnd]
  | .pointer (some _), a, h => by simp [quote] at h
  | .slice none 0 0, a, h => by simp only [quote, Option.some.injEq] at h; subst h; simp [conc, Bnd]
  | .slice none (_ + 1) _, a, h => by simp [quote] at h
  | .slice none 0 (_ + 1), a, h => by simp [quote] at h
  | .slice (some _) _ _, a, h => by simp [quote] at h
  | .map none, a, h => by simp only [quote, Option.some.injEq] at h; subst h; simp [conc, Bnd]
  | .map (some _), a, h => by simp [quote] at h
  | .chan _, a, h => by simp [quote] at h
  | .func fn f c, a, h => by
    unfold quote at h
    split at h <;> simp_all
    all_goals (subst h; simp [conc, Bnd, concL, BndL])
  | .nilFunc, a, h => by simp only [quote, Option.some.injEq] at h; subst h; simp [conc, Bnd]
  | .iface t v, a, h => by
    simp only [quote, Option.map_eq_some_iff] at h
    obtain ⟨x, hx, rfl⟩ := h
    have := quote_ok R hx
    simp [conc, Bnd, this]
  | .nilIface, a, h => by simp only [quote, Option.some.injEq] at h; subst h; simp [conc, Bnd]
  | .agg c, a, h => by
    simp only [quote, Option.map_eq_some_iff] at h
    obtain ⟨x, hx, rfl⟩ := h
    have := quoteA_ok R hx
    simp [conc, Bnd, this]
  | .tuple c, a, h => by
    simp only [quote, Option.map_eq_some_iff] at h
    obtain ⟨x, hx, rfl⟩ := h
    have := quoteA_ok R hx
    simp [conc, Bnd, this]
theorem quoteA_ok (R : Ren) : ∀ {c : Array Value} {l : List AV}, quoteA c = some l → (⟨concL R l⟩ : Array Value) = c ∧ BndL 0 l
  | ⟨c⟩, l, h => by
    simp only [quoteA] at h
    have := quoteL_ok R h
    simp [this]
theorem quoteL_ok (R : Ren) : ∀ {c : List Value} {l : List AV}, quoteL c = some l → concL R l = c ∧ BndL 0 l
  | [], l, h => by simp only [quoteL, Option.some.injEq] at h; subst h; simp [concL, BndL]
  | v :: c, l, h => by
    simp only [quoteL] at h
    cases hv : quote v with
    | none => simp [hv] at h
    | some a =>
      simp only [hv, Option.map_eq_some_iff] at h
      obtain ⟨x, hx, rfl⟩ := h
      have h1 := quote_ok R hv
      have h2 := quoteL_ok R hx
      simp [concL, BndL, h1, h2]
end

/-- A tree whose keys are the numbers, as in a heap: below the place k lie 2k+1, 2k+2. -/
inductive Tr (α : Type) where
  | e
  | n (v : Option α) (x y : Tr α)

--DBG noncomputable
noncomputable def Tr.get {α : Type} (t : Tr α) : Nat → Option α :=
  Tr.rec (motive := fun _ => Nat → Option α) (fun _ => none)
    (fun v _ _ gx gy k => Nat.rec (motive := fun _ => Option α) v (fun j _ => Nat.rec (motive := fun _ => Option α) (gx (Nat.div j 2)) (fun _ _ => gy (Nat.div j 2)) (Nat.mod j 2)) k) t

/-- The tree with a at k, handed to what follows, its spine written out. -/
noncomputable def Tr.setK {α β : Type} (d : Nat) : Tr α → Nat → Option α → (Tr α → β) → β :=
  Nat.rec (motive := fun _ => Tr α → Nat → Option α → (Tr α → β) → β) (fun t _ _ f => f t)
    (fun _ ih t k a f => Tr.rec (motive := fun _ => β)
      (Nat.rec (motive := fun _ => β) (f (.n a .e .e)) (fun j _ => Nat.rec (motive := fun _ => β) (ih .e (Nat.div j 2) a fun z => f (.n none z .e)) (fun _ _ => ih .e (Nat.div j 2) a fun z => f (.n none .e z)) (Nat.mod j 2)) k)
      (fun v x y _ _ => Nat.rec (motive := fun _ => β) (f (.n a x y)) (fun j _ => Nat.rec (motive := fun _ => β) (ih x (Nat.div j 2) a fun z => f (.n v z y)) (fun _ _ => ih y (Nat.div j 2) a fun z => f (.n v x z)) (Nat.mod j 2)) k) t) d
--DBG end

theorem Tr.get_e {α : Type} (k : Nat) : (Tr.e : Tr α).get k = none := rfl
theorem Tr.get_zero {α : Type} (v : Option α) (x y : Tr α) : (Tr.n v x y).get 0 = v := rfl
theorem Tr.get_succ {α : Type} (v : Option α) (x y : Tr α) (j : Nat) : (Tr.n v x y).get (j + 1) = if j % 2 = 0 then x.get (j / 2) else y.get (j / 2) := by
  show Nat.rec (motive := fun _ => Option α) (x.get (j / 2)) (fun _ _ => y.get (j / 2)) (j % 2) = _
  cases h : j % 2 with
  | zero => rfl
  | succ n => simp

noncomputable def Tr.set {α : Type} (d : Nat) (t : Tr α) (k : Nat) (a : Option α) : Tr α := Tr.setK d t k a id

theorem Tr.setK_zero {α β : Type} (t : Tr α) (k : Nat) (a : Option α) (f : Tr α → β) : Tr.setK 0 t k a f = f t := rfl
theorem Tr.setK_e {α β : Type} (d k : Nat) (a : Option α) (f : Tr α → β) : Tr.setK (d + 1) .e k a f = Tr.setK (d + 1) (.n none .e .e) k a f := by
  cases k with
  | zero => rfl
  | succ j => rfl
theorem Tr.setK_n0 {α β : Type} (d : Nat) (v : Option α) (x y : Tr α) (a : Option α) (f : Tr α → β) : Tr.setK (d + 1) (.n v x y) 0 a f = f (.n a x y) := rfl
theorem Tr.setK_n {α β : Type} (d : Nat) (v : Option α) (x y : Tr α) (j : Nat) (a : Option α) (f : Tr α → β) :
    Tr.setK (d + 1) (.n v x y) (j + 1) a f = if j % 2 = 0 then Tr.setK d x (j / 2) a (fun z => f (.n v z y)) else Tr.setK d y (j / 2) a (fun z => f (.n v x z)) := by
  show Nat.rec (motive := fun _ => β) (Tr.setK d x (j / 2) a (fun z => f (.n v z y))) (fun _ _ => Tr.setK d y (j / 2) a (fun z => f (.n v x z))) (j % 2) = _
  cases h : j % 2 with
  | zero => rfl
  | succ n => simp

theorem Tr.setK_eq {α β : Type} : ∀ (d : Nat) (t : Tr α) (k : Nat) (a : Option α) (f : Tr α → β), Tr.setK d t k a f = f (Tr.set d t k a)
  | 0, t, k, a, f => rfl
  | d + 1, .e, k, a, f => by
    unfold Tr.set
    rw [Tr.setK_e, Tr.setK_e]
    cases k with
    | zero => rfl
    | succ j =>
      rw [Tr.setK_n, Tr.setK_n]
      split <;> (rw [Tr.setK_eq d, Tr.setK_eq d]; rfl)
  | d + 1, .n v x y, 0, a, f => rfl
  | d + 1, .n v x y, j + 1, a, f => by
    unfold Tr.set
    rw [Tr.setK_n, Tr.setK_n]
    split <;> (rw [Tr.setK_eq d, Tr.setK_eq d]; rfl)

theorem Tr.set_e {α : Type} (d k : Nat) (a : Option α) : Tr.set (d + 1) .e k a = Tr.set (d + 1) (.n none .e .e) k a := Tr.setK_e _ _ _ _
theorem Tr.set_n {α : Type} (d : Nat) (v : Option α) (x y : Tr α) (j : Nat) (a : Option α) :
    Tr.set (d + 1) (.n v x y) (j + 1) a = if j % 2 = 0 then .n v (Tr.set d x (j / 2) a) y else .n v x (Tr.set d y (j / 2) a) := by
  unfold Tr.set
  rw [Tr.setK_n]
  split <;> (rw [Tr.setK_eq]; rfl)

theorem Tr.get_e' {α : Type} (m : Nat) : (Tr.n none .e .e : Tr α).get m = none := by
  cases m with
  | zero => rfl
  | succ m => rw [Tr.get_succ]; split <;> rfl

theorem Tr.get_set {α : Type} : ∀ (d : Nat) (t : Tr α) (k m : Nat) (a : Option α), k + 1 < 2 ^ d →
    (Tr.set d t k a).get m = if m = k then a else t.get m
  | 0, t, k, m, a, hk => by simp at hk
  | d + 1, .e, k, m, a, hk => by
    rw [Tr.set_e]
    have key : ∀ x : Option α, (Tr.set (d + 1) (.n none .e .e) k a).get m = (if m = k then a else (Tr.n none .e .e : Tr α).get m) := fun _ => by
      cases k with
      | zero =>
        cases m with
        | zero => rfl
        | succ m => rfl
      | succ j =>
        rw [Tr.set_n]
        have hj : j / 2 + 1 < 2 ^ d := by rw [Nat.pow_succ] at hk; omega
        cases m with
        | zero => split <;> simp [Tr.get_zero]
        | succ m =>
          by_cases p : j % 2 = 0 <;> by_cases q : m % 2 = 0 <;> simp only [p, q, if_true, if_false, Tr.get_succ, Tr.get_set d .e (j / 2) (m / 2) a hj, Tr.get_e] <;>
            (by_cases e : m = j
             · subst e; simp_all
             · have : ¬ (m + 1 = j + 1) := by omega
               have h2 : ¬ (m / 2 = j / 2) ∨ True := .inr trivial
               simp only [this, if_false]
               try (have : ¬ (m / 2 = j / 2) := by omega
                    simp [this]))
    rw [key none, Tr.get_e', Tr.get_e]
  | d + 1, .n v x y, 0, m, a, hk => by
    show (Tr.n a x y).get m = _
    cases m with
    | zero => rfl
    | succ m => simp [Tr.get_succ]
  | d + 1, .n v x y, j + 1, m, a, hk => by
    rw [Tr.set_n]
    have hj : j / 2 + 1 < 2 ^ d := by rw [Nat.pow_succ] at hk; omega
    cases m with
    | zero => split <;> simp [Tr.get_zero]
    | succ m =>
      by_cases p : j % 2 = 0 <;> by_cases q : m % 2 = 0 <;> simp only [p, q, if_true, if_false, Tr.get_succ, Tr.get_set d x (j / 2) (m / 2) a hj, Tr.get_set d y (j / 2) (m / 2) a hj] <;>
        (by_cases e : m = j
         · subst e; simp_all
         · have : ¬ (m + 1 = j + 1) := by omega
           simp only [this, if_false]
           try (have : ¬ (m / 2 = j / 2) := by omega
                simp [this]))

end Go.Vx
