/-
  A run told in advance, part three: what each operation does to named values and blocks (the functions alone). No condition.
-/
import Derived.Test.YtjmebclcmpfdmaaGreatDoorVxB
set_option linter.unusedSectionVars false
set_option linter.unusedSimpArgs false
set_option linter.unusedVariables false
namespace Go.Vx
noncomputable section

def natK {β : Type} (n : Nat) (f : Nat → β) : β := Nat.casesOn n (f 0) fun m => f (Nat.succ m)
theorem natK_eq {β : Type} (n : Nat) (f : Nat → β) : natK n f = f n := by cases n <;> rfl
def intK {β : Type} (n : Int) (f : Int → β) : β := Int.casesOn n (fun m => Nat.casesOn m (f (.ofNat 0)) fun m => f (.ofNat (Nat.succ m))) fun m => Nat.casesOn m (f (.negSucc 0)) fun m => f (.negSucc (Nat.succ m))
theorem intK_eq {β : Type} (n : Int) (f : Int → β) : intK n f = f n := by cases n <;> rename_i m <;> cases m <;> rfl
def boolK {β : Type} (b : Bool) (f : Bool → β) : β := Bool.casesOn b (f false) (f true)
theorem boolK_eq {β : Type} (b : Bool) (f : Bool → β) : boolK b f = f b := by cases b <;> rfl
--DBG listK
def listK {α β : Type} (l : List α) : (List α → β) → β :=
  List.rec (motive := fun _ => (List α → β) → β) (fun f => f []) (fun x _ ih f => ih fun m => f (x :: m)) l
--DBG end
theorem listK_cons {α β : Type} (x : α) (l : List α) (f : List α → β) : listK (x :: l) f = listK l fun m => f (x :: m) := rfl
theorem listK_eq {α β : Type} (l : List α) (f : List α → β) : listK l f = f l := by
  induction l generalizing f with
  | nil => rfl
  | cons x l ih => rw [listK_cons, ih]
/-- The value written out, handed to what follows. -/
def avK {β : Type} (v : AV) (f : AV → β) : β := AV.casesOn (motive_1 := fun _ => β) v
  (fun b => boolK b fun b => f (.bool b)) (fun k n => intK n fun n => f (.int k n)) (fun k n => f (.flt k n)) (fun k a b => f (.cpx k a b)) (fun s => listK s fun s => f (.str s))
  (f .nilp) (fun b o => natK b fun b => natK o fun o => f (.ptr b o)) (f .nils) (fun b o l c => natK b fun b => natK o fun o => natK l fun l => natK c fun c => f (.slc b o l c))
  (f .nilm) (fun b => natK b fun b => f (.map b)) (fun g a c => f (.fn g a c)) (f .nilf) (fun t v => f (.ifc t v)) (f .nili) (fun l => listK l fun l => f (.agg l)) (fun l => listK l fun l => f (.tup l)) (fun i => f (.opq i))
theorem avK_eq {β : Type} (v : AV) (f : AV → β) : avK v f = f v := by
  cases v <;> simp [avK, natK_eq, intK_eq, boolK_eq, listK_eq]
/-- Each of the values written out. -/
--DBG avL
def avL {β : Type} (l : List AV) : (List AV → β) → β :=
  List.rec (motive := fun _ => (List AV → β) → β) (fun f => f []) (fun x _ ih f => avK x fun x => ih fun m => f (x :: m)) l
--DBG end
theorem avL_cons {β : Type} (x : AV) (l : List AV) (f : List AV → β) : avL (x :: l) f = avK x fun x => avL l fun m => f (x :: m) := rfl
theorem avL_eq {β : Type} (l : List AV) (f : List AV → β) : avL l f = f l := by
  induction l generalizing f with
  | nil => rfl
  | cons x l ih => rw [avL_cons, avK_eq, ih]

/-- A name more. -/
def addK {β : Type} (s : St) (o : AO) (k : Nat → St → β) : β := St.casesOn s fun H n => Tr.setK 21 H n (some o) fun H => natK (Nat.succ n) fun m => k n ⟨H, m⟩
theorem addK_eq {β : Type} (s : St) (o : AO) (k : Nat → St → β) : addK s o k = k s.nx (s.add o) := by
  cases s; simp only [addK, Tr.setK_eq, natK_eq]; rfl
def putK {β : Type} (s : St) (n : Nat) (o : Option AO) (k : St → β) : β := St.casesOn s fun H m => Tr.setK 21 H n o fun H => k ⟨H, m⟩
theorem putK_eq {β : Type} (s : St) (n : Nat) (o : Option AO) (k : St → β) : putK s n o k = k (s.put n o) := by
  cases s; simp only [putK, Tr.setK_eq]; rfl
def room (s : St) : Bool := Nat.ble (Nat.succ s.nx) lim

/-- A field that is one scalar. -/
inductive SK where
  | s
  | i
  | b

/-- What is known of a type; sk: the fields of a struct whose fields are scalars. -/
structure TI where
  d : TypeDesc
  i : TypeInfo
  sk : Option (List SK) := none

structure Env where
  ty : Nat → Option TI
  fn : Nat → Option Func
  ext : Nat → Option (List AV → Option AV)
  G : Nat
  mth : Nat → String → Option FuncId := fun _ _ => none
  nz : Nat → Option TypeId := fun _ => none
  sum : Nat → Option (List AV → St → Option (AV × St)) := fun _ => none

def Env.und (E : Env) (t : TypeId) : Option TypeDesc := (E.ty t).map (·.d)
def Env.size (E : Env) (t : TypeId) : Option Nat := (E.ty t).map (·.i.size)
def Env.bytes (E : Env) (t : TypeId) : Option Nat := (E.ty t).map (·.i.bytes)
def Env.zero (E : Env) (t : TypeId) : Option AV := match E.ty t with
  | some x => match x.i.zero with
    | some z => quote z
    | none => none
  | none => none
def Env.agg (E : Env) (t : TypeId) : Option Bool := match E.ty t with
  | some x => match x.d with
    | .struct _ => some true
    | .array _ _ => some true
    | _ => some false
  | none => none

def cellsA : AV → List AV
  | .agg l => l
  | v => [v]

/-- Is it the value of one cell? -/
def oneA : AV → Bool
  | .agg _ => false
  | .tup _ => false
  | _ => true

def newX (s : St) (l : List AV) (e : TypeId) : Option (AV × St) := match room s with
  | true => listK l fun l => addK s (.row l e .ex) fun n s => some (.ptr n 0, s)
  | false => none

def takeN {α : Type} : Nat → List α → Option (List α)
  | 0, _ => some []
  | _ + 1, [] => none
  | n + 1, x :: l => (takeN n l).map (x :: ·)

def cellsX (s : St) (b o n : Nat) : Option (List AV) := match s.get b with
  | some (.row l _ _) => takeN n (l.drop o)
  | _ => none

def cellX (s : St) (b o : Nat) : Option AV := match s.get b with
  | some (.row l _ _) => l[o]?
  | _ => none

def loadX (E : Env) (s : St) (t : TypeId) (b o : Nat) : Option AV := match E.agg t with
  | some true => match E.size t with
    | some n => (cellsX s b o n).map .agg
    | none => none
  | some false => cellX s b o
  | none => none

/-- The list with vs laid over it from o on. -/
def layX (l : List AV) (o : Nat) (vs : List AV) : List AV := l.take o ++ vs ++ l.drop (o + vs.length)

def writable : RK → Bool
  | .ro => false
  | _ => true

def storeRow (s : St) (b o : Nat) (vs : List AV) (r : Option AO) : Option St := match r with
  | some (.row l e k) => match writable k && Nat.ble (o + vs.length) l.length && vs.all oneA with
    | true => listK (layX l o vs) fun l => putK s b (some (.row l e k)) some
    | false => none
  | _ => none
def storeCellsX (lo : Nat) (s : St) (b o : Nat) (vs : List AV) : Option St := match Nat.ble lo b && Nat.ble (Nat.succ b) lim with
  | true => storeRow s b o vs (s.get b)
  | false => none

def storeX (E : Env) (lo : Nat) (s : St) (t : TypeId) (b o : Nat) (v : AV) : Option St := match E.size t with
  | some n => match Nat.beq (cellsA v).length n with
    | true => storeCellsX lo s b o (cellsA v)
    | false => none
  | none => none

def fits : IntKind → Int → Bool
  | .i64, .ofNat m => Nat.ble m 9223372036854775807
  | .i64, .negSucc m => Nat.ble m 9223372036854775807
  | .i32, .ofNat m => Nat.ble m 2147483647
  | .i32, .negSucc m => Nat.ble m 2147483647
  | .u8, .ofNat m => Nat.ble m 255
  | .u32, .ofNat m => Nat.ble m 4294967295
  | .u64, .ofNat m => Nat.ble m 18446744073709551615
  | _, _ => false

def wrapF (k : IntKind) (n : Int) : Int := match fits k n with
  | true => n
  | false => k.wrap n

def eqI : Int → Int → Bool
  | .ofNat m, .ofNat n => Nat.beq m n
  | .negSucc m, .negSucc n => Nat.beq m n
  | _, _ => false

def ltI : Int → Int → Bool
  | .ofNat m, .ofNat n => Nat.ble (Nat.succ m) n
  | .negSucc m, .negSucc n => Nat.ble (Nat.succ n) m
  | .negSucc _, .ofNat _ => true
  | .ofNat _, .negSucc _ => false

def eqS : List UInt8 → List UInt8 → Bool
  | [], [] => true
  | a :: x, b :: y => match Nat.beq a.toNat b.toNat with
    | true => eqS x y
    | false => false
  | _, _ => false

def ltS : List UInt8 → List UInt8 → Bool
  | _, [] => false
  | [], _ :: _ => true
  | a :: x, b :: y => match Nat.ble (Nat.succ a.toNat) b.toNat with
    | true => true
    | false => match Nat.beq a.toNat b.toNat with
      | true => ltS x y
      | false => false

def pureRun {α : Type} : Sem α → Option α
  | .pure a => some a
  | .mark _ k => pureRun k
  | _ => none

/-- The plain values ys the model has them. -/
def flat : AV → Option Value
  | .bool b => some (.bool b)
  | .int k n => some (.int k n)
  | .flt k n => some (.float k n)
  | .cpx k a b => some (.complex k a b)
  | .str s => some (.string ⟨⟨s⟩⟩)
  | _ => none

def runV (x : Sem Value) : Option AV := match pureRun x with
  | some v => quote v
  | none => none

def kindEq : IntKind → IntKind → Bool
  | .i8, .i8 | .i16, .i16 | .i32, .i32 | .i64, .i64 | .u8, .u8 | .u16, .u16 | .u32, .u32 | .u64, .u64 => true
  | _, _ => false

def binI (op : BinOp) (k : IntKind) (a b : Int) : Option AV := match op with
  | .add => some (.int k (wrapF k (a + b)))
  | .sub => some (.int k (wrapF k (a - b)))
  | .mul => some (.int k (wrapF k (a * b)))
  | .eql => some (.bool (eqI a b))
  | .neq => some (.bool (!eqI a b))
  | .lss => some (.bool (ltI a b))
  | .leq => some (.bool (!ltI b a))
  | .gtr => some (.bool (ltI b a))
  | .geq => some (.bool (!ltI a b))
  | .quo | .rem => runV (Op.intDiv op k a b)
  | .and | .or | .xor | .andNot => runV (Op.intBits op k a b)
  | _ => none

def binS (op : BinOp) (a b : List UInt8) : Option AV := match op with
  | .add => match Nat.ble (a.length + b.length) 9223372036854775807 with
    | true => some (.str (a ++ b))
    | false => none
  | .eql => some (.bool (eqS a b))
  | .neq => some (.bool (!eqS a b))
  | .lss => some (.bool (ltS a b))
  | .leq => some (.bool (!ltS b a))
  | .gtr => some (.bool (ltS b a))
  | .geq => some (.bool (!ltS a b))
  | _ => none

def scalarEq : SK → AV → AV → Option Bool
  | .i, .int k a, .int k' b => match kindEq k k' with
    | true => some (eqI a b)
    | false => none
  | .s, .str a, .str b => some (eqS a b)
  | .b, .bool a, .bool b => some (match a, b with | true, true => true | false, false => true | _, _ => false)
  | _, _, _ => none

def scalarsEq : List SK → List AV → List AV → Option Bool
  | [], [], [] => some true
  | k :: ks, x :: xs, y :: ys => match scalarEq k x y with
    | some true => scalarsEq ks xs ys
    | some false => match scalarsEq ks xs ys with
      | some _ => some false
      | none => none
    | none => none
  | _, _, _ => none

/-- == on two values of one type in interfaces. -/
def ifcEq (x : Option TI) (v w : AV) : Option Bool := match x with
  | some x => match x.i.comparable with
    | true => match x.d with
      | .int _ => scalarEq .i v w
      | .string => scalarEq .s v w
      | _ => none
    | false => none
  | none => none
/-- == on two pointers to one place. -/
def ptrEq (x : Option TI) (b o c p : Nat) : Option Bool := match x with
  | some _ => match Nat.beq b c && Nat.beq o p with
    | true => some true
    | false => none
  | none => none
/-- == on two values of a type, where nothing of memory is asked. -/
def eqX (E : Env) (t : TypeId) (x y : AV) : Option Bool := match E.und t, x, y with
  | some .bool, .bool a, .bool b => some (match a, b with | true, true => true | false, false => true | _, _ => false)
  | some (.pointer _), .nilp, .nilp => some true
  | some (.pointer _), .nilp, .ptr _ _ => some false
  | some (.pointer _), .ptr _ _, .nilp => some false
  | some (.pointer e), .ptr b o, .ptr c p => ptrEq (E.ty e) b o c p
  | some (.interface _), .nili, .ifc _ _ => some false
  | some (.interface _), .ifc _ _, .nili => some false
  | some (.interface _), .ifc t v, .ifc u w => if t = u then ifcEq (E.ty t) v w else some false
  | some (.slice _), .nils, .nils => some true
  | some (.slice _), .nils, .slc _ _ _ _ => some false
  | some (.slice _), .slc _ _ _ _, .nils => some false
  | some (.map _ _), .nilm, .nilm => some true
  | some (.map _ _), .nilm, .map _ => some false
  | some (.map _ _), .map _, .nilm => some false
  | some (.func _ _ _), .nilf, .nilf => some true
  | some (.func _ _ _), .nilf, .fn _ _ _ => some false
  | some (.func _ _ _), .fn _ _ _, .nilf => some false
  | some (.struct _), .agg a, .agg b => match E.ty t with
    | some x => match x.sk with
      | some l => scalarsEq l a b
      | none => none
    | none => none
  | _, _, _ => none

def nilConst : Operand → Bool
  | .const .nilIface => true
  | _ => false

def binX (E : Env) (op : BinOp) (t : TypeId) (x y : Operand) (a b : AV) : Option AV := match a, b with
  | .int k m, .int k' n => match op with
    | .shl | .shr => runV (Op.shift op k m k' n)
    | _ => match kindEq k k' with
      | true => binI op k m n
      | false => none
  | .str m, .str n => binS op m n
  | .flt k m, .flt k' n => runV (do eqGuard op t x y (.float k m) (.float k' n); binOp op t (.float k m) (.float k' n))
  | .cpx k m m', .cpx k' n n' => runV (do eqGuard op t x y (.complex k m m') (.complex k' n n'); binOp op t (.complex k m m') (.complex k' n n'))
  | .nili, .nili => match op, E.und t, nilConst x || nilConst y with
    | .eql, some (.interface _), true => some (.bool true)
    | .neq, some (.interface _), true => some (.bool false)
    | _, _, _ => none
  | a, b => match op with
    | .eql => (eqX E t a b).map .bool
    | .neq => (eqX E t a b).map fun r => .bool (!r)
    | _ => none

def unX (op : UnOp) : AV → Option AV
  | .bool b => match op with
    | .not => some (.bool (!b))
    | _ => none
  | .int k n => runV (Op.unary op (.int k n))
  | .flt k n => runV (Op.unary op (.float k n))
  | .cpx k a b => runV (Op.unary op (.complex k a b))
  | _ => none

def intOfX : AV → Option Nat
  | .int _ (.ofNat n) => some n
  | _ => none

def sliceS (s : List UInt8) (lo hi : Option AV) : Option AV :=
  match (match hi with | none => some s.length | some v => intOfX v) with
  | none => none
  | some h => match Nat.ble h s.length with
    | false => none
    | true => match (match lo with | none => some 0 | some v => intOfX v) with
      | none => none
      | some l => match Nat.ble l h with
        | false => none
        | true => some (.str ((s.drop l).take (h - l)))

def isZeroV (v : Option AV) : Bool := match v with
  | none => true
  | some (.int _ (.ofNat 0)) => true
  | _ => false

def boundX (y d : Nat) (x : Option AV) : Option Nat := match x with
  | none => some d
  | some v => match intOfX v with
    | some n => match Nat.ble n y with
      | true => some n
      | false => none
    | none => none

/-- A slice of a slice whose room is known. -/
def sliceL (esz b o len cap : Nat) (lo hi mx : Option AV) : Option AV := match boundX cap cap mx with
  | none => none
  | some m => match hi.isNone && mx.isSome with
    | true => none
    | false => match boundX m len hi with
      | none => none
      | some h => match boundX h 0 lo with
        | none => none
        | some l => match Nat.beq m l with
          | true => some (.slc b o (Nat.sub h l) (Nat.sub m l))
          | false => some (.slc b (Nat.add o (Nat.mul l esz)) (Nat.sub h l) (Nat.sub m l))

/-- The rest of a slice whose room is not known: its room has a name of its own. -/
def sliceR (s : St) (esz b k cap l : Nat) : Option (AV × St) := match room s && Nat.ble (Nat.succ l) k with
  | true => St.casesOn s fun H n => some (.slc b (Nat.mul l esz) (Nat.sub k l) (Nat.add big n), ⟨H, Nat.succ n⟩)
  | false => none
def sliceW (s : St) (esz b k cap : Nat) (lo mx : Option AV) : Option (AV × St) := match isZeroV lo && mx.isNone with
  | true => some (.slc b 0 k cap, s)
  | false => match mx with
    | none => match boundX k 0 lo with
      | some l => sliceR s esz b k cap l
      | none => none
    | some _ => none
def upTo (len : Nat) (hi : Option AV) : Option Nat := match hi with
  | none => some len
  | some v => intOfX v

def indexX (i : AV) (n : Nat) : Option Nat := match intOfX i with
  | some k => match Nat.ble (Nat.succ k) n with
    | true => some k
    | false => none
  | none => none

def partX (E : Env) (t : TypeId) (l : List AV) (off : Nat) : Option AV := match E.agg t with
  | some true => match E.size t with
    | some n => (takeN n (l.drop off)).map .agg
    | none => none
  | some false => l[off]?
  | none => none

def fillX (place : Nat → Option (Nat × Nat)) (cells : List AV) : List (Nat × AV) → Option (List AV)
  | [] => some cells
  | (i, v) :: rest => match place i with
    | none => none
    | some (off, size) => match Nat.beq (cellsA v).length size && Nat.ble (off + size) cells.length with
      | true => fillX place (layX cells off (cellsA v)) rest
      | false => none

def placeX (E : Env) (fs : Array Field) (i : Nat) : Option (Nat × Nat) := match fs.toList[i]? with
  | some f => match E.size f.type with
    | some n => some (f.offset, n)
    | none => none
  | none => none

def placesX (E : Env) : List Field → Option (List (Nat × Nat))
  | [] => some []
  | f :: l => match E.size f.type with
    | none => none
    | some n => match placesX E l with
      | none => none
      | some m => some ((f.offset, n) :: m)

def zerosX (z : List AV) : Nat → List AV
  | 0 => []
  | n + 1 => z ++ zerosX z n

/-- The kinds of keys. -/
inductive KD where
  | one (k : SK)
  | many (l : List SK)

def keyEq : KD → AV → AV → Option Bool
  | .one k, a, b => scalarEq k a b
  | .many l, .agg a, .agg b => scalarsEq l a b
  | _, _, _ => none

def findX (d : KD) (k : AV) : List (AV × AV × Nat) → Option (Option AV)
  | [] => match keyEq d k k with
    | some _ => some none
    | none => none
  | e :: es => match keyEq d k e.1 with
    | some true => some (some e.2.1)
    | some false => findX d k es
    | none => none

def updX (d : KD) (k v : AV) (clk : Nat) : List (AV × AV × Nat) → Option (List (AV × AV × Nat) × Bool)
  | [] => match keyEq d k k with
    | some _ => some ([(k, v, clk)], true)
    | none => none
  | e :: es => match keyEq d k e.1 with
    | some true => some ((k, v, e.2.2) :: es, false)
    | some false => (updX d k v clk es).map fun (l, n) => (e :: l, n)
    | none => none

def keyD (E : Env) (t : TypeId) : Option KD := match E.ty t with
  | some x => match x.d, x.sk with
    | .int _, _ => some (.one .i)
    | .string, _ => some (.one .s)
    | .struct _, some l => some (.many l)
    | _, _ => none
  | none => none

def stringAt (s : List UInt8) (p : Nat) : Nat × Nat := Utf8.decode ⟨⟨s⟩⟩ p

def isSlice : AV → Option (Option (Nat × Nat) × Nat × Nat)
  | .nils => some (none, 0, 0)
  | .slc b o l c => some (some (b, o), l, c)
  | _ => none

def appCells (s : St) (esz : Nat) : AV → Option (List AV × Nat)
  | .nils => some ([], 0)
  | .slc b o l _ => (cellsX s b o (l * esz)).map (·, l)
  | .str x => match Nat.beq esz 1 with
    | true => some (x.map fun b => .int .u8 (.ofNat b.toNat), x.length)
    | false => none
  | _ => none

/-- append, with the cells and the number of what is appended. -/
def small (n bts : Nat) : Bool := Nat.ble (n * 16 * bts) 1099511627776 && Nat.ble n 16777216
def appNew (s : St) (e esz n : Nat) (l : List AV) : Option (AV × St) := match room s with
  | true => listK l fun l => addK s (.row l e (.gr s.nx esz)) fun m s => some (.slc m 0 n (Nat.add big m), s)
  | false => none
def slcOf (b o n c : Nat) (r : Option St) : Option (AV × St) := match r with
  | some s => some (.slc b o n c, s)
  | none => none
def appKnown (lo : Nat) (s : St) (e esz : Nat) (x : AV) (new : List AV) (n : Nat) (base : Option (Nat × Nat)) (len cap : Nat) (bts : Nat) : Option (AV × St) := match Nat.ble (len + n) cap with
  | true => match base with
    | none => some (x, s)
    | some (b, o) => slcOf b o (len + n) cap (storeCellsX lo s b (o + len * esz) new)
  | false => match appCells s esz x with
    | none => none
    | some (old, _) => match small (len + n) bts with
      | true => appNew s e esz (len + n) (old ++ new)
      | false => none
def appRow (lo : Nat) (s : St) (e esz : Nat) (new : List AV) (n b len cap : Nat) (r : Option AO) : Option (AV × St) := match r with
  | some (.row l e' (.gr cc esz')) => match Nat.beq esz' esz && Nat.beq e' e && Nat.beq cap (Nat.add big cc) with
    | false => none
    | true => match Nat.ble ((len + n) * esz) l.length with
      | true => slcOf b 0 (len + n) cap (storeCellsX lo s b (len * esz) new)
      | false => match Nat.beq (len * esz) l.length && l.all oneA with
        | true => putK s b none fun s => appNew s e esz (len + n) (l ++ new)
        | false => none
  | _ => none
def appAny (lo : Nat) (s : St) (e esz : Nat) (new : List AV) (n : Nat) (base : Option (Nat × Nat)) (len cap bts : Nat) : Option (AV × St) := match base with
  | none => none
  | some (b, o) => match Nat.ble lo b && Nat.beq o 0 && small (len + n) bts with
    | true => appRow lo s e esz new n b len cap (s.get b)
    | false => none
def zeroOk (E : Env) (e esz : Nat) : Bool := match E.zero e with
  | some z => Nat.beq (cellsA z).length esz
  | none => false
def appX (E : Env) (lo : Nat) (s : St) (e : TypeId) (x : AV) (new : List AV) (n : Nat) : Option (AV × St) := match E.size e with
  | none => none
  | some esz => match E.bytes e with
    | none => none
    | some bts => match isSlice x with
      | none => none
      | some (base, len, cap) => match Nat.ble 1 esz && new.all oneA && zeroOk E e esz with
        | false => none
        | true => match Nat.ble (Nat.succ cap) big with
          | true => appKnown lo s e esz x new n base len cap bts
          | false => appAny lo s e esz new n base len cap bts

def lenD (s : St) (d : TypeDesc) (x : AV) : Option (AV × St) := match d, x with
  | .string, .str l => some (.int .i64 (.ofNat l.length), s)
  | .slice _, .nils => some (.int .i64 (.ofNat 0), s)
  | .slice _, .slc _ _ n _ => some (.int .i64 (.ofNat n), s)
  | .array n _, _ => some (.int .i64 (.ofNat n), s)
  | .map _ _, .nilm => some (.int .i64 (.ofNat 0), s)
  | .map _ _, .map m => match s.get m with
    | some (.mp es _) => some (.int .i64 (.ofNat es.length), s)
    | _ => none
  | _, _ => none
def capD (s : St) (d : TypeDesc) (x : AV) : Option (AV × St) := match d, x with
  | .slice _, .nils => some (.int .i64 (.ofNat 0), s)
  | .slice _, .slc _ _ _ c => match Nat.ble (Nat.succ c) big with
    | true => some (.int .i64 (.ofNat c), s)
    | false => none
  | _, _ => none
def minV (s : St) (k : IntKind) (a : Int) (x : AV) : Option (AV × St) := match x with
  | .int k' b => match kindEq k k' with
    | true => some (.int k (match ltI b a with | true => b | false => a), s)
    | false => none
  | _ => none
def maxV (s : St) (k : IntKind) (a : Int) (x : AV) : Option (AV × St) := match x with
  | .int k' b => match kindEq k k' with
    | true => some (.int k (match ltI a b with | true => b | false => a), s)
    | false => none
  | _ => none
def minI (a b : Int) : Int := match ltI b a with
  | true => b
  | false => a
def min3V (s : St) (k : IntKind) (a : Int) (x y : AV) : Option (AV × St) := match x with
  | .int k' b => match y with
    | .int k'' c => match kindEq k k' && kindEq k k'' with
      | true => some (.int k (minI (minI a b) c), s)
      | false => none
    | _ => none
  | _ => none
def appZeros (E : Env) (lo : Nat) (s : St) (e : TypeId) (x : AV) (n : Nat) : Option (AV × St) := match E.zero e with
  | some z => match Nat.ble n 16777216 with
    | true => match E.size e with
      | some esz => match E.bytes e with
        | some bts => match Nat.beq (cellsA z).length esz && Nat.ble (n * bts) 1099511627776 with
          | true => appX E lo s e x (zerosX (cellsA z) n) n
          | false => none
        | none => none
      | none => none
    | false => none
  | none => none
def appCs (E : Env) (lo : Nat) (s : St) (e : TypeId) (x y : AV) : Option (AV × St) := match E.size e with
  | some esz => match appCells s esz y with
    | some (new, n) => appX E lo s e x new n
    | none => none
  | none => none
def isInt (d : TypeDesc) : Bool := match d with
  | .int _ => true
  | _ => false
def appD (E : Env) (lo : Nat) (s : St) (d d' : TypeDesc) (x y : AV) : Option (AV × St) := match d with
  | .slice e => match isInt d' with
    | true => match intOfX y with
      | some n => appZeros E lo s e x n
      | none => none
    | false => appCs E lo s e x y
  | _ => none
def copyTo (lo : Nat) (s : St) (base : Option (Nat × Nat)) (r : Option (List AV × Nat)) : Option (AV × St) := match r with
  | some (cs, n) => match base with
    | none => some (.int .i64 (.ofNat n), s)
    | some (b, o) => match storeCellsX lo s b o cs with
      | some s => some (.int .i64 (.ofNat n), s)
      | none => none
  | none => none
def copyFrom (s : St) (esz len : Nat) (y : AV) : Option (List AV × Nat) := match y with
  | .nils => some ([], 0)
  | .slc b o l _ => match cellsX s b o (Nat.min l len * esz) with
    | some cs => some (cs, Nat.min l len)
    | none => none
  | .str x => match Nat.beq esz 1 with
    | true => some ((x.take (Nat.min x.length len)).map fun b => AV.int .u8 (.ofNat b.toNat), Nat.min x.length len)
    | false => none
  | _ => none
def copyD (E : Env) (lo : Nat) (s : St) (d : TypeDesc) (x y : AV) : Option (AV × St) := match d with
  | .slice e => match E.size e with
    | some esz => match isSlice x with
      | some (base, len, _) => copyTo lo s base (copyFrom s esz len y)
      | none => none
    | none => none
  | _ => none
def cpxV (s : St) (k k' : FloatKind) (a b : Nat) : Option (AV × St) := match k, k' with
  | .f64, .f64 => some (.cpx .f64 a b, s)
  | .f32, .f32 => some (.cpx .f32 a b, s)
  | _, _ => none
/-- The first element's address. -/
def dataV (s : St) (x : AV) : Option (AV × St) := match x with
  | .nils => some (.nilp, s)
  | .slc b o _ c => match Nat.ble (Nat.succ c) big with
    | true => match c with
      | 0 => none
      | _ + 1 => some (.ptr b o, s)
    | false => match Nat.beq o 0 with
      | true => match s.get b with
        | some (.row (_ :: _) _ (.gr cc esz)) => match Nat.ble 1 esz && Nat.beq c (Nat.add big cc) with
          | true => some (.ptr b 0, s)
          | false => none
        | _ => none
      | false => none
  | _ => none
def bytesX : List AV → Option (List UInt8)
  | [] => some []
  | .int .u8 (.ofNat n) :: l => match Nat.ble n 255 with
    | true => match bytesX l with
      | some m => some (UInt8.ofNat n :: m)
      | none => none
    | false => none
  | _ :: _ => none
/-- The bytes at an address as a text: they turn no more. -/
def strRow (E : Env) (s : St) (e b n : Nat) (r : Option AO) : Option (AV × St) := match r with
  | some (.row l e' k) => match Nat.beq e' e && Nat.ble n 16777216 && writable k with
    | true => match E.size e with
      | some 1 => match takeN n l with
        | some cs => match bytesX cs with
          | some bs => listK bs fun bs => putK s b (some (.row l e .ro)) fun s => some (.str bs, s)
          | none => none
        | none => none
      | _ => none
    | false => none
  | _ => none
def strData (E : Env) (lo : Nat) (s : St) (e : TypeId) (p : AV) (n : Nat) : Option (AV × St) := match n with
  | 0 => match p with
    | .nilp => some (.str [], s)
    | .ptr _ _ => some (.str [], s)
    | _ => none
  | m + 1 => match p with
    | .ptr b 0 => match Nat.ble lo b && Nat.ble (Nat.succ b) lim with
      | true => strRow E s e b (m + 1) (s.get b)
      | false => none
    | _ => none
def builtinX (E : Env) (lo : Nat) (s : St) (b : Builtin) (ts : Array TypeId) (args : List AV) : Option (AV × St) := match b, args, ts.toList with
  | .len, [x], [t] => match E.und t with
    | some d => lenD s d x
    | none => none
  | .cap, [x], [t] => match E.und t with
    | some d => capD s d x
    | none => none
  | .min, [.int k a, x], _ => minV s k a x
  | .max, [.int k a, x], _ => maxV s k a x
  | .min, [.int k a, x, y], _ => min3V s k a x y
  | .append, [x, y], [t, u] => match E.und t with
    | some d => match E.und u with
      | some d' => appD E lo s d d' x y
      | none => none
    | none => none
  | .copy, [x, y], t :: _ => match E.und t with
    | some d => copyD E lo s d x y
    | none => none
  | .real, [.cpx k a _], _ => some (.flt k a, s)
  | .imag, [.cpx k _ a], _ => some (.flt k a, s)
  | .complex, [.flt k a, .flt k' b], _ => cpxV s k k' a b
  | .unsafeSliceData, [x], _ => dataV s x
  | .unsafeString, [p, .int .i64 (.ofNat n)], [t, _] => match E.und t with
    | some (.pointer e) => strData E lo s e p n
    | _ => none
  | _, _, _ => none

structure Fr where
  T : Tr AV
  n : Nat
  G : Nat

def evT (t : Nat) (f : Fr) : Option AV := match Tr.get f.T t with
  | some v => some v
  | none => some (.tup [])
def evC (v : Value) (_ : Fr) : Option AV := quote v
def evG (g : Nat) (f : Fr) : Option AV := match Nat.ble (Nat.succ g) f.G with
  | true => some (.ptr g 0)
  | false => none
def evF (g : Nat) (_ : Fr) : Option AV := some (.fn g [] [])
def evX (o : Operand) : Fr → Option AV := match o with
  | .tmp t => evT t
  | .const v => evC v
  | .global g => evG g
  | .func g => evF g

def ret1 (o : Option AV) (s : St) : Option (AV × St) := match o with
  | some v => some (v, s)
  | none => none

def operandsX (l : List Operand) (f : Fr) : Option (List AV) := match l with
  | [] => some []
  | x :: l => match evX x f with
    | none => none
    | some v => match operandsX l f with
      | none => none
      | some m => some (v :: m)

def partsX (l : List (Nat × Operand)) (f : Fr) : Option (List (Nat × AV)) := match l with
  | [] => some []
  | (i, x) :: l => match evX x f with
    | none => none
    | some v => match partsX l f with
      | none => none
      | some m => some ((i, v) :: m)

def optX (x : Option Operand) (f : Fr) : Option (Option AV) := match x with
  | none => some none
  | some x => match evX x f with
    | some v => some (some v)
    | none => none

def moveX (x : Operand) (_ : Env) (_ : Nat) (f : Fr) (s : St) : Option (AV × St) := ret1 (evX x f) s

def pickV (a b : Operand) (f : Fr) (s : St) (c : Option AV) : Option (AV × St) := match c with
  | some (.bool true) => ret1 (evX a f) s
  | some (.bool false) => ret1 (evX b f) s
  | _ => none
def pickX (c a b : Operand) (_ : Env) (_ : Nat) (f : Fr) (s : St) : Option (AV × St) := pickV a b f s (evX c f)

def allocX (t : TypeId) (E : Env) (_ : Nat) (_ : Fr) (s : St) : Option (AV × St) := match E.zero t with
  | some z => newX s (cellsA z) t
  | none => none

def boxX (t : TypeId) (x : Operand) (_ : Env) (_ : Nat) (f : Fr) (s : St) : Option (AV × St) := match evX x f with
  | some v => newX s (cellsA v) t
  | none => none

def aggOf (o : Option (List AV)) (s : St) : Option (AV × St) := match o with
  | some l => some (.agg l, s)
  | none => none
def buildD (d : TypeDesc) (E : Env) (z : AV) (parts : List (Nat × AV)) (s : St) : Option (AV × St) := match d with
  | .struct fs => match placesX E fs.toList with
    | some places => aggOf (fillX (fun i => places[i]?) (cellsA z) parts) s
    | none => none
  | .array _ e => match E.size e with
    | some n => aggOf (fillX (fun i => some (i * n, n)) (cellsA z) parts) s
    | none => none
  | _ => none
def buildX (t : TypeId) (ps : Array (Nat × Operand)) (E : Env) (_ : Nat) (f : Fr) (s : St) : Option (AV × St) := match E.und t with
  | none => none
  | some d => match E.zero t with
    | none => none
    | some z => match partsX ps.toList f with
      | none => none
      | some parts => buildD d E z parts s

def sliceNew (s : St) (n m : Nat) (r : Option (AV × St)) : Option (AV × St) := match r with
  | some (_, s') => some (.slc s.nx 0 n m, s')
  | none => none
def buildSliceE (e len : Nat) (E : Env) (parts : List (Nat × AV)) (s : St) : Option (AV × St) := match E.size e with
  | none => none
  | some n => match E.zero e with
    | none => none
    | some z => match Nat.ble (len * n) 16777216 && Nat.beq (cellsA z).length n && Nat.ble len 16777216 with
      | false => none
      | true => match fillX (fun i => some (i * n, n)) (zerosX (cellsA z) len) parts with
        | some l => sliceNew s len len (newX s l e)
        | none => none
def buildSliceX (t len : Nat) (ps : Array (Nat × Operand)) (E : Env) (_ : Nat) (f : Fr) (s : St) : Option (AV × St) := match E.und t with
  | some (.slice e) => match partsX ps.toList f with
    | some parts => buildSliceE e len E parts s
    | none => none
  | _ => none

def loadV (t : TypeId) (E : Env) (s : St) (a : Option AV) : Option (AV × St) := match a with
  | some (.ptr b o) => ret1 (loadX E s t b o) s
  | _ => none
def loadO (t : TypeId) (x : Operand) (E : Env) (_ : Nat) (f : Fr) (s : St) : Option (AV × St) := loadV t E s (evX x f)

def skipSt (r : Option St) : Option (AV × St) := match r with
  | some s => some (.tup [], s)
  | none => none
def storeV (t : TypeId) (E : Env) (lo : Nat) (s : St) (a v : Option AV) : Option (AV × St) := match a with
  | some (.ptr b o) => match v with
    | some v => skipSt (storeX E lo s t b o v)
    | none => none
  | _ => none
def storeO (t : TypeId) (x y : Operand) (E : Env) (lo : Nat) (f : Fr) (s : St) : Option (AV × St) := storeV t E lo s (evX x f) (evX y f)

def nilOk (a : Option AV) (s : St) : Option (AV × St) := match a with
  | some (.ptr b o) => some (.ptr b o, s)
  | some (.ifc t v) => some (.ifc t v, s)
  | some (.fn f a c) => some (.fn f a c, s)
  | _ => none
def nilCheckX (x : Operand) (_ : Env) (_ : Nat) (f : Fr) (s : St) : Option (AV × St) := nilOk (evX x f) s

def binO (op : BinOp) (t : TypeId) (x y : Operand) (E : Env) (_ : Nat) (f : Fr) (s : St) : Option (AV × St) := match evX x f with
  | none => none
  | some a => match evX y f with
    | none => none
    | some b => ret1 (binX E op t x y a b) s

def unO (op : UnOp) (x : Operand) (_ : Env) (_ : Nat) (f : Fr) (s : St) : Option (AV × St) := match evX x f with
  | some a => ret1 (unX op a) s
  | none => none

def convInt (k : IntKind) (s : St) (v : AV) : Option (AV × St) := match v with
  | .int _ n => some (.int k (wrapF k n), s)
  | _ => none
def convFlt (k : FloatKind) (s : St) (v : AV) : Option (AV × St) := match v with
  | .int _ n => ret1 (runV (Conv.intToFloat k n)) s
  | .flt k' n => ret1 (runV (Conv.floatToFloat k' n k)) s
  | _ => none
def bytesOf : List AV → Option (List UInt8)
  | [] => some []
  | .int .u8 n :: l => match bytesOf l with
    | some m => some (UInt8.ofNat n.toNat :: m)
    | none => none
  | _ :: _ => none
def strOf (r : Option (List UInt8)) (s : St) : Option (AV × St) := match r with
  | some l => some (.str l, s)
  | none => none
def convBytes (s : St) (v : AV) : Option (AV × St) := match v with
  | .nils => some (.str [], s)
  | .slc b o l _ => match cellsX s b o l with
    | some cs => strOf (bytesOf cs) s
    | none => none
  | _ => none
def convStr (d : TypeDesc) (E : Env) (s : St) (v : AV) : Option (AV × St) := match v with
  | .int _ n => ret1 (runV (Conv.intToString n)) s
  | .str l => some (.str l, s)
  | v => match d with
    | .slice e => match E.und e with
      | some (.int .u8) => convBytes s v
      | _ => none
    | _ => none
def byteCells (l : List UInt8) : List AV := l.map fun b => .int .u8 (.ofNat b.toNat)
def runesX (l : List UInt8) : Nat → Nat → List AV
  | 0, _ => []
  | n + 1, p => match Nat.ble (Nat.succ p) l.length with
    | true => natK (stringAt l p).1 fun c => natK (Nat.add p (stringAt l p).2) fun q => .int .i32 (.ofNat c) :: runesX l n q
    | false => []
def runeNew (s : St) (e : Nat) (l : List AV) : Option (AV × St) := appNew s e 1 l.length l
def convSl (e : TypeId) (E : Env) (s : St) (v : AV) : Option (AV × St) := match v with
  | .str l => match E.und e with
    | some (.int .u8) => appNew s e 1 l.length (byteCells l)
    | some (.int .i32) => runeNew s e (runesX l l.length 0)
    | _ => none
  | _ => none
/-- To unsafe.Pointer. -/
def convUp (d : TypeDesc) (E : Env) (s : St) (v : AV) : Option (AV × St) := match d with
  | .pointer t => match v with
    | .nilp => some (.nilp, s)
    | .ptr b o => match E.size t with
      | some (_ + 1) => match s.get b with
        | some (.row l _ _) => match Nat.ble (Nat.succ o) l.length with
          | true => some (.ptr b o, s)
          | false => none
        | _ => none
      | _ => none
    | _ => none
  | _ => none
/-- From unsafe.Pointer. -/
def convUn (d : TypeDesc) (u : TypeId) (E : Env) (s : St) (v : AV) : Option (AV × St) := match d with
  | .unsafePointer => match v with
    | .nilp => some (.nilp, s)
    | .ptr b 0 => match E.size u with
      | some (n + 1) => match s.get b with
        | some (.row l e k) => match Nat.beq e u && Nat.ble (n + 1) l.length && writable k with
          | true => some (.ptr b 0, s)
          | false => none
        | _ => none
      | _ => none
    | _ => none
  | _ => none
def convD (d d' : TypeDesc) (E : Env) (s : St) (v : AV) : Option (AV × St) := match d' with
  | .unsafePointer => convUp d E s v
  | .pointer u => convUn d u E s v
  | .int k => convInt k s v
  | .float k => convFlt k s v
  | .string => convStr d E s v
  | .slice e => convSl e E s v
  | _ => none
def convX (src dst : TypeId) (x : Operand) (E : Env) (_ : Nat) (f : Fr) (s : St) : Option (AV × St) := match E.und src with
  | none => none
  | some d => match E.und dst with
    | none => none
    | some d' => match evX x f with
      | none => none
      | some v => convD d d' E s v

def notIface (d : TypeDesc) : Bool := match d with
  | .interface _ => false
  | _ => true
def ifaceX (t : TypeId) (x : Operand) (E : Env) (_ : Nat) (f : Fr) (s : St) : Option (AV × St) := match E.und t with
  | none => none
  | some d => match notIface d with
    | false => none
    | true => match evX x f with
      | some v => some (.ifc t v, s)
      | none => none

def makeFuncX (g : Fn) (a c : Array Operand) (_ : Env) (_ : Nat) (f : Fr) (s : St) : Option (AV × St) := match g with
  | .func g => match operandsX a.toList f with
    | none => none
    | some a => match operandsX c.toList f with
      | none => none
      | some c => some (.fn g a c, s)
  | _ => none

def newObjX (s : St) (o : AO) (v : AV) : Option (AV × St) := match room s with
  | true => addK s o fun _ s => some (v, s)
  | false => none
def makeMapX (t : TypeId) (r : Option Operand) (E : Env) (_ : Nat) (f : Fr) (s : St) : Option (AV × St) := match r with
  | none => newObjX s (.mp [] 0) (.map s.nx)
  | some x => match E.und t with
    | some (.map _ _) => match evX x f with
      | some (.int _ _) => newObjX s (.mp [] 0) (.map s.nx)
      | _ => none
    | _ => none

def makeSliceE (e n m : Nat) (E : Env) (s : St) : Option (AV × St) := match E.size e with
  | none => none
  | some esz => match E.bytes e with
    | none => none
    | some bts => match E.zero e with
      | none => none
      | some z => match Nat.ble n m && Nat.ble (m * bts) 16777216 && Nat.ble m 16777216 && Nat.beq (cellsA z).length esz with
        | true => sliceNew s n m (newX s (zerosX (cellsA z) m) e)
        | false => none
def makeSliceV (e : TypeId) (E : Env) (s : St) (l c : Option AV) : Option (AV × St) := match l with
  | some (.int .i64 (.ofNat n)) => match c with
    | some (.int .i64 (.ofNat m)) => makeSliceE e n m E s
    | _ => none
  | _ => none
def makeSliceX (t : TypeId) (l c : Operand) (E : Env) (_ : Nat) (f : Fr) (s : St) : Option (AV × St) := match E.und t with
  | some (.slice e) => makeSliceV e E s (evX l f) (evX c f)
  | _ => none

def growOk (s : St) (b esz c o n : Nat) : Bool := match s.get b with
  | some (.row r _ (.gr cc esz')) => Nat.beq esz' esz && Nat.ble 1 esz && Nat.beq c (Nat.add big cc) && Nat.beq o 0 && Nat.ble (n * esz) r.length
  | _ => false
def sliceSl (e : TypeId) (E : Env) (s : St) (l h m : Option AV) (v : AV) : Option (AV × St) := match v with
  | .nils => match E.size e with
    | none => none
    | some _ => match isZeroV l && isZeroV h && m.isNone with
      | true => some (.nils, s)
      | false => none
  | .slc b o n c => match E.size e with
    | none => none
    | some esz => match Nat.ble (Nat.succ c) big with
      | true => match Nat.ble n c with
        | true => ret1 (sliceL esz b o n c l h m) s
        | false => none
      | false => match upTo n h with
        | none => none
        | some k => match growOk s b esz c o k with
          | true => sliceW s esz b k c l m
          | false => none
  | _ => none
def sliceAr (e n : Nat) (E : Env) (s : St) (l h m : Option AV) (v : AV) : Option (AV × St) := match v with
  | .ptr b o => match E.size e with
    | some esz => match Nat.ble (Nat.succ n) big with
      | true => ret1 (sliceL esz b o n n l h m) s
      | false => none
    | none => none
  | _ => none
def sliceSt (s : St) (l h m : Option AV) (v : AV) : Option (AV × St) := match v with
  | .str b => match m with
    | none => ret1 (sliceS b l h) s
    | some _ => none
  | _ => none
def sliceD (d : TypeDesc) (E : Env) (s : St) (l h m : Option AV) (v : AV) : Option (AV × St) := match d with
  | .string => sliceSt s l h m v
  | .slice e => sliceSl e E s l h m v
  | .array n e => sliceAr e n E s l h m v
  | _ => none
def sliceO (t : TypeId) (x : Operand) (l h m : Option Operand) (E : Env) (_ : Nat) (f : Fr) (s : St) : Option (AV × St) := match optX l f with
  | none => none
  | some l => match optX h f with
    | none => none
    | some h => match optX m f with
      | none => none
      | some m => match E.und t with
        | none => none
        | some d => match evX x f with
          | none => none
          | some v => sliceD d E s l h m v

def fieldAddrP (b o : Nat) (s : St) (p : Option (Nat × Nat)) : Option (AV × St) := match p with
  | some (off, n) => match n with
    | 0 => none
    | _ + 1 => some (.ptr b (Nat.add o off), s)
  | none => none
def fieldAddrD (d : TypeDesc) (i : Nat) (E : Env) (s : St) (v : Option AV) : Option (AV × St) := match d with
  | .struct fs => match v with
    | some (.ptr b o) => fieldAddrP b o s (placeX E fs i)
    | _ => none
  | _ => none
def fieldAddrX (t : TypeId) (x : Operand) (i : Nat) (E : Env) (_ : Nat) (f : Fr) (s : St) : Option (AV × St) := match E.und t with
  | some d => fieldAddrD d i E s (evX x f)
  | none => none

def fieldF (E : Env) (l : List AV) (s : St) (g : Option Field) : Option (AV × St) := match g with
  | some g => ret1 (partX E g.type l g.offset) s
  | none => none
def fieldD (d : TypeDesc) (i : Nat) (E : Env) (s : St) (v : Option AV) : Option (AV × St) := match d with
  | .struct fs => match v with
    | some (.agg l) => fieldF E l s fs.toList[i]?
    | _ => none
  | _ => none
def fieldX (t : TypeId) (x : Operand) (i : Nat) (E : Env) (_ : Nat) (f : Fr) (s : St) : Option (AV × St) := match E.und t with
  | some d => fieldD d i E s (evX x f)
  | none => none

def indexAt (E : Env) (e b o : Nat) (s : St) (k : Option Nat) : Option (AV × St) := match k with
  | some k => match E.size e with
    | some esz => some (.ptr b (Nat.add o (Nat.mul k esz)), s)
    | none => none
  | none => none
def indexAddrD (d : TypeDesc) (E : Env) (s : St) (v : AV) (i : AV) : Option (AV × St) := match d with
  | .slice e => match v with
    | .slc b o n _ => indexAt E e b o s (indexX i n)
    | _ => none
  | .array n e => match v with
    | .ptr b o => indexAt E e b o s (indexX i n)
    | _ => none
  | _ => none
def indexAddrX (t : TypeId) (x i : Operand) (E : Env) (_ : Nat) (f : Fr) (s : St) : Option (AV × St) := match E.und t with
  | none => none
  | some d => match evX x f with
    | none => none
    | some v => match evX i f with
      | none => none
      | some i => indexAddrD d E s v i

def byteX (o : Option UInt8) (s : St) : Option (AV × St) := match o with
  | some b => some (.int .u8 (.ofNat b.toNat), s)
  | none => none
def indexArr (E : Env) (e : TypeId) (l : List AV) (s : St) (k : Option Nat) : Option (AV × St) := match k with
  | some k => match E.size e with
    | some esz => ret1 (partX E e l (Nat.mul k esz)) s
    | none => none
  | none => none
def indexStr (l : List UInt8) (s : St) (k : Option Nat) : Option (AV × St) := match k with
  | some k => byteX l[k]? s
  | none => none
def indexD (d : TypeDesc) (E : Env) (s : St) (v : AV) (i : AV) : Option (AV × St) := match d with
  | .string => match v with
    | .str l => indexStr l s (intOfX i)
    | _ => none
  | .array n e => match v with
    | .agg l => indexArr E e l s (indexX i n)
    | _ => none
  | _ => none
def indexO (t : TypeId) (x i : Operand) (E : Env) (_ : Nat) (f : Fr) (s : St) : Option (AV × St) := match E.und t with
  | none => none
  | some d => match evX x f with
    | none => none
    | some v => match evX i f with
      | none => none
      | some i => indexD d E s v i

def entriesOf (s : St) (m : AV) : Option (List (AV × AV × Nat)) := match m with
  | .nilm => some []
  | .map b => match s.get b with
    | some (.mp es _) => some es
    | _ => none
  | _ => none
def okX (ok : Bool) (v : AV) (is : Bool) (s : St) : Option (AV × St) := match ok with
  | true => some (.tup [v, .bool is], s)
  | false => some (v, s)
def foundX (ok : Bool) (et : TypeId) (E : Env) (s : St) (r : Option (Option AV)) : Option (AV × St) := match r with
  | none => none
  | some (some v) => okX ok v true s
  | some none => match E.zero et with
    | some z => okX ok z false s
    | none => none
def lookupE (kt et : TypeId) (ok : Bool) (E : Env) (s : St) (m k : AV) : Option (AV × St) := match keyD E kt with
  | none => none
  | some d => match entriesOf s m with
    | none => none
    | some es => foundX ok et E s (findX d k es)
def lookupX (t : TypeId) (x k : Operand) (ok : Bool) (E : Env) (_ : Nat) (f : Fr) (s : St) : Option (AV × St) := match E.und t with
  | some (.map kt et) => match evX x f with
    | none => none
    | some m => match evX k f with
      | none => none
      | some k => lookupE kt et ok E s m k
  | _ => none

def putMap (s : St) (b clk : Nat) (r : Option (List (AV × AV × Nat) × Bool)) : Option (AV × St) := match r with
  | none => none
  | some (es, true) => putK s b (some (.mp es (Nat.succ clk))) fun s => some (.tup [], s)
  | some (es, false) => putK s b (some (.mp es clk)) fun s => some (.tup [], s)
def updateE (d : KD) (lo : Nat) (s : St) (b : Nat) (k v : AV) : Option (AV × St) := match Nat.ble lo b && Nat.ble (Nat.succ b) lim with
  | false => none
  | true => match s.get b with
    | some (.mp es clk) => putMap s b clk (updX d k v clk es)
    | _ => none
def updateV (kt : TypeId) (E : Env) (lo : Nat) (s : St) (m k v : AV) : Option (AV × St) := match m with
  | .map b => match keyD E kt with
    | some d => updateE d lo s b k v
    | none => none
  | _ => none
def mapUpdateX (t : TypeId) (x k v : Operand) (E : Env) (lo : Nat) (f : Fr) (s : St) : Option (AV × St) := match E.und t with
  | some (.map kt _) => match evX x f with
    | none => none
    | some m => match evX k f with
      | none => none
      | some k => match evX v f with
        | none => none
        | some v => updateV kt E lo s m k v
  | _ => none

def rangeD (d : TypeDesc) (s : St) (v : AV) : Option (AV × St) := match d with
  | .string => match v with
    | .str l => newObjX s (.sit l 0) (.ptr s.nx 0)
    | _ => none
  | .map _ _ => match v with
    | .nilm => newObjX s (.mit none 0 [] 0) (.ptr s.nx 0)
    | .map m => match s.get m with
      | some (.mp _ clk) => newObjX s (.mit (some m) clk [] clk) (.ptr s.nx 0)
      | _ => none
    | _ => none
  | _ => none
def rangeX (t : TypeId) (x : Operand) (E : Env) (_ : Nat) (f : Fr) (s : St) : Option (AV × St) := match E.und t with
  | none => none
  | some d => match evX x f with
    | none => none
    | some v => rangeD d s v

def over : AV := .tup [.bool false]
def nextStr (s : St) (b : Nat) (l : List UInt8) (p : Nat) : Option (AV × St) := match Nat.ble (Nat.succ p) l.length with
  | true => natK (stringAt l p).1 fun c => natK (Nat.add p (stringAt l p).2) fun q =>
      putK s b (some (.sit l q)) fun s => some (.tup [.bool true, .int .i64 (.ofNat p), .int .i32 (.ofNat c)], s)
  | false => some (over, s)
def nextMap (s : St) (r : Option AO) : Option (AV × St) := match r with
  | some (.mp [] _) => some (over, s)
  | _ => none
def nextV (isS : Bool) (s : St) (b : Nat) (r : Option AO) : Option (AV × St) := match r with
  | some (.sit l p) => match isS with
    | true => nextStr s b l p
    | false => none
  | some (.mit m _ _ _) => match isS with
    | true => none
    | false => match m with
      | none => some (over, s)
      | some m => nextMap s (s.get m)
  | _ => none
def nextX (x : Operand) (isS : Bool) (_ : Env) (lo : Nat) (f : Fr) (s : St) : Option (AV × St) := match evX x f with
  | some (.ptr b 0) => match Nat.ble lo b with
    | true => nextV isS s b (s.get b)
    | false => none
  | _ => none

def assertN (t : TypeId) (ok : Bool) (E : Env) (s : St) : Option (AV × St) := match ok with
  | false => none
  | true => match E.zero t with
    | some z => some (.tup [z, .bool false], s)
    | none => none
def assertV (t : TypeId) (ok : Bool) (E : Env) (s : St) (v : Option AV) : Option (AV × St) := match v with
  | some (.ifc u v) => match Nat.beq u t with
    | true => okX ok v true s
    | false => assertN t ok E s
  | some .nili => assertN t ok E s
  | _ => none
def assertX (x : Operand) (t : TypeId) (ok : Bool) (E : Env) (_ : Nat) (f : Fr) (s : St) : Option (AV × St) := match E.und t with
  | none => none
  | some d => match notIface d with
    | false => none
    | true => assertV t ok E s (evX x f)

def extractV (i : Nat) (s : St) (v : Option AV) : Option (AV × St) := match v with
  | some (.tup l) => ret1 l[i]? s
  | _ => none
def extractX (x : Operand) (i : Nat) (_ : Env) (_ : Nat) (f : Fr) (s : St) : Option (AV × St) := extractV i s (evX x f)

def builtinO (b : Builtin) (xs : Array Operand) (ts : Array TypeId) (E : Env) (lo : Nat) (f : Fr) (s : St) : Option (AV × St) := match operandsX xs.toList f with
  | some xs => builtinX E lo s b ts xs
  | none => none

def noneX (_ : Env) (_ : Nat) (_ : Fr) (_ : St) : Option (AV × St) := none

def callO (c : Call) : Env → Nat → Fr → St → Option (AV × St) := match c.callee with
  | .builtin b => builtinO b c.args c.argTypes
  | _ => noneX

def opX (o : Op) : Env → Nat → Fr → St → Option (AV × St) := match o with
  | .move x => moveX x
  | .assign x => moveX x
  | .pick c a b => pickX c a b
  | .alloc t => allocX t
  | .box t x => boxX t x
  | .build t ps => buildX t ps
  | .buildSlice t n ps => buildSliceX t n ps
  | .load t x => loadO t x
  | .store t x y => storeO t x y
  | .nilCheck x => nilCheckX x
  | .binOp op t x y _ => binO op t x y
  | .unOp op _ x => unO op x
  | .convert a b x => convX a b x
  | .makeInterface t x => ifaceX t x
  | .makeFunc g a c => makeFuncX g a c
  | .makeMap t r => makeMapX t r
  | .makeSlice t l c => makeSliceX t l c
  | .slice t x l h m => sliceO t x l h m
  | .fieldAddr t x i => fieldAddrX t x i
  | .field t x i => fieldX t x i
  | .indexAddr t x i => indexAddrX t x i
  | .index t x i => indexO t x i
  | .lookup t x k ok => lookupX t x k ok
  | .mapUpdate t x k v => mapUpdateX t x k v
  | .insert t x k v => mapUpdateX t x k v
  | .range t x => rangeX t x
  | .next x isS => nextX x isS
  | .typeAssert x _ t ok => assertX x t ok
  | .extract x i => extractX x i
  | .call c => callO c
  | _ => noneX

inductive Ex where
  | normal
  | exit (id : Nat)
  | ret
  | goto (l : Nat)

def yieldO (f : Fr) (o : Option Oper) : Option Bool := match o with
  | some o => match o.dst with
    | some d => match Tr.get f.T d with
      | some (.bool b) => some b
      | _ => none
    | none => none
  | none => none

def eqB : Bool → Bool → Bool
  | true, true => true
  | false, false => true
  | _, _ => false

def wantJ (f : Fr) (all : List Oper) (j : Nat) (want : Bool) : Bool := match yieldO f all[j]? with
  | some b => eqB b want
  | none => false
def wantX (f : Fr) (all : List Oper) (o : Oper) : Bool := match o.guard with
  | none => true
  | some (j, want) => wantJ f all j want

/-- A call of a function, by its number and arguments. -/
abbrev CallX := Nat → FuncId → List AV → St → Option (AV × St)

def targetV (f : Option AV) (xs : Option (List AV)) : Option (FuncId × List AV) := match f with
  | some (.fn g a k) => match xs with
    | some xs => some (g, a ++ xs ++ k)
    | none => none
  | _ => none
def targetN (g : Option FuncId) (v : AV) (xs : Option (List AV)) : Option (FuncId × List AV) := match g with
  | some g => match xs with
    | some xs => some (g, v :: xs)
    | none => none
  | none => none
def targetM (E : Env) (m : String) (r : Option AV) (xs : Option (List AV)) : Option (FuncId × List AV) := match r with
  | some (.ifc t v) => targetN (E.mth t m) v xs
  | _ => none
def targetX (c : Call) (E : Env) (f : Fr) : Option (FuncId × List AV) := match c.callee with
  | .value g => targetV (evX g f) (operandsX c.args.toList f)
  | .invoke g m => targetM E m (evX g f) (operandsX c.args.toList f)
  | _ => none

def callT (call : CallX) (lo : Nat) (s : St) (t : Option (FuncId × List AV)) : Option (AV × St) := match t with
  | some (g, xs) => avL xs fun xs => call lo g xs s
  | none => none

def stepC (c : Call) (E : Env) (call : CallX) (lo : Nat) (f : Fr) (s : St) : Option (AV × St) := match c.callee with
  | .builtin b => builtinO b c.args c.argTypes E lo f s
  | _ => callT call lo s (targetX c E f)

def stepX (o : Op) (E : Env) (call : CallX) (lo : Nat) (f : Fr) (s : St) : Option (AV × St) := match o with
  | .call c => stepC c E call lo f s
  | o => opX o E lo f s

def putX {β : Type} (d : Option Tmp) (v : AV) (f : Fr) (k : Fr → Option β) : Option β := match d with
  | none => k f
  | some d => match Nat.ble (Nat.succ d) f.n with
    | true => Fr.casesOn f fun T n G => Tr.setK 11 T d (some v) fun T => k ⟨T, n, G⟩
    | false => none

def forced {β : Type} (r : Option (AV × St)) (k : AV → St → Option β) : Option β := match r with
  | some (v, s) => avK v fun v => k v s
  | none => none

--DBG opsX
def opsX (l : List Oper) : Env → CallX → Nat → List Oper → Fr → St → Option (Fr × St) :=
  List.rec (motive := fun _ => Env → CallX → Nat → List Oper → Fr → St → Option (Fr × St)) (fun _ _ _ _ f s => some (f, s))
    (fun o _ ih E call lo all f s => Bool.rec (motive := fun _ => Option (Fr × St)) (putX o.dst (.tup []) f fun f => ih E call lo all f s)
      (forced (stepX o.op E call lo f s) fun v s => putX o.dst v f fun f => ih E call lo all f s) (wantX f all o)) l
--DBG end

/-! ### A region whose order is drawn -/

def readsOf (all : List Oper) (o : Oper) : List Nat := (o.op.operands.toList.filterMap fun x => match x with | .tmp t => some t | _ => none) ++
  (match o.guard with | some (j, _) => ((all[j]?).bind (·.dst)).toList | none => [])

def maskOf (bs : List Nat) (i : Nat) : List Edge → Option Nat
  | [] => some 0
  | e :: es => match maskOf bs i es with
    | none => none
    | some m => match Region.binds .any e with
      | false => some m
      | true => match Nat.ble (Nat.succ e.on) i with
        | true => match bs[e.on]? with
          | some b => some (Nat.lor m (Nat.lor (Nat.shiftLeft 1 e.on) b))
          | none => none
        | false => none

/-- For each operation, the operations that come before it in every order. -/
def befores : List Oper → Nat → List Nat → Option (List Nat)
  | [], _, bs => some bs
  | o :: l, i, bs => match maskOf bs i o.after.toList with
    | some m => befores l (Nat.succ i) (bs ++ [m])
    | none => none

/-- Do two operations, the first ahead in the text, meet at a slot? -/
def meetX (all : List Oper) (x y : Oper) : Bool :=
  (match x.dst with | some d => (readsOf all y).any (Nat.beq d) || (match y.dst with | some e => Nat.beq d e | none => false) | none => false) ||
  (match y.dst with | some d => (readsOf all x).any (Nat.beq d) | none => false)

def slotsOk (all : List Oper) (bs : List Nat) : Bool :=
  (List.range all.length).all fun j => (List.range j).all fun i => match all[i]?, all[j]?, bs[j]? with
    | some x, some y, some b => !meetX all x y || Nat.testBit b i
    | _, _, _ => false

def plan (all : List Oper) : Option (List Nat) := match befores all 0 [] with
  | some bs => match slotsOk all bs && Nat.beq bs.length all.length with
    | true => some bs
    | false => none
  | none => none

inductive DK where
  | free
  | look (x : Operand)
  | read (x : Operand)
  | touch (x : Option Operand)

/-- How an operation meets memory: not at all; it reads the one block of an operand; it writes the one block of an operand, or whatever. -/
def kindB : Builtin → DK
  | .len => .free
  | .cap => .free
  | .min => .free
  | .max => .free
  | .real => .free
  | .imag => .free
  | .complex => .free
  | _ => .touch none
def kindX : Op → DK
  | .load _ x => .read x
  | .slice _ x _ _ _ => .look x
  | .convert _ _ x => .look x
  | .lookup _ x _ _ => .read x
  | .store _ x _ => .touch (some x)
  | .mapUpdate _ x _ _ => .touch (some x)
  | .insert _ x _ _ => .touch (some x)
  | .next _ _ => .touch none
  | .call c => match c.callee with
    | .builtin b => kindB b
    | _ => .touch none
  | .range _ _ => .touch none
  | _ => .free

/-- The block of a pointer or a map. -/
def blockOf : Option AV → Option Nat
  | some (.ptr b _) => some b
  | some (.map b) => some b
  | some (.slc b _ _ _) => some b
  | _ => none

def noName0 : AV → Bool
  | .bool _ | .int _ _ | .flt _ _ | .cpx _ _ _ | .str _ | .nilp | .nils | .nilm | .nilf | .nili => true
  | _ => false
def noNames : AV → Bool
  | .bool _ | .int _ _ | .flt _ _ | .cpx _ _ _ | .str _ | .nilp | .nils | .nilm | .nilf | .nili => true
  | .ifc _ v => noNames v
  | .agg l => l.all noName0
  | _ => false
def noNamesL : AV → Bool
  | .agg l => l.all noNames
  | .tup l => l.all noNames
  | v => noNames v

/-- Are a value's names below n? -/
def below1 (n : Nat) : AV → Bool
  | .ptr b _ => Nat.ble (Nat.succ b) n
  | .slc b _ _ c => Nat.ble (Nat.succ b) n && (Nat.ble (Nat.succ c) big || Nat.ble (Nat.succ (Nat.sub c big)) n)
  | .map b => Nat.ble (Nat.succ b) n
  | v => noNames v
def belowX (n : Nat) : AV → Bool
  | .agg l => l.all (below1 n)
  | .tup l => l.all (below1 n)
  | v => below1 n v

--DBG mergeN
noncomputable def mergeN {β : Type} (k : Nat) : Tr AO → Tr AO → Nat → (Tr AO → β) → β :=
  Nat.rec (motive := fun _ => Tr AO → Tr AO → Nat → (Tr AO → β) → β) (fun _ H _ f => f H)
    (fun _ ih r H n f => Tr.setK 21 H n (Tr.get r n) fun H => ih r H (Nat.succ n) f) k
--DBG end

/-- The names that a step has made, beside what there was. -/
def mergeK {β : Type} (s r : St) (f : St → β) : β := mergeN (Nat.sub r.nx s.nx) r.H s.H s.nx fun H => natK r.nx fun n => f ⟨H, n⟩

--DBG restrK
noncomputable def restrK {β : Type} (l : List Nat) : Tr AV → Tr AV → (Tr AV → β) → β :=
  List.rec (motive := fun _ => Tr AV → Tr AV → (Tr AV → β) → β) (fun _ T f => f T)
    (fun t _ ih S T f => Option.rec (motive := fun _ => β) (ih S T f) (fun v => Tr.setK 11 T t (some v) fun T => ih S T f) (Tr.get S t)) l
--DBG end

def mark (m i : Nat) (s r : St) : Nat := match Nat.ble r.nx s.nx with
  | true => m
  | false => Nat.lor m (Nat.shiftLeft 1 i)

/-- What has been met on the way through a region: who has made names, touched, written; what was read and written by whom. -/
structure Met where
  rm : Nat
  tm : Nat
  wm : Nat
  rl : List (Nat × Nat)
  wl : List (Nat × Option Nat)

abbrev DrawK := Met → AV → St → Option (Fr × St)

def apartX (b : Nat) (w : Option Nat) : Bool := match w with
  | some c => match Nat.beq b c with
    | true => false
    | false => true
  | none => false

def readOk (m b : Nat) (wl : List (Nat × Option Nat)) : Bool := wl.all fun p => Nat.testBit m p.1 || apartX b p.2
def writeOk (m : Nat) (w : Option Nat) (rl : List (Nat × Nat)) : Bool := rl.all fun p => Nat.testBit m p.1 || apartX p.2 w

/-- What is made beside names that need not be there yet must have none of them. -/
def okNx (s r : St) : Bool := Nat.ble s.nx r.nx && Nat.ble r.nx lim
def ownN (n m b : Nat) : Bool := Nat.ble (Nat.succ b) n || Nat.beq b m
def own1 (n m : Nat) : AV → Bool
  | .ptr b _ => ownN n m b
  | .slc b _ _ c => ownN n m b && (Nat.ble (Nat.succ c) big || ownN n m (Nat.sub c big))
  | .map b => ownN n m b
  | v => noNames v
def ownX (n m : Nat) : AV → Bool
  | .agg l => l.all (own1 n m)
  | .tup l => l.all (own1 n m)
  | v => own1 n m v
def ownR (n m : Nat) (k : RK) : Bool := match k with
  | .gr cc _ => ownN n m cc
  | _ => true
def ownO (n m : Nat) (o : Option AO) : Bool := match o with
  | some (.row l _ k) => l.all (own1 n m) && ownR n m k
  | some (.mp [] _) => true
  | some _ => false
  | none => true
/-- One name is made, and nothing is named but it and what there was ahead of the region. -/
def ownNew (n : Nat) (v : AV) (s r : St) : Bool := Nat.beq r.nx (Nat.succ s.nx) && ownX n s.nx v && ownO n s.nx (r.get s.nx)
def floatOk (n0 b rm : Nat) (v : AV) (s r : St) : Bool := Nat.beq (Nat.land rm b) rm || (belowX n0 v && Nat.ble r.nx s.nx) || ownNew n0 v s r

/-- An operation that writes what was there. -/
def wildX (r : Option (AV × St)) (w : Option Nat) (b i : Nat) (m : Met) (s : St) (k : DrawK) : Option (Fr × St) := match Nat.beq (Nat.land m.tm b) m.tm && writeOk b w m.rl with
  | false => none
  | true => match r with
    | none => none
    | some (v, r) => match okNx s r with
      | true => k ⟨mark m.rm i s r, Nat.lor m.tm (Nat.shiftLeft 1 i), Nat.lor m.wm (Nat.shiftLeft 1 i), m.rl, (i, w) :: m.wl⟩ v r
      | false => none

def tameX (r : Option (AV × St)) (wild : Option (AV × St)) (w : Option Nat) (b i : Nat) (m : Met) (s : St) (k : DrawK) : Option (Fr × St) := match r with
  | some (v, r) => match okNx s r with
    | true => match noNamesL v with
      | true => St.casesOn s fun H _ => natK r.nx fun n => k ⟨mark m.rm i s r, Nat.lor m.tm (Nat.shiftLeft 1 i), m.wm, m.rl, m.wl⟩ v ⟨H, n⟩
      | false => mergeK s r fun q => k ⟨mark m.rm i s r, Nat.lor m.tm (Nat.shiftLeft 1 i), m.wm, m.rl, m.wl⟩ v q
    | false => none
  | none => wildX wild w b i m s k

def freeX (r : Option (AV × St)) (n0 b i : Nat) (m : Met) (s : St) (k : DrawK) : Option (Fr × St) := match r with
  | some (v, r) => match okNx s r && floatOk n0 b m.rm v s r with
    | true => mergeK s r fun q => k ⟨mark m.rm i s r, m.tm, m.wm, m.rl, m.wl⟩ v q
    | false => none
  | none => none

def touchX (o : Op) (w : Option Nat) (E : Env) (call : CallX) (lo b i : Nat) (m : Met) (f : Fr) (s : St) (k : DrawK) : Option (Fr × St) := match Nat.beq (Nat.land m.rm b) m.rm && Nat.beq (Nat.land m.wm b) m.wm with
  | false => none
  | true => tameX (stepX o E call s.nx f s) (stepX o E call lo f s) w b i m s k

/-- The heap of one block alone. -/
def oneBlock (s : St) (b : Nat) (k : St → Option (Fr × St)) : Option (Fr × St) := match s.get b with
  | some o => St.casesOn s fun _ n => Tr.setK 21 .e b (some o) fun H => k ⟨H, n⟩
  | none => none

def sameNx (r : Option (AV × St)) (n0 b rm : Nat) (s : St) (k : AV → Option (Fr × St)) : Option (Fr × St) := match r with
  | some (v, r) => match Nat.beq r.nx s.nx && floatOk n0 b rm v s r with
    | true => k v
    | false => none
  | none => none

def readX (o : Op) (x : Operand) (E : Env) (call : CallX) (n0 b i : Nat) (m : Met) (f : Fr) (s : St) (k : DrawK) : Option (Fr × St) := match blockOf (evX x f) with
  | none => sameNx (stepX o E call s.nx f ⟨.e, s.nx⟩) n0 b m.rm s fun v => k m v s
  | some c => match readOk b c m.wl && Nat.ble (Nat.succ c) lim && (Nat.ble (Nat.succ c) n0 || (Nat.beq (Nat.land m.rm b) m.rm && Nat.ble (Nat.succ c) s.nx)) with
    | false => none
    | true => oneBlock s c fun q => sameNx (stepX o E call s.nx f q) n0 b m.rm s fun v => k ⟨m.rm, m.tm, m.wm, (i, c) :: m.rl, m.wl⟩ v s

def touchW (x : Option Operand) (f : Fr) : Option Nat := match x with
  | some x => blockOf (evX x f)
  | none => none

def drawO (kd : DK) (o : Op) (E : Env) (call : CallX) (lo n0 b i : Nat) (m : Met) (f : Fr) (s : St) (k : DrawK) : Option (Fr × St) := match kd with
  | .free => freeX (stepX o E call s.nx f ⟨.e, s.nx⟩) n0 b i m s k
  | .look x => match stepX o E call s.nx f ⟨.e, s.nx⟩ with
    | some r => freeX (some r) n0 b i m s k
    | none => match stepX o E call s.nx f s with
      | some (_, r) => match Nat.beq r.nx s.nx with
        | true => readX o x E call n0 b i m f s k
        | false => touchX o none E call lo b i m f s k
      | none => none
  | .read x => readX o x E call n0 b i m f s k
  | .touch x => touchX o (touchW x f) E call lo b i m f s k

--DBG drawN
noncomputable def drawN (l : List (Oper × Nat)) : Env → CallX → Nat → Nat → List Oper → Nat → Met → Fr → St → Option (Fr × St) :=
  List.rec (motive := fun _ => Env → CallX → Nat → Nat → List Oper → Nat → Met → Fr → St → Option (Fr × St)) (fun _ _ _ _ _ _ _ f s => some (f, s))
    (fun p _ ih E call lo n0 all i m f s => restrK (readsOf all p.1) f.T .e fun T =>
      Bool.rec (motive := fun _ => Option (Fr × St)) (putX p.1.dst (.tup []) f fun f => ih E call lo n0 all (Nat.succ i) m f s)
        (drawO (kindX p.1.op) p.1.op E call lo n0 p.2 i m ⟨T, f.n, f.G⟩ s fun m v s => avK v fun v => putX p.1.dst v f fun f => ih E call lo n0 all (Nat.succ i) m f s)
        (wantX ⟨T, f.n, f.G⟩ all p.1)) l
--DBG end

def drawY (all : List Oper) (E : Env) (call : CallX) (lo : Nat) (f : Fr) (s : St) : Option (Fr × St) := match plan all with
  | some bs => drawN (all.zip bs) E call lo s.nx all 0 ⟨0, 0, 0, [], []⟩ f s
  | none => none

/-! What makes a block and asks nothing of memory sinks to where it is wanted. -/

def makerX : Op → Bool
  | .alloc _ => true
  | .box _ _ => true
  | .buildSlice _ _ _ => true
  | .makeSlice _ _ _ => true
  | .makeMap _ _ => true
  | _ => false

def splitB (b : Nat) : List Nat → List Nat × List Nat
  | [] => ([], [])
  | i :: l => match splitB b l with
    | (x, y) => match Nat.testBit b i with
      | true => (i :: x, y)
      | false => (x, i :: y)

def sinkN : List Oper → List Nat → Nat → List Nat → List Nat
  | o :: l, b :: bs, i, wait => match makerX o.op with
    | true => sinkN l bs (Nat.succ i) (wait ++ [i])
    | false => match splitB b wait with
      | (now, later) => now ++ i :: sinkN l bs (Nat.succ i) later
  | _, _, _, wait => wait

def posOf (i : Nat) : List Nat → Nat → Nat
  | [], p => p
  | j :: l, p => match Nat.beq i j with
    | true => p
    | false => posOf i l (Nat.succ p)

--DBG sinkK
def natsK {β : Type} (l : List Nat) : (List Nat → β) → β :=
  List.rec (motive := fun _ => (List Nat → β) → β) (fun f => f []) (fun n _ ih f => natK n fun n => ih fun m => f (n :: m)) l
def edgesK {β : Type} (q : List Nat) (l : List Edge) : (List Edge → β) → β :=
  List.rec (motive := fun _ => (List Edge → β) → β) (fun f => f []) (fun e _ ih f => natK (posOf e.on q 0) fun n => ih fun m => f (⟨n, e.ground⟩ :: m)) l
def guardK {β : Type} (q : List Nat) (g : Option (Nat × Bool)) (f : Option (Nat × Bool) → β) : β := match g with
  | none => f none
  | some (j, w) => natK (posOf j q 0) fun n => f (some (n, w))
def operK {β : Type} (q : List Nat) (o : Oper) (f : Oper → β) : β :=
  edgesK q o.after.toList fun l => guardK q o.guard fun g => Oper.casesOn o fun d op t p _ _ => f ⟨d, op, t, p, ⟨l⟩, g⟩
def opersK {β : Type} (all : List Oper) (q : List Nat) (l : List Nat) : (List Oper → β) → β :=
  List.rec (motive := fun _ => (List Oper → β) → β) (fun f => f []) (fun n _ ih f => match all[n]? with
    | some o => operK q o fun o => ih fun m => f (o :: m)
    | none => ih f) l
--DBG end
/-- Is it a change of places? -/
def orderOk (n : Nat) (q : List Nat) : Bool := Nat.beq q.length n && (List.range n).all fun i => Nat.ble (Nat.succ (posOf i q 0)) n && (match q[i]? with | some j => Nat.ble (Nat.succ j) n && Nat.beq (posOf j q 0) i | none => false)

def sinkK (all : List Oper) (k : List Oper → Option (Fr × St)) : Option (Fr × St) := match all.any fun o => makerX o.op with
  | false => k all
  | true => match befores all 0 [] with
    | none => none
    | some bs => natsK (sinkN all bs 0 []) fun q => match orderOk all.length q with
      | true => opersK all q q k
      | false => none

def drawX (all : List Oper) (E : Env) (call : CallX) (lo : Nat) (f : Fr) (s : St) : Option (Fr × St) := sinkK all fun all => drawY all E call lo f s

abbrev Out := Option (Ex × Fr × St)

def seqX (r : Out) (k : Fr → St → Out) : Out := match r with
  | some (.normal, f, s) => k f s
  | r => r
--DBG loopN
def loopN (n : Nat) : (Fr → St → Out) → Fr → St → Out :=
  Nat.rec (motive := fun _ => (Fr → St → Out) → Fr → St → Out) (fun _ _ _ => none) (fun _ ih round f s => seqX (round f s) (ih round)) n
--DBG end

def regionX (r : Option (Fr × St)) : Out := match r with
  | some (f, s) => some (.normal, f, s)
  | none => none
def condX (c : Option AV) (a b : Fr → St → Out) (f : Fr) (s : St) : Out := match c with
  | some (.bool true) => a f s
  | some (.bool false) => b f s
  | _ => none
def blockX (id : Nat) (r : Out) : Out := match r with
  | some (.exit i, f, s) => match Nat.beq i id with
    | true => some (.normal, f, s)
    | false => some (.exit i, f, s)
  | r => r

/-- A jump within a scope: what lies behind the label, until nothing jumps any more. -/
def afterX (k : Nat → Fr → St → Out) (r : Out) : Out := match r with
  | some (.goto l, f, s) => k l f s
  | r => r
def restX (c : Code) (run : Code → Fr → St → Out) (l : Nat) (f : Fr) (s : St) (k : Out → Out) : Out := match findLabel c l with
  | some rest => k (run rest f s)
  | none => some (.goto l, f, s)
--DBG jumpN
def jumpN (n : Nat) (c : Code) (run : Code → Fr → St → Out) : Nat → Fr → St → Out :=
  Nat.rec (motive := fun _ => Nat → Fr → St → Out) (fun _ _ _ => none) (fun _ ih l f s => restX c run l f s (afterX ih)) n
--DBG end

def noCode (_ : Env) (_ : CallX) (_ _ : Nat) (_ : Fr) (_ : St) : Out := none
--DBG codeX
def codeN (n : Nat) : Code → Env → CallX → Nat → Nat → Fr → St → Out :=
  Nat.rec (motive := fun _ => Code → Env → CallX → Nat → Nat → Fr → St → Out) (fun _ => noCode) (fun _ deep c =>
  Code.rec (motive := fun _ => Env → CallX → Nat → Nat → Fr → St → Out)
    (fun _ _ _ _ f s => some (.normal, f, s))
    (fun _ ops draw E call lo _ f s => regionX (Bool.rec (motive := fun _ => Option (Fr × St)) (opsX ops.toList E call lo ops.toList f s) (drawX ops.toList E call lo f s) draw))
    (fun _ _ ra rb E call lo lf f s => seqX (ra E call lo lf f s) (rb E call lo lf))
    (fun c _ _ ra rb E call lo lf f s => condX (evX c f) (ra E call lo lf) (rb E call lo lf) f s)
    (fun id _ r E call lo lf f s => blockX id (r E call lo lf f s))
    (fun _ r E call lo lf f s => loopN lf (r E call lo lf) f s)
    (fun _ _ _ _ _ _ => noCode)
    (fun id _ _ _ _ f s => some (.exit id, f, s))
    (fun c r E call lo lf f s => afterX (jumpN lf c fun x => deep x E call lo lf) (r E call lo lf f s))
    (fun _ _ _ _ _ f s => some (.normal, f, s))
    (fun l _ _ _ _ f s => some (.goto l, f, s))
    (fun _ _ _ _ f s => some (.ret, f, s))
    (fun _ => noCode) c) n
def codeX : Code → Env → CallX → Nat → Nat → Fr → St → Out := codeN 6
--DBG end

def resX (l : List ResultVar) (E : Env) (f : Fr) (s : St) : Option (List AV) := match l with
  | [] => some []
  | .tmp t :: l => match evT t f with
    | none => none
    | some v => match resX l E f s with
      | some m => some (v :: m)
      | none => none
  | .cell a t :: l => match evT a f with
    | some (.ptr b o) => match loadX E s t b o with
      | some v => match resX l E f s with
        | some m => some (v :: m)
        | none => none
      | none => none
    | _ => none

def argsX (l : List AV) (i : Nat) (T : Tr AV) (k : Tr AV → Option (AV × St)) : Option (AV × St) := match l with
  | [] => k T
  | v :: l => Tr.setK 11 T i (some v) fun T => argsX l (Nat.succ i) T k

def oneOf (r : Option (List AV)) (s : St) : Option (AV × St) := match r with
  | some l => match l with
    | [v] => some (v, s)
    | l => some (.tup l, s)
  | none => none
def endX (l : List ResultVar) (E : Env) (r : Out) : Option (AV × St) := match r with
  | some (e, f, s) => match e with
    | .normal => oneOf (resX l E f s) s
    | .ret => oneOf (resX l E f s) s
    | .exit _ => none
    | .goto _ => none
  | none => none

def bodyX (fn : Func) (c : Code) (E : Env) (call : CallX) (lo lf : Nat) (args : List AV) (s : St) : Option (AV × St) :=
  match Nat.ble args.length fn.ntmps && Nat.ble fn.ntmps 1024 with
  | true => argsX args 0 .e fun T => endX fn.results.toList E (codeX c E call lo lf ⟨T, fn.ntmps, E.G⟩ s)
  | false => none

/-- bytealg.MakeNoZero: so many bytes, which are not known. -/
def nzX (p : Option TypeId) (args : List AV) (s : St) : Option (AV × St) := match p with
  | some e => match args with
    | [.int .i64 (.ofNat n)] => match Nat.ble n 16777216 && room s with
      | true => addK s (.row [] e (.gr s.nx 1)) fun m s => some (.slc m 0 n (Nat.add big m), s)
      | false => none
    | _ => none
  | none => none
def sumX (p : Option (List AV → St → Option (AV × St))) (args : List AV) (s : St) : Option (AV × St) := match p with
  | some p => p args s
  | none => none
def extX (p : Option (List AV → Option AV)) (q : Option TypeId) (args : List AV) (s : St) : Option (AV × St) := match p with
  | some p => ret1 (p args) s
  | none => nzX q args s

def funcX (fn : Option Func) (f : FuncId) (E : Env) (call : CallX) (lo lf : Nat) (args : List AV) (s : St) : Option (AV × St) := match fn with
  | some fn => match fn.body with
    | some c => bodyX fn c E call lo lf args s
    | none => extX (E.ext f) (E.nz f) args s
  | none => sumX (E.sum f) args s

--DBG callX
def callX (d : Nat) : Env → Nat → CallX :=
  Nat.rec (motive := fun _ => Env → Nat → CallX) (fun _ _ _ _ _ _ => none) (fun _ ih E lf lo f args s => funcX (E.fn f) f E (ih E lf) lo lf args s) d
--DBG end

def indexFrom (c : Nat) : Nat → List UInt8 → Int
  | _, [] => -1
  | i, b :: l => match Nat.beq b.toNat c with
    | true => .ofNat i
    | false => indexFrom c (i + 1) l

def countOf (c : Nat) : Nat → List UInt8 → Nat
  | n, [] => n
  | n, b :: l => match Nat.beq b.toNat c with
    | true => countOf c (n + 1) l
    | false => countOf c n l

def indexByteX : List AV → Option AV
  | [.str s, .int _ (.ofNat n)] => some (.int .i64 (indexFrom n 0 s))
  | _ => none

def countX : List AV → Option AV
  | [.str s, .int _ (.ofNat n)] => some (.int .i64 (.ofNat (countOf n 0 s)))
  | _ => none

end
end Go.Vx
