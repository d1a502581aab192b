/-
  What a source of what is said says: its Value, compose.ask, compose.part, compose.ListPart. Conditions: the slice reads as what is said; sizes.
  compose.ask. Conditions: the slice reads as what is said; sizes.
  compose.part, compose.ListPart. Conditions: the slice reads as what is said; what the listed variables hold; sizes.
-/
import Derived.Test.YtpcgcghhddnifaaGreatDoorGa
import Derived.Test.YtpcgcghhddnifaaGreatDoorCa
import Derived.Test.YtpcgcghhddnifaaGreatDoorGb
set_option linter.unusedVariables false
set_option linter.unusedSimpArgs false
namespace Go.Proofs.YtpcgcghhddnifaaGreatDoor
open Go.RowKit
/-- what is said: for a locale, at a path, a text -/
structure Sd where
  loc : ByteArray
  path : ByteArray
  text : ByteArray
def scells : List Sd → List Value
  | [] => []
  | x :: l => .string x.loc :: .string x.path :: .string x.text :: scells l
theorem scells_len (l : List Sd) : (scells l).length = l.length * 3 := by
  induction l with
  | nil => rfl
  | cons x l ih => simp only [scells, List.length_cons, ih]; omega
theorem scells_get : ∀ (l : List Sd) (i : Nat) (h : i < l.length), (scells l)[i * 3]? = some (.string l[i].loc) ∧ (scells l)[i * 3 + 1]? = some (.string l[i].path) ∧ (scells l)[i * 3 + 2]? = some (.string l[i].text)
  | x :: l, 0, _ => ⟨rfl, rfl, rfl⟩
  | x :: l, i + 1, h => by
    have := scells_get l i (by simpa using h)
    rw [show (i + 1) * 3 = i * 3 + 3 by omega]
    simpa [scells] using this
theorem scells_app (l m : List Sd) : scells (l ++ m) = scells l ++ scells m := by
  induction l with
  | nil => rfl
  | cons x l ih => simp only [List.cons_append, scells, ih]
def Saids (w : World) (B : Nat) (A : Option Addr) (l : List Sd) : Prop :=
  0 < l.length → ∃ ad : Addr, A = some ad ∧ ad.block < B ∧ ∀ j u, (scells l)[j]? = some u → w.cell? (ad.add j) = some u
theorem Saids.nil (w : World) (B : Nat) (A : Option Addr) : Saids w B A [] := fun h => by simp at h
theorem Saids.sd {w : World} {B : Nat} {A : Option Addr} {l : List Sd} (h : Saids w B A l) {i : Nat} (hi : i < l.length) :
    ∃ ad : Addr, A = some ad ∧ ad.block < B ∧ w.cell? (ad.add (i * 3)) = some (.string l[i].loc) ∧ w.cell? ⟨(ad.add (i * 3)).block, (ad.add (i * 3)).off + 1, none⟩ = some (.string l[i].path) ∧
      w.cell? ⟨(ad.add (i * 3)).block, (ad.add (i * 3)).off + 2, none⟩ = some (.string l[i].text) := by
  obtain ⟨ad, e, hb, hc⟩ := h (by omega)
  obtain ⟨h0, h1, h2⟩ := scells_get l i hi
  refine ⟨ad, e, hb, hc _ _ h0, ?_, ?_⟩
  · exact (congrArg w.cell? (add_of_add ad (i * 3) 1)).trans (hc _ _ h1)
  · exact (congrArg w.cell? (add_of_add ad (i * 3) 2)).trans (hc _ _ h2)
theorem Saids.below {w w' : World} {B : Nat} {A : Option Addr} {l : List Sd} (h : Saids w B A l) (hb : Below B w w') : Saids w' B A l := fun hn => by
  obtain ⟨ad, e, hlt, hc⟩ := h hn
  exact ⟨ad, e, hlt, fun j u hj => (hb.cell (p := ad.add j) (by rw [block_of_add]; exact hlt)).trans (hc j u hj)⟩
theorem Saids.more {w : World} {B B' : Nat} {A : Option Addr} {l : List Sd} (h : Saids w B A l) (hB : B ≤ B') : Saids w B' A l := fun hn => by
  obtain ⟨ad, e, hlt, hc⟩ := h hn
  exact ⟨ad, e, by omega, hc⟩
def hitB (loc path : ByteArray) (x : Sd) : Bool := decide (x.loc.toList = loc.toList) && decide (x.path.toList = path.toList)
def valueOf (L : List Sd) (loc path : ByteArray) : Option ByteArray := (L.find? (hitB loc path)).map (·.text)
def valR : Option ByteArray → Value
  | none => .tuple #[.string ⟨#[]⟩, .bool false]
  | some t => .tuple #[.string t, .bool true]
theorem value_hit {L : List Sd} {loc path : ByteArray} {i : Nat} (h : i < L.length) (hno : ∀ j (hj : j < L.length), j < i → hitB loc path L[j] = false) (hy : hitB loc path L[i] = true) : valueOf L loc path = some L[i].text := by
  unfold valueOf
  have : L.find? (hitB loc path) = some L[i] := by
    rw [List.find?_eq_some_iff_getElem]
    exact ⟨hy, i, h, rfl, fun j hj => by rw [hno j (by omega) hj]; rfl⟩
  rw [this]
  rfl
theorem value_none {L : List Sd} {loc path : ByteArray} (hno : ∀ j (hj : j < L.length), hitB loc path L[j] = false) : valueOf L loc path = none := by
  unfold valueOf
  rw [List.find?_eq_none.2 fun x hx => by
    obtain ⟨i, hi, rfl⟩ := List.getElem_of_mem hx
    rw [hno i hi]; simp]
  rfl
theorem hit_list (loc path : ByteArray) (x : Sd) : hitB loc path x = (decide (x.loc.toList = loc.toList) && decide (x.path.toList = path.toList)) := rfl
theorem hit_take {loc path : ByteArray} {L : List Sd} {i : Nat} (h : i < L.length) (hp : ∀ j (hj : j < L.length), j < i → hitB loc path L[j] = false) (hi : hitB loc path L[i] = false) : ∀ j (hj : j < L.length), j < i + 1 → hitB loc path L[j] = false := fun j hj h1 => by
  rcases Nat.lt_or_ge j i with g | g
  · exact hp j hj g
  · obtain rfl : j = i := by omega
    exact hi
set_option maxRecDepth 100000 in
set_option maxHeartbeats 4000000 in
theorem Value_any (A : Option Addr) (L : List Sd) (c B : Nat) (loc path : ByteArray) (hn : L.length ≤ 281474976710656) (w : World) (hL : Saids w B A L) (hB : B ≤ w.heap.size) :
    Calls Tryz.prog 34 #[.agg #[.slice A L.length c], .string loc, .string path] w fun e w' => e = .returned (valR (valueOf L loc path)) ∧ Below w.heap.size w w' := by
  go_enter Tryz.func34, Tryz.ntmps34
  go_wp2_with fail
  go_loopw [13] (fun u wr => ∃ i : Nat, u = .int .i64 i ∧ i ≤ L.length ∧ Saids wr B A L ∧ Below w.heap.size w wr ∧ ∀ j (hj : j < L.length), j < i → hitB loc path L[j] = false) (fun u _ => L.length - (intOf u).toNat)
  case atStart => exact ⟨0, rfl, by omega, hL.below ((Below.refl _ _).alloc hB _), (Below.refl _ _).alloc (Nat.le_refl _) _, fun j hj h => by omega⟩
  case round =>
    obtain ⟨i, rfl, hi, g, hb, hno⟩ := hrel
    have HN := Lib.hid hno
    clear hno
    by_cases hlt : i < L.length
    · obtain ⟨ad, rfl, b0, c0, c1, c2⟩ := g.sd hlt
      have hbs := Nat.lt_of_lt_of_le b0 (Nat.le_trans hB hb.size)
      generalize hx : L[i] = x at *
      have hh := hit_list loc path x
      have HH := Lib.hid hh
      clear hh
      have HX := Lib.hid hx
      clear hx
      by_cases h1 : x.loc.toList = loc.toList
      · by_cases h2 : x.path.toList = path.toList
        · have HV : valueOf L loc path = some L[i].text := value_hit hlt HN.out (by rw [HX.out, HH.out, decide_eq_true h1, decide_eq_true h2]; rfl)
          rw [HX.out] at HV
          go_wp2_with fail
          refine bodyPost_ret (v := .tuple #[.string x.text, .bool true]) ?_ rfl ⟨by rw [HV]; rfl, hb.alloc hb.size _⟩
          simp [results, Tryz.results34, go_sem]
        · have HF : hitB loc path L[i] = false := by rw [HX.out, HH.out, decide_eq_false h2, Bool.and_false]
          have HF := Lib.hid HF
          have h2b : (x.path.toList == path.toList) = false := beq_eq_false_iff_ne.2 h2
          have h2d : decide (x.path.toList = path.toList) = false := decide_eq_false h2
          go_wp2_with fail
          trace_state
          go_roundw
          case rel => exact ⟨i + 1, by go_num, hlt, g.below ((Below.refl _ _).alloc (Nat.le_trans hB hb.size) _), hb.alloc hb.size _, hit_take hlt HN.out HF.out⟩
          case measure => simp [intOf]; omega
      · have HF : hitB loc path L[i] = false := by rw [HX.out, HH.out, decide_eq_false h1, Bool.false_and]
        have HF := Lib.hid HF
        go_wp2_with fail
        go_roundw
        case rel => exact ⟨i + 1, by go_num, hlt, g.below ((Below.refl _ _).alloc (Nat.le_trans hB hb.size) _), hb.alloc hb.size _, hit_take hlt HN.out HF.out⟩
        case measure => simp [intOf]; omega
    · have HV : valueOf L loc path = none := value_none fun j hj => HN.out j hj (by omega)
      go_wp2_with fail
      refine bodyPost_ret (v := .tuple #[.string ⟨#[]⟩, .bool false]) ?_ rfl ⟨by rw [HV]; rfl, hb⟩
      simp [results, Tryz.results34, go_sem]
end Go.Proofs.YtpcgcghhddnifaaGreatDoor
namespace Go.Proofs.YtpcgcghhddnifaaGreatDoor
open Go.RowKit
theorem method_value (A : Option Addr) (n c : Nat) (w : World) : (method 534 28 (.agg #[.slice A n c]) "Value").run Tryz.prog w = .ok (34, .agg #[.slice A n c]) w := by kernel_rfl
/-- the source, as an interface's value -/
def srcV (A : Option Addr) (n c : Nat) : Value := .iface 28 (.agg #[.slice A n c])
set_option maxRecDepth 100000 in
set_option maxHeartbeats 4000000 in
theorem ask_yes (A : Option Addr) (L : List Sd) (c B : Nat) (loc path : ByteArray) (n : Int) (f : Value) (t : ByteArray) (hv : valueOf L loc path = some t) (hn : L.length ≤ 281474976710656) (w : World) (HO : ∀ w1 : World, Below w.heap.size w w1 → Calls Tryz.prog 81 #[.string t, .int .i64 n] w1 fun e w' => e = .returned (.bool true) ∧ Below w1.heap.size w1 w') (hL : Saids w B A L) (hB : B ≤ w.heap.size) :
    Calls Tryz.prog 52 #[srcV A L.length c, .string loc, .string path, .int .i64 n, f] w fun e w' => e = .returned (.string t) ∧ Below w.heap.size w w' := by
  have HV := Value_any A L c B loc path hn
  rw [hv] at HV
  unfold valR at HV
  have HM := method_value A L.length c
  unfold srcV
  go_enter Tryz.func52, Tryz.ntmps52
  go_wp2_with fail
  refine (HV _ hL hB).mono ?_
  rintro e w1 ⟨rfl, hb1⟩
  go_wp2_with fail
  refine (HO _ hb1).mono ?_
  rintro e w2 ⟨rfl, hb2⟩
  have B2 := hb1.trans (hb2.mono hb1.size)
  go_wp2_with fail
  refine bodyPost_ret (v := .string t) ?_ rfl ⟨rfl, B2⟩
  simp [results, Tryz.results52, go_sem]
set_option maxRecDepth 100000 in
set_option maxHeartbeats 4000000 in
theorem ask_none (A : Option Addr) (L : List Sd) (c B : Nat) (loc path : ByteArray) (n : Int) (f : FuncId) (fs : Array Value) (r : ByteArray) (hv : valueOf L loc path = none) (hn : L.length ≤ 281474976710656) (w : World)
    (HF : ∀ w1, Below w.heap.size w w1 → Calls Tryz.prog f fs w1 fun e w' => e = .returned (.string r) ∧ Below w1.heap.size w1 w')
    (he : ∀ w1, (callFunc f fs).run Tryz.prog w1 = .ok (.enter f fs) w1) (hL : Saids w B A L) (hB : B ≤ w.heap.size) :
    Calls Tryz.prog 52 #[srcV A L.length c, .string loc, .string path, .int .i64 n, .func (.func f) #[] fs] w fun e w' => e = .returned (.string r) ∧ Below w.heap.size w w' := by
  have HV := Value_any A L c B loc path hn
  rw [hv] at HV
  unfold valR at HV
  have HM := method_value A L.length c
  unfold srcV
  go_enter Tryz.func52, Tryz.ntmps52
  go_wp2_with fail
  refine (HV _ hL hB).mono ?_
  rintro e w1 ⟨rfl, hb1⟩
  go_wp2_with fail
  refine (HF _ hb1).mono ?_
  rintro e w2 ⟨rfl, hb2⟩
  have B2 := hb1.trans (hb2.mono hb1.size)
  go_wp2_with fail
  refine bodyPost_ret (v := .string r) ?_ rfl ⟨rfl, B2⟩
  simp [results, Tryz.results52, go_sem]
set_option maxRecDepth 100000 in
set_option maxHeartbeats 4000000 in
theorem ask_no (A : Option Addr) (L : List Sd) (c B : Nat) (loc path : ByteArray) (n : Int) (f : FuncId) (fs : Array Value) (t r : ByteArray) (hv : valueOf L loc path = some t) (hn : L.length ≤ 281474976710656) (w : World) (HO : ∀ w1 : World, Below w.heap.size w w1 → Calls Tryz.prog 81 #[.string t, .int .i64 n] w1 fun e w' => e = .returned (.bool false) ∧ Below w1.heap.size w1 w')
    (HF : ∀ w1, Below w.heap.size w w1 → Calls Tryz.prog f fs w1 fun e w' => e = .returned (.string r) ∧ Below w1.heap.size w1 w')
    (he : ∀ w1, (callFunc f fs).run Tryz.prog w1 = .ok (.enter f fs) w1) (hL : Saids w B A L) (hB : B ≤ w.heap.size) :
    Calls Tryz.prog 52 #[srcV A L.length c, .string loc, .string path, .int .i64 n, .func (.func f) #[] fs] w fun e w' => e = .returned (.string r) ∧ Below w.heap.size w w' := by
  have HV := Value_any A L c B loc path hn
  rw [hv] at HV
  unfold valR at HV
  have HM := method_value A L.length c
  unfold srcV
  go_enter Tryz.func52, Tryz.ntmps52
  go_wp2_with fail
  refine (HV _ hL hB).mono ?_
  rintro e w1 ⟨rfl, hb1⟩
  go_wp2_with fail
  refine (HO _ hb1).mono ?_
  rintro e w2 ⟨rfl, hb2⟩
  have B2 := hb1.trans (hb2.mono hb1.size)
  go_wp2_with fail
  refine (HF _ B2).mono ?_
  rintro e w3 ⟨rfl, hb3⟩
  have B3 := B2.trans (hb3.mono B2.size)
  go_wp2_with fail
  refine bodyPost_ret (v := .string r) ?_ rfl ⟨rfl, B3⟩
  simp [results, Tryz.results52, go_sem]
end Go.Proofs.YtpcgcghhddnifaaGreatDoor
namespace Go.Proofs.YtpcgcghhddnifaaGreatDoor
open Go.RowKit
open Ph
open Classical in
/-- does a text hold so many places, each once? -/
noncomputable def onceT (s : ByteArray) (n : Int) : Bool := if h : ∃ l, Fine s l then onceB h.choose n else false
theorem onceT_fine {s : ByteArray} {l : List Pc} (h : Fine s l) (n : Int) : onceT s n = onceB l n := by
  have he : ∃ l, Fine s l := ⟨l, h⟩
  unfold onceT
  rw [dif_pos he, he.choose_spec.uniq h]
theorem onceT_wrong {s : ByteArray} {a b : Int} (h : Wrong s a b) (n : Int) : onceT s n = false := by
  unfold onceT
  rw [dif_neg]
  rintro ⟨l, hl⟩
  exact hl.right _ _ h
theorem once_any (s : ByteArray) (hs : s.size ≤ 281474976710656) (n : Int) (w : World) (hg : GlobP w) : Calls Tryz.prog 81 #[.string s, .int .i64 n] w fun e w' => e = .returned (.bool (onceT s n)) ∧ Below w.heap.size w w' := by
  rcases outcome s with ⟨l, h⟩ | ⟨a, b, h⟩
  · rw [onceT_fine h]
    exact once_fine hs h n w hg
  · rw [onceT_wrong h]
    exact once_wrong hs h n w hg
def s1 : ByteArray := ⟨#[108, 105, 115, 116, 80, 97, 116, 116, 101, 114, 110, 115, 47, 108, 105, 115, 116, 80, 97, 116, 116, 101, 114, 110, 91, 116, 121, 112, 101, 61]⟩
def s2 : ByteArray := ⟨#[93, 47, 108, 105, 115, 116, 80, 97, 116, 116, 101, 114, 110, 80, 97, 114, 116, 91, 116, 121, 112, 101, 61]⟩
def s3 : ByteArray := ⟨#[93]⟩
set_option maxRecDepth 100000 in
set_option maxHeartbeats 4000000 in
theorem at_any (b : Nat) (st nm : ByteArray) (h1 : st.size ≤ 4096) (h2 : nm.size ≤ 4096) (w : World) (hb : w.cell? ⟨b, 0, none⟩ = some (.string nm)) : Calls Tryz.prog 51 #[.string st, .pointer (some ⟨b, 0, none⟩)] w fun e w' => e = .returned (.string (s1 ++ st ++ s2 ++ nm ++ s3)) ∧ w' = w := by
  go_enter Tryz.func51, Tryz.ntmps51
  go_wp2_with fail
  refine bodyPost_ret (v := .string (s1 ++ st ++ s2 ++ nm ++ s3)) ?_ rfl ⟨rfl, rfl⟩
  simp [results, Tryz.results51, go_sem, s1, s2, s3]
def pathT (st nm : ByteArray) : ByteArray := s1 ++ st ++ s2 ++ nm ++ s3
/-- what a source says at a path, if it is a phrase with so many places; else the other -/
noncomputable def askT (L : List Sd) (loc path : ByteArray) (n : Int) (other : ByteArray) : ByteArray := match valueOf L loc path with
  | some t => if onceT t n then t else other
  | none => other
theorem valueOf_mem {L : List Sd} {loc path t : ByteArray} (h : valueOf L loc path = some t) : ∃ x ∈ L, x.text = t := by
  unfold valueOf at h
  cases hf : L.find? (hitB loc path) with
  | none => rw [hf] at h; cases h
  | some x => rw [hf] at h; exact ⟨x, List.mem_of_find?_eq_some hf, Option.some.inj h⟩
theorem ask_any (A : Option Addr) (L : List Sd) (c B : Nat) (loc path : ByteArray) (n : Int) (f : FuncId) (fs : Array Value) (r : ByteArray) (hn : L.length ≤ 281474976710656) (hx : ∀ x ∈ L, x.text.size ≤ 281474976710656) (w : World) (hg : GlobP w)
    (HF : ∀ w1, Below w.heap.size w w1 → Calls Tryz.prog f fs w1 fun e w' => e = .returned (.string r) ∧ Below w1.heap.size w1 w')
    (he : ∀ w1, (callFunc f fs).run Tryz.prog w1 = .ok (.enter f fs) w1) (hL : Saids w B A L) (hB : B ≤ w.heap.size) :
    Calls Tryz.prog 52 #[srcV A L.length c, .string loc, .string path, .int .i64 n, .func (.func f) #[] fs] w fun e w' => e = .returned (.string (askT L loc path n r)) ∧ Below w.heap.size w w' := by
  cases hv : valueOf L loc path with
  | none =>
    have ht : askT L loc path n r = r := by unfold askT; rw [hv]
    rw [ht]
    exact ask_none A L c B loc path n f fs r hv hn w HF he hL hB
  | some t =>
    obtain ⟨x, hm, rfl⟩ := valueOf_mem hv
    have HO := fun (w1 : World) (hb : Below w.heap.size w w1) => once_any x.text (hx x hm) n w1 (hg.below hb hg.size)
    cases ho : onceT x.text n with
    | true =>
      have ht : askT L loc path n r = x.text := by unfold askT; rw [hv]; simp [ho]
      rw [ht]
      rw [ho] at HO
      exact ask_yes A L c B loc path n _ x.text hv hn w HO hL hB
    | false =>
      have ht : askT L loc path n r = r := by unfold askT; rw [hv]; simp [ho]
      rw [ht]
      rw [ho] at HO
      exact ask_no A L c B loc path n f fs x.text r hv hn w HO HF he hL hB
def plainT : ByteArray := ⟨#[123, 48, 125, 44, 32, 123, 49, 125]⟩
def stdT : ByteArray := ⟨#[115, 116, 97, 110, 100, 97, 114, 100]⟩
theorem enters54 (args : Array Value) (w : World) : (callFunc 54 args).run Tryz.prog w = .ok (.enter 54 args) w := by
  simp [callFunc, Tryz.func54, Tryz.f54]
theorem enters53 (args : Array Value) (w : World) : (callFunc 53 args).run Tryz.prog w = .ok (.enter 53 args) w := by
  simp [callFunc, Tryz.func53, Tryz.f53]
theorem plain_any (w : World) : Calls Tryz.prog 54 #[] w fun e w' => e = .returned (.string plainT) ∧ Below w.heap.size w w' := by
  go_enter Tryz.func54, Tryz.ntmps54
  go_wp2_with fail
  refine bodyPost_ret (v := .string plainT) ?_ rfl ⟨rfl, Below.refl _ _⟩
  simp [results, Tryz.results54, go_sem, plainT]
noncomputable def otherT (L : List Sd) (loc nm : ByteArray) : ByteArray := askT L loc (pathT stdT nm) 2 plainT
noncomputable def partT (L : List Sd) (loc st nm : ByteArray) : ByteArray := askT L loc (pathT st nm) 2 (otherT L loc nm)
set_option maxRecDepth 100000 in
set_option maxHeartbeats 4000000 in
theorem other_any (A : Option Addr) (L : List Sd) (c B : Nat) (loc nm : ByteArray) (b4 b5 b9 b7 : Nat) (h2 : nm.size ≤ 4096) (hn : L.length ≤ 281474976710656) (hx : ∀ x ∈ L, x.text.size ≤ 281474976710656) (w : World) (hg : GlobP w) (hL : Saids w B A L) (hB : B ≤ w.heap.size)
    (c4 : w.cell? ⟨b4, 0, none⟩ = some (srcV A L.length c)) (c5 : w.cell? ⟨b5, 0, none⟩ = some (.string loc)) (c9 : w.cell? ⟨b9, 0, none⟩ = some (.func (.func 51) #[] #[.pointer (some ⟨b7, 0, none⟩)])) (c7 : w.cell? ⟨b7, 0, none⟩ = some (.string nm)) :
    Calls Tryz.prog 53 #[.pointer (some ⟨b4, 0, none⟩), .pointer (some ⟨b5, 0, none⟩), .pointer (some ⟨b9, 0, none⟩)] w fun e w' => e = .returned (.string (otherT L loc nm)) ∧ Below w.heap.size w w' := by
  have HA := fun (w : World) (hc) => at_any b7 stdT nm (by decide) h2 w hc
  have HK := fun (w : World) (hg) (hL) (hB) => ask_any A L c B loc (pathT stdT nm) 2 54 #[] plainT hn hx w hg (fun w1 _ => plain_any w1) (fun w1 => enters54 _ w1) hL hB
  unfold otherT
  generalize askT L loc (pathT stdT nm) 2 plainT = r at *
  unfold pathT stdT at HK
  unfold stdT at HA
  unfold srcV at c4 HK
  go_enter Tryz.func53, Tryz.ntmps53
  go_wp2_with fail
  have HAD := HA w.drew c7
  have HKD := HK w.drew (hg.below (blw_drew (Below.refl _ _)) hg.size) (hL.below (blw_drew (Below.refl _ _))) hB
  go_region_with (first | (go_at_call 51; refine HAD.mono ?_; rintro e w3 ⟨rfl, rfl⟩) | (go_at_call 52; refine HKD.mono ?_; rintro e w4 ⟨rfl, hb4⟩; have B4 := (blw_drew (Below.refl w.heap.size w)).trans hb4))
  all_goals go_wp2_with fail
  all_goals
    refine bodyPost_ret (v := .string r) ?_ rfl ⟨rfl, B4⟩
    simp [results, Tryz.results53, go_sem]
end Go.Proofs.YtpcgcghhddnifaaGreatDoor
