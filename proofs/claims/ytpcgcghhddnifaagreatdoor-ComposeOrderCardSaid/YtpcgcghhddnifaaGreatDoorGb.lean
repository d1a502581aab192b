/-
  strings.Builder's WriteString at this program: the library's contract, laid by hand. Conditions: those that the theorem names.
  Every text falls into pieces or is wrong somewhere; the two parsers at a text whose answer is known; exact says yes to the same pieces. Condition: the text is short enough to be in memory.
  exact says yes to the same pieces, in memory twice. Condition: both slices read as these pieces.
  Contract of Places: the numbers of a phrase's places, or what is wrong. Condition: the text is short enough to be in memory.
  Contract of may: whether a piece may stand behind another one. Condition: strings.ContainsAny's own contract at the piece's text, where it is reached.
  Contract of Check: all pieces may stand, or the first that may not. Condition: strings.ContainsAny's contract at the pieces' texts.
  Contracts of Lay's search for a place without an argument. Condition: the slice reads as these pieces.
  Contract of put: pieces put together, a place told by the given function. Condition: that function's contract at the pieces' places.
  Contracts of Lay and Fill: pieces with arguments. Condition: strings.ContainsAny's contract at the pieces' texts; texts short enough to be in memory.
  Contract of Once: whether a phrase has so many places, each once. Condition: the text is short enough to be in memory.
-/
import Derived.Test.YtpcgcghhddnifaaGreatDoorRows
import Derived.Test.YtpcgcghhddnifaaGreatDoorShelf
import Derived.Shelf.Strings.BuilderK
import Derived.Test.YtpcgcghhddnifaaGreatDoorGa
import Derived.BigQuiet
import Derived.Sort.OwnSortedInts
set_option linter.unusedVariables false
set_option linter.unusedSimpArgs false
namespace Go.Proofs
open Go.Shelf
def Tryz.bs_ren : Go.Shelf.Ren := ⟨fun | 166 => 92 | 240 => 116 | 276 => 157 | n => n, fun | 70 => 130 | 72 => 133 | 37 => 131 | 3 => 3 | 0 => 0 | 5 => 5 | 4 => 4 | 9 => 9 | 20 => 20 | 164 => 220 | 75 => 125 | 80 => 95 | n => n, fun | n => n⟩
theorem Tryz.bs240 : Go.Proofs.Lays.n240 Tryz.prog Tryz.bs_ren := {
  mixed := by kernel_rfl
  f240 := Tryz.func116.trans (congrArg some (by kernel_rfl))
  f276 := Tryz.func157.trans (congrArg some (by kernel_rfl))
  t0 := Tryz.underlying0
  a0 := Tryz.isAgg0
  z0 := Tryz.sizeOf0
  v0 := Tryz.zeroValue0
  t4 := Tryz.underlying4
  a4 := Tryz.isAgg4
  z4 := Tryz.sizeOf4
  v4 := Tryz.zeroValue4
  t9 := Tryz.underlying9
  a9 := Tryz.isAgg9
  z9 := Tryz.sizeOf9
  v9 := Tryz.zeroValue9
  t20 := Tryz.underlying20
  a20 := Tryz.isAgg20
  z20 := Tryz.sizeOf20
  v20 := Tryz.zeroValue20
  t70 := Tryz.underlying130
  a70 := Tryz.isAgg130
  z70 := Tryz.sizeOf130
  v70 := Tryz.zeroValue130
  t72 := Tryz.underlying133
  a72 := Tryz.isAgg133
  z72 := Tryz.sizeOf133
  v72 := Tryz.zeroValue133
  t164 := Tryz.underlying220
  a164 := Tryz.isAgg220
  z164 := Tryz.sizeOf220
  v164 := Tryz.zeroValue220 }
theorem Tryz.bs166 : Go.Proofs.Lays.n166 Tryz.prog Tryz.bs_ren := {
  mixed := by kernel_rfl
  f166 := Tryz.func92.trans (congrArg some (by kernel_rfl))
  f240 := Tryz.func116.trans (congrArg some (by kernel_rfl))
  f276 := Tryz.func157.trans (congrArg some (by kernel_rfl))
  t0 := Tryz.underlying0
  a0 := Tryz.isAgg0
  z0 := Tryz.sizeOf0
  v0 := Tryz.zeroValue0
  t3 := Tryz.underlying3
  a3 := Tryz.isAgg3
  z3 := Tryz.sizeOf3
  v3 := Tryz.zeroValue3
  t4 := Tryz.underlying4
  a4 := Tryz.isAgg4
  z4 := Tryz.sizeOf4
  v4 := Tryz.zeroValue4
  t9 := Tryz.underlying9
  a9 := Tryz.isAgg9
  z9 := Tryz.sizeOf9
  v9 := Tryz.zeroValue9
  t20 := Tryz.underlying20
  a20 := Tryz.isAgg20
  z20 := Tryz.sizeOf20
  v20 := Tryz.zeroValue20
  t37 := Tryz.underlying131
  a37 := Tryz.isAgg131
  z37 := Tryz.sizeOf131
  v37 := Tryz.zeroValue131
  t70 := Tryz.underlying130
  a70 := Tryz.isAgg130
  z70 := Tryz.sizeOf130
  v70 := Tryz.zeroValue130
  t72 := Tryz.underlying133
  a72 := Tryz.isAgg133
  z72 := Tryz.sizeOf133
  v72 := Tryz.zeroValue133
  t75 := Tryz.underlying125
  a75 := Tryz.isAgg125
  z75 := Tryz.sizeOf125
  v75 := Tryz.zeroValue125
  t164 := Tryz.underlying220
  a164 := Tryz.isAgg220
  z164 := Tryz.sizeOf220
  v164 := Tryz.zeroValue220 }
theorem Tryz.bsExtra : Builder.Extra Tryz.prog Tryz.bs_ren := {
  sizeBuilder := by kernel_rfl
  liesBuilder := by kernel_rfl
  t5 := Tryz.underlying5
  a5 := Tryz.isAgg5
  z5 := Tryz.sizeOf5
  v5 := Tryz.zeroValue5
  infoByte := by kernel_rfl
  cellsByte := by kernel_rfl
  sizeByte := by kernel_rfl
  neB5 := by decide }
open Go.RowKit in
theorem Tryz.WriteStringK (B b : Nat) (bs : List Value) (s : ByteArray) (w : World) (h : Lib.IsBuilderF 133 5 B b bs w) (hlen : bs.length + s.size ≤ 140737488355328) (hBw : B ≤ w.heap.size) :
    Calls Tryz.prog 92 #[.pointer (some ⟨b, 0, none⟩), .string s] w fun e w' => e = .returned (.tuple #[.int .i64 s.size, .nilIface]) ∧ (Lib.BuilderAtF 133 5 B b (.pointer (some ⟨b, 0, none⟩)) (bs ++ Lib.strCells s) w' ∧ Below B w w' ∧ Lib.OthersKept 5 (some b) w w') :=
  Any.Builder_WriteString_k Tryz.bs166 Tryz.bsExtra B b bs s w h hlen hBw
end Go.Proofs
namespace Ph
theorem run_end (s : ByteArray) : ∀ n i, s.size - i = n → i ≤ s.size → ∃ k, i ≤ k ∧ k ≤ s.size ∧ (∀ m (hm : m < s.size), i ≤ m → m < k → ¬ brace s[m]) ∧ (∀ hk : k < s.size, brace s[k]) := by
  intro n
  induction n with
  | zero => intro i h hi; exact ⟨i, Nat.le_refl _, hi, fun m hm a b => by omega, fun hk => by omega⟩
  | succ n ih =>
    intro i h hi
    have hlt : i < s.size := by omega
    by_cases c : brace s[i]
    · exact ⟨i, Nat.le_refl _, hi, fun m hm a b => by omega, fun _ => c⟩
    · obtain ⟨k, h1, h2, h3, h4⟩ := ih (i + 1) (by omega) (by omega)
      refine ⟨k, by omega, h2, fun m hm a b => ?_, h4⟩
      rcases Nat.lt_or_ge i m with g | g
      · exact h3 m hm (by omega) b
      · obtain rfl : i = m := by omega
        exact c
theorem par_total (s : ByteArray) : ∀ n i, s.size - i ≤ n → ∃ r, Par s i r := by
  intro n
  induction n with
  | zero => intro i h; exact ⟨_, Par.fin i (by omega)⟩
  | succ n ih =>
    intro i h
    by_cases hlt : i < s.size
    · by_cases c1 : s[i] = 123
      · have hge := Go.Lib.indexByte_ge (s.extract i s.size).data.toList 125
        by_cases hx : Go.Lib.indexByte (s.extract i s.size).data.toList 125 = -1
        · exact ⟨_, Par.noclose i hlt c1 (fun k hk h2 => idx_none hx k hk (by omega))⟩
        · obtain ⟨o, ho⟩ : ∃ o : Nat, Go.Lib.indexByte (s.extract i s.size).data.toList 125 = o := ⟨_, (Int.toNat_of_nonneg (by omega)).symm⟩
          obtain ⟨hk, e1, e2⟩ := idx_some ho
          have o1 : 0 < o := by
            rcases Nat.eq_zero_or_pos o with g | g
            · subst g; rw [show s[i + 0] = s[i] from rfl, c1] at e1; exact absurd e1 (by decide)
            · exact g
          cases hp : placeOf (s.extract (i + 1) (i + o)).data.toList with
          | none => exact ⟨_, Par.badplace i (i + o) hlt c1 (by omega) hk e1 (fun k hk h2 h3 => e2 k hk (by omega) h3) hp⟩
          | some m =>
            obtain ⟨r, hr⟩ := ih (i + o + 1) (by omega)
            exact ⟨_, Par.opens i (i + o) m r hlt c1 (by omega) hk e1 (fun k hk h2 h3 => e2 k hk (by omega) h3) hp hr⟩
      · by_cases c2 : s[i] = 125
        · exact ⟨_, Par.closes i hlt c2⟩
        · obtain ⟨k, h1, h2, h3, h4⟩ := run_end s _ i rfl (by omega)
          have hik : i < k := by
            rcases Nat.lt_or_ge i k with g | g
            · exact g
            · obtain rfl : i = k := by omega
              exact absurd (h4 hlt) (fun e => e.elim c1 c2)
          obtain ⟨r, hr⟩ := ih k (by omega)
          exact ⟨_, Par.text i k r hlt hik h2 h3 h4 hr⟩
    · exact ⟨_, Par.fin i hlt⟩
end Ph
namespace Go.Proofs.YtpcgcghhddnifaaGreatDoor
open Go.RowKit
open Ph
theorem outcome (s : ByteArray) : (∃ l, Fine s l) ∨ (∃ a b, Wrong s a b) := by
  by_cases h : 4096 < s.size
  · exact Or.inr ⟨_, _, Or.inl ⟨h, rfl, rfl⟩⟩
  · cases hb : brk s 0 with
    | some j => exact Or.inr ⟨_, _, Or.inr (Or.inl ⟨by omega, j, hb, rfl, rfl⟩)⟩
    | none =>
      obtain ⟨r, hr⟩ := par_total s _ 0 (Nat.le_refl _)
      cases r with
      | ok l => exact Or.inl ⟨l, by omega, hb, hr⟩
      | error j => exact Or.inr ⟨_, _, Or.inr (Or.inr ⟨by omega, hb, j, hr, rfl, rfl⟩)⟩
theorem Fine.uniq {s : ByteArray} {l m : List Pc} (h : Fine s l) (h' : Fine s m) : l = m := by
  have := h.2.2.det h'.2.2
  injection this
theorem Fine.right {s : ByteArray} {l : List Pc} (h : Fine s l) (a b : Int) : ¬ Wrong s a b := by
  obtain ⟨h1, h2, h3⟩ := h
  rintro (⟨g, _, _⟩ | ⟨_, j, g, _⟩ | ⟨_, _, j, g, _⟩)
  · omega
  · rw [h2] at g; cases g
  · cases h3.det g
theorem Wrong.uniq {s : ByteArray} {a b c d : Int} (h : Wrong s a b) (h' : Wrong s c d) : a = c ∧ b = d := by
  rcases h with ⟨h1, rfl, rfl⟩ | ⟨h1, j, h2, rfl, rfl⟩ | ⟨h1, h2, j, h3, rfl, rfl⟩ <;> rcases h' with ⟨g1, rfl, rfl⟩ | ⟨g1, k, g2, rfl, rfl⟩ | ⟨g1, g2, k, g3, rfl, rfl⟩
  · exact ⟨rfl, rfl⟩
  · omega
  · omega
  · omega
  · rw [h2] at g2; cases g2; exact ⟨rfl, rfl⟩
  · rw [h2] at g2; cases g2
  · omega
  · rw [h2] at g2; cases g2
  · have := h3.det g3
    injection this with e
    rw [e]; exact ⟨rfl, rfl⟩
theorem Wrong.nz {s : ByteArray} {a b : Int} (h : Wrong s a b) : a ≠ 0 := by
  rcases h with ⟨_, rfl, _⟩ | ⟨_, j, _, rfl, _⟩ | ⟨_, _, j, _, rfl, _⟩ <;> decide
def FineP (l : List Pc) (w : World) (e : Ending) (w' : World) : Prop :=
  ∃ v, e = .returned (.tuple #[v, sp 0 0]) ∧ w'.ownsRow w.heap.size 100 3 v l.length (pcells l) ∧ Below w.heap.size w w'
def WrongP (a b : Int) (w : World) (e : Ending) (w' : World) : Prop := e = .returned (.tuple #[.slice none 0 0, sp a b]) ∧ Below w.heap.size w w'
theorem Parsed.fine {s : ByteArray} {w w' : World} {e : Ending} {l : List Pc} (hf : Fine s l) (h : Parsed s w e w') : FineP l w e w' := by
  rcases h with ⟨m, v, hm, he, ho, hb⟩ | ⟨a, b, hw, _⟩
  · obtain rfl := hf.uniq hm
    exact ⟨v, he, ho, hb⟩
  · exact absurd hw (hf.right a b)
theorem Parsed.wrong {s : ByteArray} {w w' : World} {e : Ending} {a b : Int} (hf : Wrong s a b) (h : Parsed s w e w') : WrongP a b w e w' := by
  rcases h with ⟨m, v, hm, _⟩ | ⟨c, d, hw, he, hb⟩
  · exact absurd hf (hm.right a b)
  · obtain ⟨rfl, rfl⟩ := hf.uniq hw
    exact ⟨he, hb⟩
theorem ref_fine {s : ByteArray} {l : List Pc} (hs : s.size ≤ 281474976710656) (hf : Fine s l) (w : World) : Calls Tryz.prog 58 #[.string s] w (FineP l w) := (refParse s hs w).mono fun _ _ h => h.fine hf
theorem ref_wrong {s : ByteArray} {a b : Int} (hs : s.size ≤ 281474976710656) (hf : Wrong s a b) (w : World) : Calls Tryz.prog 58 #[.string s] w (WrongP a b w) := (refParse s hs w).mono fun _ _ h => h.wrong hf
theorem parse_fine {s : ByteArray} {l : List Pc} (hs : s.size ≤ 281474976710656) (hf : Fine s l) (w : World) (hg : GlobP w) : Calls Tryz.prog 38 #[.string s] w (FineP l w) := (parse_any s hs w hg).mono fun _ _ h => h.fine hf
theorem parse_wrong {s : ByteArray} {a b : Int} (hs : s.size ≤ 281474976710656) (hf : Wrong s a b) (w : World) (hg : GlobP w) : Calls Tryz.prog 38 #[.string s] w (WrongP a b w) := (parse_any s hs w hg).mono fun _ _ h => h.wrong hf
theorem pcells_get {l : List Pc} {i : Nat} (hi : i < l.length) : (pcells l)[i * 3]? = some (.int .i64 l[i].kind) ∧ (pcells l)[i * 3 + 1]? = some (.string l[i].text) ∧ (pcells l)[i * 3 + 2]? = some (.int .i64 l[i].place) := by
  induction l generalizing i with
  | nil => simp at hi
  | cons p l ih =>
    cases i with
    | zero => exact ⟨rfl, rfl, rfl⟩
    | succ i =>
      have h3 : (i + 1) * 3 = i * 3 + 3 := by omega
      have := ih (i := i) (by simpa using hi)
      have e : pcells (p :: l) = [.int .i64 p.kind, .string p.text, .int .i64 p.place] ++ pcells l := rfl
      refine ⟨?_, ?_, ?_⟩
      · rw [e, List.getElem?_append_right (by simp; omega)]; simpa [h3] using this.1
      · rw [e, List.getElem?_append_right (by simp; omega)]; simpa [h3, show i * 3 + 3 + 1 - 3 = i * 3 + 1 by omega] using this.2.1
      · rw [e, List.getElem?_append_right (by simp; omega)]; simpa [h3, show i * 3 + 3 + 2 - 3 = i * 3 + 2 by omega] using this.2.2
end Go.Proofs.YtpcgcghhddnifaaGreatDoor
namespace Go.Proofs.YtpcgcghhddnifaaGreatDoor
open Go.RowKit
open Ph
def Lists (w : World) (B : Nat) (A : Option Addr) (l : List Pc) : Prop :=
  0 < l.length → ∃ ad : Addr, A = some ad ∧ ad.block < B ∧ ∀ j u, (pcells l)[j]? = some u → w.cell? (ad.add j) = some u
theorem Lists.of_own {w : World} {base : Nat} {v : Value} {l : List Pc} (h : w.ownsRow base 100 3 v l.length (pcells l)) : ∃ A c, v = .slice A l.length c ∧ Lists w w.heap.size A l := by
  rcases Nat.eq_zero_or_pos l.length with z | z
  · rcases h.2 with ⟨rfl, _⟩ | ⟨g, cap, cur, rfl, _⟩
    · exact ⟨none, 0, by rw [z], fun hl => by omega⟩
    · exact ⟨_, _, rfl, fun hl => by omega⟩
  · obtain ⟨g, cap, rfl, _, hlt⟩ := h.form z
    exact ⟨_, _, rfl, (Reads.of_own h).2⟩
theorem Lists.pc {w : World} {B : Nat} {A : Option Addr} {l : List Pc} (h : Lists w B A l) {i : Nat} (hi : i < l.length) :
    ∃ ad : Addr, A = some ad ∧ ad.block < B ∧ w.cell? (ad.add (i * 3)) = some (.int .i64 l[i].kind) ∧ w.cell? ⟨(ad.add (i * 3)).block, (ad.add (i * 3)).off + 1, none⟩ = some (.string l[i].text) ∧
      w.cell? ⟨(ad.add (i * 3)).block, (ad.add (i * 3)).off + 2, none⟩ = some (.int .i64 l[i].place) := by
  obtain ⟨ad, e, hb, hc⟩ := h (by omega)
  obtain ⟨h0, h1, h2⟩ := pcells_get hi
  refine ⟨ad, e, hb, hc _ _ h0, ?_, ?_⟩
  · exact (congrArg w.cell? (add_of_add ad (i * 3) 1)).trans (hc _ _ h1)
  · exact (congrArg w.cell? (add_of_add ad (i * 3) 2)).trans (hc _ _ h2)
end Go.Proofs.YtpcgcghhddnifaaGreatDoor
namespace Go.Proofs.YtpcgcghhddnifaaGreatDoor
open Go.RowKit
open Ph
def nums (l : List Pc) : List Int := (l.filter (fun p => p.kind == 2)).map (·.place)
def icells (l : List Int) : List Value := l.map (.int .i64)
theorem icells_length (l : List Int) : (icells l).length = l.length := by simp [icells]
theorem nums_le (l : List Pc) : (nums l).length ≤ l.length := by unfold nums; rw [List.length_map]; exact List.length_filter_le _ _
theorem nums_take {l : List Pc} {i : Nat} (h : i < l.length) : nums (l.take (i + 1)) = nums (l.take i) ++ (if l[i].kind = 2 then [l[i].place] else []) := by
  unfold nums
  rw [List.take_succ_eq_append_getElem h, List.filter_append, List.map_append]
  by_cases c : l[i].kind = 2 <;> simp [c]
theorem info3i : (Tryz.prog.info? 3).map (fun i => (i.zero, i.size, i.bytes)) = some (some (.int .i64 0), 1, 8) := by kernel_rfl
theorem reads_new1 (w : World) (a : Value) (t : TypeId) : Reads (w.alloc (.cells #[a] t)) (w.heap.size + 1) 1 (some ⟨w.heap.size, 0, none⟩) 1 [a] := by
  refine ⟨rfl, fun _ => ⟨_, rfl, by simp, ?_⟩⟩
  intro j u hu
  have hc := (Blk.new w t #[a]).cell j
  have he : (⟨w.heap.size, 0, none⟩ : Addr).add j = ⟨w.heap.size, j, none⟩ := by
    unfold Addr.add; split
    · rename_i h; rw [h]
    · simp
  rw [he, hc]; simpa using hu
theorem own_isnoc {w : World} {base : Nat} {v : Value} (l : List Int) (n : Int) (h : w.ownsRow base 3 1 v (l.length + 1) (icells l ++ [.int .i64 n])) : w.ownsRow base 3 1 v (l ++ [n]).length (icells (l ++ [n])) := by
  have e : icells (l ++ [n]) = icells l ++ [.int .i64 n] := by simp [icells]
  rw [e, List.length_append]
  exact h
theorem wpInt {ops : Array Oper} {rest : List Oper} {o : Oper} {a : Act} {Q : Exit → Act → World → Prop} (hgd : o.guard = none) (sI xI : Operand)
    (ho : o.op = .call { callee := .builtin .append, args := #[sI, xI], argTypes := #[98, 98] })
    (base : Nat) (w0 : World) (v : Value) (l : List Int) (n : Int) (hs : a.eval sI = v) (hown : w0.ownsRow base 3 1 v l.length (icells l)) (hx : a.eval xI = .slice (some ⟨w0.heap.size, 0, none⟩) 1 1)
    (hl : l.length ≤ 1000000000000) (hb : base ≤ w0.heap.size)
    (h : ∀ v' w', w'.ownsRow base 3 1 v' (l ++ [n]).length (icells (l ++ [n])) → (w0.alloc (.cells #[.int .i64 n] 3)).grownBy w' v.ownBlock → wpList Tryz.prog ops Q rest (a.put o.dst v') w') :
    wpList Tryz.prog ops Q (o :: rest) a (w0.alloc (.cells #[.int .i64 n] 3)) := by
  obtain ⟨i0, hi0, hz0, hz1, hz2⟩ := info_parts info3i
  refine wpList_append_any _ hgd sI xI 98 ho base 3 i0 _ 1 8 Tryz.underlying98 hi0 hz0 hz1 hz2 rfl (by omega) v l.length (icells l) hs (hown.alloc _) (w0.heap.size + 1) _ 1 1 [.int .i64 n] hx (reads_new1 w0 _ _) ?_ ?_ ?_ ?_ ?_
  · intro u hu; simp at hu; rcases hu with rfl; rfl
  · unfold maxLen; omega
  · omega
  · simp only [World.size_alloc]; omega
  · intro v' w' h1 h2 _
    exact h v' w' (own_isnoc l n h1) h2
theorem Lists.below {w w' : World} {B : Nat} {A : Option Addr} {l : List Pc} (h : Lists w B A l) (hb : Below B w w') : Lists w' B A l := fun hn => by
  obtain ⟨ad, e, hlt, hc⟩ := h hn
  exact ⟨ad, e, hlt, fun j u hu => (hb.cell (p := ad.add j) (by rw [block_of_add]; exact hlt)).trans (hc j u hu)⟩
theorem Lists.alloc {w : World} {B : Nat} {A : Option Addr} {l : List Pc} (h : Lists w B A l) (hB : B ≤ w.heap.size) (o : Obj) : Lists (w.alloc o) B A l := h.below ((Below.refl _ _).alloc hB o)
def NumsP (l : List Pc) (w : World) (e : Ending) (w' : World) : Prop :=
  ∃ v, e = .returned (.tuple #[v, .int .i64 0]) ∧ w'.ownsRow w.heap.size 3 1 v (nums l).length (icells (nums l)) ∧ Below w.heap.size w w'
def NoNums (a : Int) (w : World) (e : Ending) (w' : World) : Prop := e = .returned (.tuple #[.slice none 0 0, .int .i64 a]) ∧ Below w.heap.size w w'
theorem WrongP.calls {f : Nat} {s : ByteArray} {a b : Int} {w : World} (h : Calls Tryz.prog f #[.string s] w (WrongP a b w)) :
    Calls Tryz.prog f #[.string s] w fun e w' => e = .returned (.tuple #[.slice none 0 0, .agg #[.int .i64 a, .int .i64 b]]) ∧ Below w.heap.size w w' := h
theorem FineP.calls {f : Nat} {s : ByteArray} {l : List Pc} {w : World} (h : Calls Tryz.prog f #[.string s] w (FineP l w)) :
    Calls Tryz.prog f #[.string s] w fun e w' => ∃ A c, e = .returned (.tuple #[.slice A l.length c, .agg #[.int .i64 0, .int .i64 0]]) ∧ w'.ownsRow w.heap.size 100 3 (.slice A l.length c) l.length (pcells l) ∧ Lists w' w'.heap.size A l ∧ Below w.heap.size w w' :=
  h.mono fun e w' ⟨v, he, ho, hb⟩ => by
    obtain ⟨A, c, rfl, hl⟩ := Lists.of_own ho
    exact ⟨A, c, he, ho, hl, hb⟩
theorem par_len {s : ByteArray} {i : Nat} {r : Except Nat (List Pc)} (h : Par s i r) (hi : i ≤ s.size) : ∀ l, r = .ok l → l.length ≤ s.size - i := by
  induction h with
  | fin i h => rintro l ⟨⟩; simp
  | opens i j n r h h1 hj hj' h2 h3 hp hr ih =>
    intro l e
    cases r with
    | error k => cases e
    | ok m =>
      simp only [pre, Except.ok.injEq] at e
      subst e
      have := ih (by omega) m rfl
      simp; omega
  | noclose i h h1 h3 => rintro l ⟨⟩
  | badplace i j h h1 hj hj' h2 h3 hp => rintro l ⟨⟩
  | closes i h h1 => rintro l ⟨⟩
  | text i k r h hk hk' h1 h2 hr ih =>
    intro l e
    cases r with
    | error k => cases e
    | ok m =>
      simp only [pre, Except.ok.injEq] at e
      subst e
      have := ih (by omega) m rfl
      simp; omega
theorem Fine.len {s : ByteArray} {l : List Pc} (h : Fine s l) : l.length ≤ 4096 := by
  have := par_len h.2.2 (by omega) l rfl
  have := h.1
  omega
set_option maxRecDepth 100000 in
set_option maxHeartbeats 4000000 in
theorem places_wrong {s : ByteArray} {a b : Int} (hs : s.size ≤ 281474976710656) (hf : Wrong s a b) (w : World) (hg : GlobP w) : Calls Tryz.prog 110 #[.string s] w (NoNums a w) := by
  have HP := WrongP.calls (parse_wrong hs hf w hg)
  have hz := hf.nz
  have t1 : (a != 0) = true := by simpa using hz
  clear hf
  go_enter Tryz.func110, Tryz.ntmps110
  go_wp2_with (go_at_call 38; refine HP.mono ?_; rintro e w' ⟨rfl, hb⟩)
  go_quiet (fail)
  go_wp2_with fail
  refine bodyPost_ret (v := .tuple #[.slice none 0 0, .int .i64 a]) ?_ rfl ⟨rfl, ?_⟩
  · simp [results, Tryz.results110, go_sem]
  · exact blw_drewN (hb.alloc hb.size _) _
set_option maxRecDepth 100000 in
set_option maxHeartbeats 4000000 in
theorem places_fine {s : ByteArray} {l : List Pc} (hs : s.size ≤ 281474976710656) (hf : Fine s l) (w : World) (hg : GlobP w) : Calls Tryz.prog 110 #[.string s] w (NumsP l w) := by
  have HP := FineP.calls (parse_fine hs hf w hg)
  have hl := hf.len
  clear hf
  go_enter Tryz.func110, Tryz.ntmps110
  go_wp2_with (go_at_call 38; refine HP.mono ?_; rintro e w' ⟨A, c, rfl, ho, hL, hb⟩)
  have hbw := hb
  clear hb ho
  go_loopw [21, 6] (fun u v wr => ∃ i : Nat, u = .int .i64 i ∧ i ≤ l.length ∧ Lists wr w'.heap.size A l ∧ wr.ownsRow w'.heap.size 3 1 v (nums (l.take i)).length (icells (nums (l.take i))) ∧ Below w'.heap.size w' wr) (fun u _ _ => l.length - (intOf u).toNat)
  case atStart => exact ⟨0, rfl, by omega, hL.alloc (Nat.le_refl _) _, ⟨by simp [icells, nums], Or.inl ⟨rfl, rfl⟩⟩, (Below.refl _ _).alloc (Nat.le_refl _) _⟩
  case round =>
    obtain ⟨i, rfl, hi, hL, hown, hb⟩ := hrel
    by_cases hlt : i < l.length
    · obtain ⟨ad, rfl, b0, c0, c1, c2⟩ := hL.pc hlt
      have nl := nums_le (l.take i)
      have nt := nums_take hlt
      have n9 : (nums (l.take i)).length ≤ 1000000000000 := by rw [List.length_take] at nl; omega
      have hown' := hown.alloc (.cells #[.int .i64 l[i].kind, .string l[i].text, .int .i64 l[i].place] 100)
      have hL' := hL.alloc hb.size (.cells #[.int .i64 l[i].kind, .string l[i].text, .int .i64 l[i].place] 100)
      have hb' := hb.alloc hb.size (.cells #[.int .i64 l[i].kind, .string l[i].text, .int .i64 l[i].place] 100)
      clear hown hL hb
      by_cases c : l[i].kind = 2
      · have t1 : (l[i].kind == 2) = true := by simpa using c
        rw [if_pos c] at nt
        clear c
        go_wp2_with (first | (at_builtin; refine wpInt rfl (.tmp 28) (.tmp 31) rfl w'.heap.size (wr.alloc (.cells #[.int .i64 l[i].kind, .string l[i].text, .int .i64 l[i].place] 100)) u6 (nums (l.take i)) l[i].place rfl hown' (by simp [go_sem]) n9 hb'.size ?_; intro v1 w1 hown2 hg1))
        have hb1 := (hb'.alloc hb'.size _).grown hg1 (by simp only [World.size_alloc]; have := hb'.size; simp only [World.size_alloc] at this; omega) (fun k hk => (hown'.lt k hk).1)
        have hL1 := (hL'.alloc hb'.size _).below (Below.grown (Below.refl _ _) hg1 (by simp only [World.size_alloc]; have := hb'.size; simp only [World.size_alloc] at this; omega) (fun k hk => (hown'.lt k hk).1))
        clear hg1 hown' hb' hL'
        go_wp2_with fail
        go_roundw
        case rel => exact ⟨i + 1, by go_num, by omega, hL1, by rw [nt]; exact hown2, hb1⟩
        case measure => simp [intOf]; omega
      · have t1 : (l[i].kind == 2) = false := by simpa using c
        rw [if_neg c, List.append_nil] at nt
        clear c
        go_wp2_with fail
        go_roundw
        case rel => exact ⟨i + 1, by go_num, by omega, hL', by rw [nt]; exact hown', hb'⟩
        case measure => simp [intOf]; omega
    · have hi2 : i = l.length := by omega
      subst hi2
      rw [List.take_length] at hown
      go_wp2_with fail
      refine bodyPost_ret (v := .tuple #[u6, .int .i64 0]) ?_ rfl ⟨u6, rfl, own_base hown hbw.size, hbw.trans (hb.mono hbw.size)⟩
      simp [results, Tryz.results110, go_sem]
end Go.Proofs.YtpcgcghhddnifaaGreatDoor
namespace Go.Proofs.YtpcgcghhddnifaaGreatDoor
open Go.RowKit
open Ph
def anyBrace (t : ByteArray) : Bool := t.data.toList.any fun b => b == 123 || b == 125
theorem containsAny_brace (l : List UInt8) : Lib.containsAny l [123, 125] = l.any fun b => b == 123 || b == 125 := by
  unfold Lib.containsAny
  induction l with
  | nil => rfl
  | cons b l ih =>
    have hge := Lib.indexAny_ge [123, 125] l
    rw [List.any_cons, ← ih]
    by_cases c : ([123, 125] : List UInt8).contains b
    · have c' : (b == 123 || b == 125) = true := by simpa using c
      rw [c', Lib.indexAny, if_pos c]; simp
    · have c' : (b == 123 || b == 125) = false := by simpa using c
      rw [c', Lib.indexAny, if_neg c]
      by_cases d : Lib.indexAny l [123, 125] = -1
      · simp [d]
      · have : (Lib.indexAny l [123, 125] == -1) = false := by simpa using d
        rw [this]
        simp only [Bool.false_or]
        congr 1
        apply propext
        simp
        omega
/-- strings.ContainsAny tells braces in this text -/
def Tells (t : ByteArray) : Prop := ∀ w : World, Calls Tryz.prog 115 #[.string t, .string ⟨#[123, 125]⟩] w fun e w' => e = .returned (.bool (anyBrace t)) ∧ Below w.heap.size w w'
theorem tells_ascii {t : ByteArray} (hs : t.size < 4294967281) (h : ∀ (j : Nat) b, t.data.toList[j]? = some b → b.toNat < 128) : Tells t := fun w => by
  have := Tryz.strings_ContainsAny_laid t ⟨#[123, 125]⟩ w hs (by decide) h (by
    intro j b hb
    match j, hb with
    | 0, hb => simp at hb; subst hb; decide
    | 1, hb => simp at hb; subst hb; decide
    | j + 2, hb => simp at hb)
  rw [show Lib.containsAny t.data.toList (⟨#[123, 125]⟩ : ByteArray).data.toList = anyBrace t from containsAny_brace _] at this
  exact this
theorem field26 (a b : Int) (w : World) : (Instr.field 72 (.agg #[.int .i64 a, .int .i64 b]) 0).run Tryz.prog w = .ok (.int .i64 a) w := by
  simp [Instr.field, run_underlying Tryz.underlying72, part, asAgg, Tryz.isAgg30, Tryz.sizeOf30]
def mayB (p a : Pc) : Bool :=
  if p.kind = 1 then decide (a.kind ≠ 1) && (!(p.text.toList.isEmpty) && ((brk p.text 0).isNone && !(anyBrace p.text))) else if p.kind = 2 then decide (0 ≤ p.place) && decide (p.place < 16) else false
def pv (p : Pc) : Value := .agg #[.int .i64 p.kind, .string p.text, .int .i64 p.place]
set_option maxRecDepth 100000 in
set_option maxHeartbeats 4000000 in
theorem may_any (p a : Pc) (ht : brk p.text 0 = none → Tells p.text) (hs : p.text.size ≤ 9223372036854775807) (w : World) :
    Calls Tryz.prog 89 #[pv p, pv a] w fun e w' => e = .returned (.bool (mayB p a)) ∧ Below w.heap.size w w' := by
  have HU := utfCheck p.text hs
  have hb2 := ((Below.refl w.heap.size w).alloc (Nat.le_refl _) (.cells #[.int .i64 p.kind, .string p.text, .int .i64 p.place] 100)).alloc (by simp) (.cells #[.int .i64 a.kind, .string a.text, .int .i64 a.place] 100)
  have B1 := (Blk.new w 100 #[.int .i64 p.kind, .string p.text, .int .i64 p.place]).alloc (.cells #[.int .i64 a.kind, .string a.text, .int .i64 a.place] 100)
  have X1 := B1.at_ 1 (v := .string p.text) rfl
  unfold pv mayB
  by_cases k1 : p.kind = 1
  · have t1 : (p.kind == 1) = true := by simpa using k1
    rw [if_pos k1]
    clear k1
    by_cases a1 : a.kind = 1
    · have t2 : (a.kind != 1) = false := by simpa using a1
      have t3 : decide (a.kind ≠ 1) = false := by simpa using a1
      rw [t3]
      clear a1 t3
      go_enter Tryz.func89, Tryz.ntmps89
      go_wp2_with fail
      refine bodyPost_ret (v := .bool false) ?_ rfl ⟨by simp, hb2⟩
      simp [results, Tryz.results89, go_sem]
    · have t2 : (a.kind != 1) = true := by simpa using a1
      have t3 : decide (a.kind ≠ 1) = true := by simpa using a1
      rw [t3]
      clear a1 t3
      cases e1 : p.text.toList.isEmpty with
      | true =>
        clear ht
        go_enter Tryz.func89, Tryz.ntmps89
        go_wp2_with fail
        refine bodyPost_ret (v := .bool false) ?_ rfl ⟨by simp, hb2⟩
        simp [results, Tryz.results89, go_sem]
      | false =>
        cases hk : brk p.text 0 with
        | some k =>
          rw [hk] at HU
          clear hk ht
          simp only [spotV] at HU
          have HF := field26 6 k
          go_enter Tryz.func89, Tryz.ntmps89
          go_wp2_with (go_at_call 30; refine (HU _).mono ?_; rintro e w' ⟨rfl, hb3⟩)
          refine bodyPost_ret (v := .bool false) ?_ rfl ⟨by simp, hb2.trans (hb3.mono hb2.size)⟩
          simp [results, Tryz.results89, go_sem]
        | none =>
          have HT := ht hk
          unfold Tells at HT
          rw [hk] at HU
          clear hk ht
          simp only [spotV] at HU
          have HF := field26 0 0
          go_enter Tryz.func89, Tryz.ntmps89
          go_wp2_with (first | (go_at_call 30; refine (HU _).mono ?_; rintro e w1 ⟨rfl, hb3⟩; have X3 := (hb3.cell (p := ⟨w.heap.size, 1, none⟩) (by simp; omega)).trans X1) | (go_at_call 115; refine (HT _).mono ?_; rintro e w2 ⟨rfl, hb4⟩))
          refine bodyPost_ret (v := .bool (!(anyBrace p.text))) ?_ rfl ⟨by simp, hb2.trans ((hb3.mono hb2.size).trans (hb4.mono (Nat.le_trans hb2.size hb3.size)))⟩
          simp [results, Tryz.results89, go_sem]
  · have t1 : (p.kind == 1) = false := by simpa using k1
    rw [if_neg k1]
    clear k1 ht
    by_cases k2 : p.kind = 2
    · have t2 : (p.kind == 2) = true := by simpa using k2
      rw [if_pos k2]
      clear k2
      by_cases g0 : 0 ≤ p.place
      · by_cases g1 : p.place < 16
        · go_enter Tryz.func89, Tryz.ntmps89
          go_wp2_with fail
          refine bodyPost_ret (v := .bool true) ?_ rfl ⟨by simp; omega, hb2⟩
          simp [results, Tryz.results89, go_sem]
        · go_enter Tryz.func89, Tryz.ntmps89
          go_wp2_with fail
          refine bodyPost_ret (v := .bool false) ?_ rfl ⟨by simp; omega, hb2⟩
          simp [results, Tryz.results89, go_sem]
      · go_enter Tryz.func89, Tryz.ntmps89
        go_wp2_with fail
        refine bodyPost_ret (v := .bool false) ?_ rfl ⟨by simp; omega, hb2⟩
        simp [results, Tryz.results89, go_sem]
    · have t2 : (p.kind == 2) = false := by simpa using k2
      rw [if_neg k2]
      clear k2
      go_enter Tryz.func89, Tryz.ntmps89
      go_wp2_with fail
      refine bodyPost_ret (v := .bool false) ?_ rfl ⟨rfl, hb2⟩
      simp [results, Tryz.results89, go_sem]
end Go.Proofs.YtpcgcghhddnifaaGreatDoor
namespace Go.Proofs.YtpcgcghhddnifaaGreatDoor
open Go.RowKit
open Ph
def pz : Pc := ⟨0, ⟨#[]⟩, 0⟩
def ahead (l : List Pc) (i : Nat) : Pc := (pz :: l).getD i pz
theorem ahead_succ {l : List Pc} {i : Nat} (h : i < l.length) : ahead l (i + 1) = l[i] := by
  unfold ahead; simp [h]
def okAt (l : List Pc) (i : Nat) : Bool := mayB (l.getD i pz) (ahead l i)
def TellsAll (l : List Pc) : Prop := ∀ p ∈ l, (brk p.text 0 = none → Tells p.text) ∧ p.text.size ≤ 281474976710656
def firstBad (l : List Pc) : Nat → Nat → Option Nat
  | _, 0 => none
  | i, n + 1 => if okAt l i then firstBad l (i + 1) n else some i
def badAt (l : List Pc) : Option Nat := firstBad l 0 l.length
def faultV : Option Nat → Value
  | some k => .agg #[.int .i64 2, .int .i64 k]
  | none => .agg #[.int .i64 0, .int .i64 0]
set_option maxRecDepth 100000 in
set_option maxHeartbeats 4000000 in
theorem check_any (A : Option Addr) (l : List Pc) (c B : Nat) (ht : TellsAll l) (hn : l.length ≤ 281474976710656) (w : World) (hL : Lists w B A l) (hB : B ≤ w.heap.size) :
    Calls Tryz.prog 63 #[.slice A l.length c] w fun e w' => e = .returned (faultV (badAt l)) ∧ Below w.heap.size w w' := by
  go_enter Tryz.func63, Tryz.ntmps63
  go_wp2_with fail
  go_loopw [8] (fun u wr => ∃ i : Nat, u = .int .i64 i ∧ i ≤ l.length ∧ Lists wr B A l ∧ Blk wr (w.heap.size + 1) 100 #[.int .i64 (ahead l i).kind, .string (ahead l i).text, .int .i64 (ahead l i).place] ∧ Blk wr w.heap.size 107 #[.int .i64 0, .int .i64 0] ∧ Below w.heap.size w wr ∧ badAt l = firstBad l i (l.length - i)) (fun u _ => l.length - (intOf u).toNat)
  case atStart =>
    exact ⟨0, rfl, by omega, (hL.alloc hB _).alloc (by simp; omega) _, by have := Blk.new (w.alloc (.cells #[.int .i64 0, .int .i64 0] 107)) 100 #[.int .i64 0, .string ⟨#[]⟩, .int .i64 0]; simpa [ahead, pz] using this, (Blk.new _ _ _).alloc _, ((Below.refl _ _).alloc (Nat.le_refl _) _).alloc (by simp) _, rfl⟩
  case round =>
    obtain ⟨i, rfl, hi, hL, hA, hF, hb, hg⟩ := hrel
    by_cases hlt : i < l.length
    · obtain ⟨ad, rfl, b0, c0, c1, c2⟩ := hL.pc hlt
      have hm := may_any l[i] (ahead l i) (ht _ (List.getElem_mem hlt)).1 (Nat.le_trans (ht _ (List.getElem_mem hlt)).2 (by decide)) (wr.alloc (.cells #[.int .i64 l[i].kind, .string l[i].text, .int .i64 l[i].place] 100))
      unfold pv at hm
      have hA1 := hA.alloc (.cells #[.int .i64 l[i].kind, .string l[i].text, .int .i64 l[i].place] 100)
      have hF1 := hF.alloc (.cells #[.int .i64 l[i].kind, .string l[i].text, .int .i64 l[i].place] 100)
      have hN1 := Blk.new wr 100 #[.int .i64 l[i].kind, .string l[i].text, .int .i64 l[i].place]
      have hL1 := hL.alloc (Nat.le_trans hB hb.size) (.cells #[.int .i64 l[i].kind, .string l[i].text, .int .i64 l[i].place] 100)
      have hbb := hb.alloc hb.size (.cells #[.int .i64 l[i].kind, .string l[i].text, .int .i64 l[i].place] 100)
      have a0 := hA1.at_ 0 (v := .int .i64 (ahead l i).kind) rfl
      have a1 := hA1.at_ 1 (v := .string (ahead l i).text) rfl
      have a2 := hA1.at_ 2 (v := .int .i64 (ahead l i).place) rfl
      have n9 := hb.size
      have n8 := hA.lt
      have go : okAt l i = mayB l[i] (ahead l i) := by unfold okAt; simp [hlt]
      have e1 : l.length - i = (l.length - (i + 1)) + 1 := by omega
      rw [e1, firstBad, go] at hg
      clear hL go e1
      cases hmb : mayB l[i] (ahead l i) with
      | true =>
        rw [hmb] at hm hg
        clear hmb
        go_wp2_with (go_at_call 89; refine hm.mono ?_; rintro e w1 ⟨rfl, hb1⟩; have N2 := hN1.below hb1 (by simp); have M0 := N2.at_ 0 (v := .int .i64 l[i].kind) rfl; have M1 := N2.at_ 1 (v := .string l[i].text) rfl; have M2 := N2.at_ 2 (v := .int .i64 l[i].place) rfl; have A2 := hA1.below hb1 hA1.lt; have A20 := A2.at_ 0 (v := .int .i64 (ahead l i).kind) rfl; have A21 := A2.at_ 1 (v := .string (ahead l i).text) rfl; have A22 := A2.at_ 2 (v := .int .i64 (ahead l i).place) rfl; have A2f := A2.frozen)
        have X1 := ((A2.set_ 0 (.int .i64 l[i].kind)).set_ 1 (.string l[i].text)).set_ 2 (.int .i64 l[i].place)
        have X2 := (((hF1.below hb1 hF1.lt).far (p := ⟨w.heap.size + 1, 0, none⟩) (by simp) (.int .i64 l[i].kind)).far (p := ⟨w.heap.size + 1, 1, none⟩) (by simp) (.string l[i].text)).far (p := ⟨w.heap.size + 1, 2, none⟩) (by simp) (.int .i64 l[i].place)
        have X3 := (((hbb.trans (hb1.mono hbb.size)).setCell (p := ⟨w.heap.size + 1, 0, none⟩) (by simp) (.int .i64 l[i].kind)).setCell (p := ⟨w.heap.size + 1, 1, none⟩) (by simp) (.string l[i].text)).setCell (p := ⟨w.heap.size + 1, 2, none⟩) (by simp) (.int .i64 l[i].place)
        have X4 := hL1.below ((((hb1.mono (Nat.le_trans hB hbb.size)).setCell (p := ⟨w.heap.size + 1, 0, none⟩) (by show B ≤ w.heap.size + 1; omega) (.int .i64 l[i].kind)).setCell (p := ⟨w.heap.size + 1, 1, none⟩) (by show B ≤ w.heap.size + 1; omega) (.string l[i].text)).setCell (p := ⟨w.heap.size + 1, 2, none⟩) (by show B ≤ w.heap.size + 1; omega) (.int .i64 l[i].place))
        clear A2 hb1 hA1 hF1 hbb hL1 hN1
        go_roundw
        case rel => exact ⟨i + 1, by go_num, by omega, X4, by rw [ahead_succ hlt]; exact X1, X2, X3, hg⟩
        case measure => simp [intOf]; omega
      | false =>
        rw [hmb] at hm hg
        clear hmb
        go_wp2_with (go_at_call 89; refine hm.mono ?_; rintro e w1 ⟨rfl, hb1⟩; have F2 := hF1.below hb1 hF1.lt; have F20 := F2.at_ 0 (v := .int .i64 0) rfl; have F21 := F2.at_ 1 (v := .int .i64 0) rfl; have F2f := F2.frozen)
        have X3 := ((hbb.trans (hb1.mono hbb.size)).setCell (p := ⟨w.heap.size, 0, none⟩) (by simp) (.int .i64 2)).setCell (p := ⟨w.heap.size, 1, none⟩) (by simp) (.int .i64 i)
        refine bodyPost_ret (v := .agg #[.int .i64 2, .int .i64 i]) ?_ rfl ⟨by rw [hg]; rfl, X3⟩
        simp [results, Tryz.results63, go_sem, F20, F21]
    · have hi2 : l.length - i = 0 := by omega
      rw [hi2, firstBad] at hg
      have F20 := hF.at_ 0 (v := .int .i64 0) rfl
      have F21 := hF.at_ 1 (v := .int .i64 0) rfl
      have F2f := hF.frozen
      go_wp2_with fail
      refine bodyPost_ret (v := .agg #[.int .i64 0, .int .i64 0]) ?_ rfl ⟨by rw [hg]; rfl, (hb.setCell (by simp) _).setCell (by simp) _⟩
      simp [results, Tryz.results63, go_sem, F20, F21]
end Go.Proofs.YtpcgcghhddnifaaGreatDoor
namespace Go.Proofs.YtpcgcghhddnifaaGreatDoor
open Go.RowKit
open Ph
def big (m : Nat) (p : Pc) : Bool := decide (p.kind = 2) && decide ((m : Int) ≤ p.place)
set_option maxRecDepth 100000 in
set_option maxHeartbeats 4000000 in
theorem clo1 (p : Pc) (q : Nat) (AA : Option Addr) (m cc : Nat) (w : World) (hq : w.cell? ⟨q, 0, none⟩ = some (.slice AA m cc)) (hlt : q < w.heap.size) :
    Calls Tryz.prog 65 #[pv p, .pointer (some ⟨q, 0, none⟩)] w fun e w' => e = .returned (.bool (big m p)) ∧ Below w.heap.size w w' := by
  have hq' : (w.alloc (.cells #[.int .i64 p.kind, .string p.text, .int .i64 p.place] 100)).cell? ⟨q, 0, none⟩ = some (.slice AA m cc) := (World.cell?_alloc_lt w _ _ hlt).trans hq
  have hb := (Below.refl w.heap.size w).alloc (Nat.le_refl _) (.cells #[.int .i64 p.kind, .string p.text, .int .i64 p.place] 100)
  clear hq
  unfold pv big
  by_cases k2 : p.kind = 2
  · have t1 : (p.kind == 2) = true := by simpa using k2
    have t2 : decide (p.kind = 2) = true := by simpa using k2
    rw [t2]
    clear k2 t2
    go_enter Tryz.func65, Tryz.ntmps65
    go_wp2_with fail
    refine bodyPost_ret (v := .bool (decide ((m : Int) ≤ p.place))) ?_ rfl ⟨by simp, hb⟩
    simp [results, Tryz.results65, go_sem]
  · have t1 : (p.kind == 2) = false := by simpa using k2
    have t2 : decide (p.kind = 2) = false := by simpa using k2
    rw [t2]
    clear k2 t2
    go_enter Tryz.func65, Tryz.ntmps65
    go_wp2_with fail
    refine bodyPost_ret (v := .bool false) ?_ rfl ⟨by simp, hb⟩
    simp [results, Tryz.results65, go_sem]
theorem any_take {l : List Pc} {m i : Nat} (h : i < l.length) : (l.take (i + 1)).any (big m) = ((l.take i).any (big m) || big m l[i]) := by
  rw [List.take_succ_eq_append_getElem h, List.any_append]; simp
theorem any_hit {l : List Pc} {m i : Nat} (h : i < l.length) (hb : big m l[i] = true) : l.any (big m) = true := List.any_eq_true.2 ⟨_, List.getElem_mem h, hb⟩
def IdxP (l : List Pc) (m : Nat) (w : World) (e : Ending) (w' : World) : Prop := ∃ k : Int, e = .returned (.int .i64 k) ∧ decide (0 ≤ k) = l.any (big m) ∧ Below w.heap.size w w'
set_option maxRecDepth 100000 in
set_option maxHeartbeats 4000000 in
theorem index_func (A : Option Addr) (l : List Pc) (c B q : Nat) (AA : Option Addr) (m cc : Nat) (hn : l.length ≤ 281474976710656) (w : World) (hL : Lists w B A l) (hB : B ≤ w.heap.size) (hq : w.cell? ⟨q, 0, none⟩ = some (.slice AA m cc)) (hlt : q < w.heap.size) :
    Calls Tryz.prog 90 #[.slice A l.length c, .func (.func 65) #[] #[.pointer (some ⟨q, 0, none⟩)]] w (IdxP l m w) := by
  go_enter Tryz.func90, Tryz.ntmps90
  go_wp2_with fail
  go_loopw [8] (fun u wr => ∃ i : Nat, u = .int .i64 i ∧ i ≤ l.length ∧ Lists wr B A l ∧ Below w.heap.size w wr ∧ (l.take i).any (big m) = false) (fun u _ => l.length - (intOf u).toNat)
  case atStart => exact ⟨0, rfl, by omega, hL, Below.refl _ _, by simp⟩
  case round =>
    obtain ⟨i, rfl, hi, hL, hb, hno⟩ := hrel
    by_cases h : i < l.length
    · obtain ⟨ad, rfl, b0, c0, c1, c2⟩ := hL.pc h
      have hc := clo1 l[i] q AA m cc wr ((hb.cell (p := ⟨q, 0, none⟩) hlt).trans hq) (Nat.lt_of_lt_of_le hlt hb.size)
      unfold pv at hc
      have hat := any_take (m := m) h
      cases hbg : big m l[i] with
      | true =>
        rw [hbg] at hc
        have hit := any_hit h hbg
        clear hbg hat hno
        go_wp2_with fail
        refine hc.mono ?_
        rintro e w1 ⟨rfl, hb1⟩
        go_wp2_with fail
        refine bodyPost_ret (v := .int .i64 i) ?_ rfl ⟨i, rfl, by rw [hit]; simp, hb.trans (hb1.mono hb.size)⟩
        simp [results, Tryz.results90, go_sem]
      | false =>
        rw [hbg] at hc
        rw [hno, hbg, Bool.or_self] at hat
        clear hbg hno
        have hg9 := hb.size
        go_wp2_with fail
        refine hc.mono ?_
        rintro e w1 ⟨rfl, hb1⟩
        go_wp2_with fail
        go_roundw
        case rel => exact ⟨i + 1, by go_num, by omega, hL.below (hb1.mono (by omega)), hb.trans (hb1.mono hb.size), hat⟩
        case measure => simp [intOf]; omega
    · have hi2 : i = l.length := by omega
      subst hi2
      rw [List.take_length] at hno
      go_wp2_with fail
      refine bodyPost_ret (v := .int .i64 (-1)) ?_ rfl ⟨-1, rfl, by rw [hno]; rfl, hb⟩
      simp [results, Tryz.results90, go_sem]
set_option maxRecDepth 100000 in
set_option maxHeartbeats 4000000 in
theorem contains_func (A : Option Addr) (l : List Pc) (c B q : Nat) (AA : Option Addr) (m cc : Nat) (hn : l.length ≤ 281474976710656) (w : World) (hL : Lists w B A l) (hB : B ≤ w.heap.size) (hq : w.cell? ⟨q, 0, none⟩ = some (.slice AA m cc)) (hlt : q < w.heap.size) :
    Calls Tryz.prog 64 #[.slice A l.length c, .func (.func 65) #[] #[.pointer (some ⟨q, 0, none⟩)]] w fun e w' => e = .returned (.bool (l.any (big m))) ∧ Below w.heap.size w w' := by
  have HI := index_func A l c B q AA m cc hn w hL hB hq hlt
  go_enter Tryz.func64, Tryz.ntmps64
  go_wp2_with (go_at_call 90; refine HI.mono ?_; rintro e w1 ⟨k, rfl, hk, hb⟩)
  refine bodyPost_ret (v := .bool (l.any (big m))) ?_ rfl ⟨rfl, hb⟩
  simp [results, Tryz.results64, go_sem, ← hk]
end Go.Proofs.YtpcgcghhddnifaaGreatDoor
namespace Go.Proofs.YtpcgcghhddnifaaGreatDoor
open Go.RowKit
open Ph
def txt (tell : Int → ByteArray) (p : Pc) : ByteArray := if p.kind = 2 then tell p.place else p.text
def putAll (tell : Int → ByteArray) (most : Nat) : ByteArray → List Pc → Option ByteArray
  | acc, [] => some acc
  | acc, p :: l => if acc.size + (txt tell p).size ≤ most then putAll tell most (acc ++ txt tell p) l else none
def putV : Option ByteArray → Value
  | some b => .tuple #[.string b, .int .i64 0]
  | none => .tuple #[.string ⟨#[]⟩, .int .i64 3]
/-- the function tells these places, in every world that keeps what lies here -/
def ToldBy (f : Nat) (caps : Array Value) (W : World) (tell : Int → ByteArray) (l : List Pc) : Prop :=
  ∀ p ∈ l, (p.kind = 2 → ∀ wr : World, Below W.heap.size W wr → Calls Tryz.prog f (#[.int .i64 p.place] ++ caps) wr fun e w' => e = .returned (.string (tell p.place)) ∧ w' = wr) ∧ (txt tell p).size ≤ 281474976710656
theorem cells_push (a b : ByteArray) : Lib.strCells a ++ Lib.strCells b = Lib.strCells (a ++ b) := by
  simp [Lib.strCells, ByteArray.data_append]
theorem putAll_drop {tell : Int → ByteArray} {most : Nat} {acc : ByteArray} {l : List Pc} {i : Nat} (h : i < l.length) :
    putAll tell most acc (l.drop i) = if acc.size + (txt tell l[i]).size ≤ most then putAll tell most (acc ++ txt tell l[i]) (l.drop (i + 1)) else none := by
  rw [List.drop_eq_getElem_cons h, putAll]
theorem fresh_isBuilderF (w : World) : Lib.IsBuilderF 133 5 w.heap.size w.heap.size [] (w.alloc (.cells #[.pointer none, .slice none 0 0] 133)) := Or.inl (Lib.BuilderAtF.of (by
  rcases Lib.fresh_isBuilder 133 5 w with h | h
  · exact h
  · exfalso
    have h0 := h.cell0
    have h1 := (Blk.new w 133 #[.pointer none, .slice none 0 0]).at_ 0 (v := .pointer none) rfl
    rw [h1] at h0
    cases h0))
set_option maxRecDepth 100000 in
set_option maxHeartbeats 4000000 in
theorem put_any (A : Option Addr) (l : List Pc) (c B most f : Nat) (caps : Array Value) (tell : Int → ByteArray) (hn : l.length ≤ 281474976710656) (hm : most ≤ 262144) (w : World) (hL : Lists w B A l) (hB : B ≤ w.heap.size) (hT : ToldBy f caps w tell l)
    (hf : ∀ (args : Array Value) (w : World), (callFunc f args).run Tryz.prog w = .ok (.enter f args) w) :
    Calls Tryz.prog 66 #[.slice A l.length c, .int .i64 most, .func (.func f) #[] caps] w fun e w' => e = .returned (putV (putAll tell most ⟨#[]⟩ l)) ∧ Below w.heap.size w w' := by
  go_enter Tryz.func66, Tryz.ntmps66
  go_wp2_with fail
  go_loopw [14] (fun u wr => ∃ (i : Nat) (acc : ByteArray), u = .int .i64 i ∧ i ≤ l.length ∧ acc.size ≤ most ∧ Lists wr B A l ∧ Lib.IsBuilderF 133 5 w.heap.size w.heap.size (Lib.strCells acc) wr ∧ Below w.heap.size w wr ∧ putAll tell most ⟨#[]⟩ l = putAll tell most acc (l.drop i)) (fun u _ => l.length - (intOf u).toNat)
  case atStart => exact ⟨0, ⟨#[]⟩, rfl, by omega, Nat.zero_le _, hL.alloc hB _, fresh_isBuilderF w, (Below.refl _ _).alloc (Nat.le_refl _) _, by simp⟩
  case round =>
    obtain ⟨i, acc, rfl, hi, hacc, hL, hIs, hb, hp⟩ := hrel
    by_cases h : i < l.length
    · obtain ⟨ad, rfl, b0, c0, c1, c2⟩ := hL.pc h
      have hL1 := hL.alloc (Nat.le_trans hB hb.size) (.cells #[.int .i64 l[i].kind, .string l[i].text, .int .i64 l[i].place] 100)
      have hI1 := hIs.alloc (.cells #[.int .i64 l[i].kind, .string l[i].text, .int .i64 l[i].place] 100)
      have hbb := hb.alloc hb.size (.cells #[.int .i64 l[i].kind, .string l[i].text, .int .i64 l[i].place] 100)
      obtain ⟨hc, hsz⟩ := hT l[i] (List.getElem_mem h)
      have HLen := Tryz.Builder_Len_f w.heap.size w.heap.size (Lib.strCells acc) _ hI1
      rw [Lib.strCells_length] at HLen
      rw [putAll_drop h] at hp
      have n9 := hbb.size
      by_cases k2 : l[i].kind = 2
      · have t1 : (l[i].kind == 2) = true := by simpa using k2
        have HC := hc k2 _ hbb
        have e1 : txt tell l[i] = tell l[i].place := by unfold txt; rw [if_pos k2]
        rw [e1] at hp hsz
        clear hc k2 e1
        by_cases hfit : acc.size + (tell l[i].place).size ≤ most
        · rw [if_pos hfit] at hp
          have HW := Tryz.WriteStringK w.heap.size w.heap.size (Lib.strCells acc) (tell l[i].place) _ hI1 (by rw [Lib.strCells_length]; omega) n9
          rw [cells_push] at HW
          have hfi : (acc.size : Int) + (tell l[i].place).size ≤ most := by omega
          have hcf := hf (#[.int .i64 l[i].place] ++ caps)
          go_wp2_with fail
          refine HC.mono ?_
          rintro e w0 ⟨rfl, rfl⟩
          go_wp2_with (first | (go_at_call 91; refine HLen.mono ?_; rintro e w1 ⟨rfl, rfl⟩) | (go_at_call 92; refine HW.mono ?_; rintro e w2 ⟨rfl, hI2, hb2, hk2⟩))
          go_roundw
          case rel => exact ⟨i + 1, acc ++ tell l[i].place, by go_num, by omega, by rw [ByteArray.size_append]; omega, hL1.below (hb2.mono hB), Or.inr hI2, hbb.trans hb2, hp⟩
          case measure => simp [intOf]; omega
        · rw [if_neg hfit] at hp
          have hfi : ¬ (acc.size : Int) + (tell l[i].place).size ≤ most := by omega
          have hcf := hf (#[.int .i64 l[i].place] ++ caps)
          go_wp2_with fail
          refine HC.mono ?_
          rintro e w0 ⟨rfl, rfl⟩
          go_wp2_with (first | (go_at_call 91; refine HLen.mono ?_; rintro e w1 ⟨rfl, rfl⟩))
          refine bodyPost_ret (v := .tuple #[.string ⟨#[]⟩, .int .i64 3]) ?_ rfl ⟨by rw [hp]; rfl, hbb⟩
          simp [results, Tryz.results66, go_sem]
      · have t1 : (l[i].kind == 2) = false := by simpa using k2
        have e1 : txt tell l[i] = l[i].text := by unfold txt; rw [if_neg k2]
        rw [e1] at hp hsz
        clear hc k2 e1
        by_cases hfit : acc.size + (l[i].text).size ≤ most
        · rw [if_pos hfit] at hp
          have HW := Tryz.WriteStringK w.heap.size w.heap.size (Lib.strCells acc) (l[i].text) _ hI1 (by rw [Lib.strCells_length]; omega) n9
          rw [cells_push] at HW
          have hfi : (acc.size : Int) + (l[i].text).size ≤ most := by omega
          go_wp2_with (first | (go_at_call 91; refine HLen.mono ?_; rintro e w1 ⟨rfl, rfl⟩) | (go_at_call 92; refine HW.mono ?_; rintro e w2 ⟨rfl, hI2, hb2, hk2⟩))
          go_roundw
          case rel => exact ⟨i + 1, acc ++ l[i].text, by go_num, by omega, by rw [ByteArray.size_append]; omega, hL1.below (hb2.mono hB), Or.inr hI2, hbb.trans hb2, hp⟩
          case measure => simp [intOf]; omega
        · rw [if_neg hfit] at hp
          have hfi : ¬ (acc.size : Int) + (l[i].text).size ≤ most := by omega
          go_wp2_with (first | (go_at_call 91; refine HLen.mono ?_; rintro e w1 ⟨rfl, rfl⟩))
          refine bodyPost_ret (v := .tuple #[.string ⟨#[]⟩, .int .i64 3]) ?_ rfl ⟨by rw [hp]; rfl, hbb⟩
          simp [results, Tryz.results66, go_sem]
    · have hi2 : i = l.length := by omega
      subst hi2
      rw [List.drop_length, putAll] at hp
      have HS := Tryz.Builder_String_any_k w.heap.size w.heap.size acc.data.toList _ hIs hb.size
      go_wp2_with (go_at_call 93; refine HS.mono ?_; rintro e w2 ⟨rfl, _, hb2, _⟩)
      refine bodyPost_ret (v := .tuple #[.string acc, .int .i64 0]) ?_ rfl ⟨by rw [hp]; rfl, hb.trans hb2⟩
      simp [results, Tryz.results66, go_sem]
end Go.Proofs.YtpcgcghhddnifaaGreatDoor
namespace Go.Proofs.YtpcgcghhddnifaaGreatDoor
open Go.RowKit
open Ph
def Texts (w : World) (B : Nat) (A : Option Addr) (xs : List ByteArray) : Prop :=
  0 < xs.length → ∃ ad : Addr, A = some ad ∧ ad.block < B ∧ ∀ j (h : j < xs.length), w.cell? (ad.add j) = some (.string xs[j])
theorem Texts.below {w w' : World} {B : Nat} {A : Option Addr} {l : List ByteArray} (h : Texts w B A l) (hb : Below B w w') : Texts w' B A l := fun hn => by
  obtain ⟨ad, e, hlt, hc⟩ := h hn
  exact ⟨ad, e, hlt, fun j hj => (hb.cell (p := ad.add j) (by rw [block_of_add]; exact hlt)).trans (hc j hj)⟩
theorem Texts.alloc {w : World} {B : Nat} {A : Option Addr} {l : List ByteArray} (h : Texts w B A l) (hB : B ≤ w.heap.size) (o : Obj) : Texts (w.alloc o) B A l := h.below ((Below.refl _ _).alloc hB o)
theorem Texts.more {w : World} {B B' : Nat} {A : Option Addr} {l : List ByteArray} (h : Texts w B A l) (hB : B ≤ B') : Texts w B' A l := fun hn => by
  obtain ⟨ad, e, hlt, hc⟩ := h hn
  exact ⟨ad, e, by omega, hc⟩
def argOf (xs : List ByteArray) (n : Int) : ByteArray := xs.getD n.toNat ⟨#[]⟩
def layP (xs : List ByteArray) (l : List Pc) : ByteArray × Int :=
  match badAt l with
  | some _ => (⟨#[]⟩, 2)
  | none =>
    match l.any (big xs.length) with
    | true => (⟨#[]⟩, 2)
    | false =>
      match putAll (argOf xs) 262144 ⟨#[]⟩ l with
      | some b => (b, 0)
      | none => (⟨#[]⟩, 3)
def layR (xs : List ByteArray) (l : List Pc) : Value := .tuple #[.string (layP xs l).1, .int .i64 (layP xs l).2]
theorem firstBad_none {l : List Pc} : ∀ n i, firstBad l i n = none → ∀ j, i ≤ j → j < i + n → okAt l j = true := by
  intro n
  induction n with
  | zero => intro i _ j h1 h2; omega
  | succ n ih =>
    intro i h j h1 h2
    rw [firstBad] at h
    by_cases c : okAt l i = true
    · rw [if_pos c] at h
      rcases Nat.lt_or_ge i j with g | g
      · exact ih (i + 1) h j (by omega) (by omega)
      · obtain rfl : i = j := by omega
        exact c
    · rw [if_neg c] at h; cases h
theorem bad_none_place {l : List Pc} (h : badAt l = none) {p : Pc} (hp : p ∈ l) (k : p.kind = 2) : 0 ≤ p.place ∧ p.place < 16 := by
  obtain ⟨i, hi, rfl⟩ := List.mem_iff_getElem.1 hp
  have := firstBad_none _ _ h i (by omega) (by omega)
  unfold okAt at this
  have e : l.getD i pz = l[i] := by simp [hi]
  rw [e] at this
  unfold mayB at this
  rw [if_neg (by omega), if_pos k] at this
  simpa using this
set_option maxRecDepth 100000 in
set_option maxHeartbeats 4000000 in
theorem clo2 (n q B : Nat) (A : Option Addr) (xs : List ByteArray) (cc : Nat) (w : World) (hq : w.cell? ⟨q, 0, none⟩ = some (.slice A xs.length cc)) (hx : Texts w B A xs) (hn : n < xs.length) (hl : xs.length ≤ 281474976710656) :
    Calls Tryz.prog 67 #[.int .i64 n, .pointer (some ⟨q, 0, none⟩)] w fun e w' => e = .returned (.string (argOf xs n)) ∧ w' = w := by
  obtain ⟨ad, rfl, hb, hc⟩ := hx (by omega)
  have c := hc n hn
  have e : argOf xs n = xs[n] := by unfold argOf; simp [hn]
  rw [e]
  clear hc hx
  have hn' : (n : Int) < xs.length := by omega
  go_enter Tryz.func67, Tryz.ntmps67
  go_wp2_with fail
  refine bodyPost_ret (v := .string xs[n]) ?_ rfl ⟨rfl, rfl⟩
  simp [results, Tryz.results67, go_sem]
theorem enters40 (args : Array Value) (w : World) : (callFunc 67 args).run Tryz.prog w = .ok (.enter 67 args) w := by
  simp [callFunc, Tryz.func67, Tryz.f67]
theorem any_big_place {l : List Pc} {m : Nat} (h : l.any (big m) = false) {p : Pc} (hp : p ∈ l) (k : p.kind = 2) : p.place < m := by
  have := List.any_eq_false.1 h p hp
  unfold big at this
  simp [k] at this
  exact this
theorem argOf_size {xs : List ByteArray} (hx : ∀ x ∈ xs, x.size ≤ 281474976710656) (n : Int) : (argOf xs n).size ≤ 281474976710656 := by
  unfold argOf
  by_cases h : n.toNat < xs.length
  · have e : xs.getD n.toNat ⟨#[]⟩ = xs[n.toNat] := by simp [h]
    rw [e]; exact hx _ (List.getElem_mem h)
  · have e : xs.getD n.toNat ⟨#[]⟩ = ⟨#[]⟩ := by simp [h]
    rw [e]; exact Nat.zero_le _
theorem told40 {l : List Pc} {xs : List ByteArray} {W : World} {q B cc : Nat} {A : Option Addr} (ht : TellsAll l) (hx : ∀ x ∈ xs, x.size ≤ 281474976710656) (h1 : badAt l = none) (h2 : l.any (big xs.length) = false)
    (hq : W.cell? ⟨q, 0, none⟩ = some (.slice A xs.length cc)) (hqs : q < W.heap.size) (hX : Texts W B A xs) (hB : B ≤ W.heap.size) (hl : xs.length ≤ 281474976710656) : ToldBy 67 #[.pointer (some ⟨q, 0, none⟩)] W (argOf xs) l := by
  intro p hp
  constructor
  · intro k wr hb
    obtain ⟨g0, _⟩ := bad_none_place h1 hp k
    have g1 := any_big_place h2 hp k
    obtain ⟨n, hn⟩ : ∃ n : Nat, p.place = n := ⟨p.place.toNat, by omega⟩
    rw [hn]
    exact clo2 n q B A xs cc wr ((hb.cell (p := ⟨q, 0, none⟩) hqs).trans hq) (hX.below (hb.mono hB)) (by omega) hl
  · unfold txt
    by_cases k : p.kind = 2
    · rw [if_pos k]; exact argOf_size hx _
    · rw [if_neg k]; exact (ht p hp).2
set_option maxRecDepth 100000 in
set_option maxHeartbeats 4000000 in
theorem lay_any (A : Option Addr) (l : List Pc) (c B : Nat) (AA : Option Addr) (xs : List ByteArray) (cc : Nat) (ht : TellsAll l) (hn : l.length ≤ 281474976710656) (hxl : xs.length ≤ 281474976710656) (hxs : ∀ x ∈ xs, x.size ≤ 281474976710656)
    (w : World) (hL : Lists w B A l) (hX : Texts w B AA xs) (hB : B ≤ w.heap.size) :
    Calls Tryz.prog 39 #[.slice A l.length c, .slice AA xs.length cc] w fun e w' => e = .returned (layR xs l) ∧ Below w.heap.size w w' := by
  have hL1 := hL.alloc hB (.cells #[.slice AA xs.length cc] 23)
  have hX1 := hX.alloc hB (.cells #[.slice AA xs.length cc] 23)
  have hQ1 := Blk.new w 23 #[.slice AA xs.length cc]
  have hb1 := (Below.refl w.heap.size w).alloc (Nat.le_refl _) (.cells #[.slice AA xs.length cc] 23)
  have HC := check_any A l c B ht hn _ hL1 (by simp; omega)
  cases hbad : badAt l with
  | some k =>
    have hR : layR xs l = .tuple #[.string ⟨#[]⟩, .int .i64 2] := by simp [layR, layP, hbad]
    rw [hbad] at HC
    rw [hR]
    simp only [faultV] at HC
    go_enter Tryz.func39, Tryz.ntmps39
    go_wp2_with (go_at_call 63; refine HC.mono ?_; rintro e w1 ⟨rfl, hb2⟩)
    go_quiet (fail)
    go_wp2_with fail
    refine bodyPost_ret (v := .tuple #[.string ⟨#[]⟩, .int .i64 2]) ?_ rfl ⟨rfl, blw_drewN ((hb1.trans (hb2.mono hb1.size)).alloc (hb1.trans (hb2.mono hb1.size)).size _) _⟩
    simp [results, Tryz.results39, go_sem]
  | none =>
    rw [hbad] at HC
    simp only [faultV] at HC
    cases hany : l.any (big xs.length) with
    | true =>
      have hR : layR xs l = .tuple #[.string ⟨#[]⟩, .int .i64 2] := by simp only [layR, layP, hbad, hany]
      rw [hR]
      go_enter Tryz.func39, Tryz.ntmps39
      go_wp2_with (go_at_call 63; refine HC.mono ?_; rintro e w1 ⟨rfl, hb2⟩)
      have hB1 := (Nat.le_trans hB hb1.size)
      have hb3 := (hb2.alloc hb2.size (.cells #[.int .i64 0, .int .i64 0] 107))
      have hQ2 := (hQ1.below hb3 hQ1.lt)
      have hL2 := hL1.below (hb3.mono hB1)
      have hX2 := hX1.below (hb3.mono hB1)
      have hb4 := hb1.trans (hb3.mono hb1.size)
      have HF := contains_func A l c B w.heap.size AA xs.length cc hn _ hL2 (Nat.le_trans hB hb4.size) (hQ2.at_ 0 rfl) hQ2.lt
      rw [hany] at HF
      refine HF.mono ?_
      rintro e w2 ⟨rfl, hb5⟩
      have hb6 := hb4.trans (hb5.mono hb4.size)
      go_wp2_with fail
      refine bodyPost_ret (v := .tuple #[.string ⟨#[]⟩, .int .i64 2]) ?_ rfl ⟨rfl, hb6⟩
      simp [results, Tryz.results39, go_sem]
    | false =>
      cases hpa : putAll (argOf xs) 262144 ⟨#[]⟩ l with
      | some b =>
        have hR : layR xs l = .tuple #[.string b, .int .i64 0] := by simp only [layR, layP, hbad, hany, hpa]
        rw [hR]
        go_enter Tryz.func39, Tryz.ntmps39
        go_wp2_with (go_at_call 63; refine HC.mono ?_; rintro e w1 ⟨rfl, hb2⟩)
        have hB1 := (Nat.le_trans hB hb1.size)
        have hb3 := (hb2.alloc hb2.size (.cells #[.int .i64 0, .int .i64 0] 107))
        have hQ2 := (hQ1.below hb3 hQ1.lt)
        have hL2 := hL1.below (hb3.mono hB1)
        have hX2 := hX1.below (hb3.mono hB1)
        have hb4 := hb1.trans (hb3.mono hb1.size)
        have HF := contains_func A l c B w.heap.size AA xs.length cc hn _ hL2 (Nat.le_trans hB hb4.size) (hQ2.at_ 0 rfl) hQ2.lt
        rw [hany] at HF
        refine HF.mono ?_
        rintro e w2 ⟨rfl, hb5⟩
        have hb6 := hb4.trans (hb5.mono hb4.size)
        have hQ3 := hQ2.below hb5 hQ2.lt
        have hT := told40 ht hxs hbad hany (hQ3.at_ 0 rfl) hQ3.lt (hX2.below (hb5.mono (Nat.le_trans hB hb4.size))) (Nat.le_trans hB hb6.size) hxl
        have HP := put_any A l c B 262144 67 _ (argOf xs) hn (Nat.le_refl _) w2 (hL2.below (hb5.mono (Nat.le_trans hB hb4.size))) (Nat.le_trans hB hb6.size) hT enters40
        rw [hpa] at HP
        simp only [putV] at HP
        clear hT
        go_wp2_with (go_at_call 66; refine HP.mono ?_; rintro e w3 ⟨rfl, hb7⟩)
        refine bodyPost_ret (v := .tuple #[.string b, .int .i64 0]) ?_ rfl ⟨rfl, hb6.trans (hb7.mono hb6.size)⟩
        simp [results, Tryz.results39, go_sem]
      | none =>
        have hR : layR xs l = .tuple #[.string ⟨#[]⟩, .int .i64 3] := by simp only [layR, layP, hbad, hany, hpa]
        rw [hR]
        go_enter Tryz.func39, Tryz.ntmps39
        go_wp2_with (go_at_call 63; refine HC.mono ?_; rintro e w1 ⟨rfl, hb2⟩)
        have hB1 := (Nat.le_trans hB hb1.size)
        have hb3 := (hb2.alloc hb2.size (.cells #[.int .i64 0, .int .i64 0] 107))
        have hQ2 := (hQ1.below hb3 hQ1.lt)
        have hL2 := hL1.below (hb3.mono hB1)
        have hX2 := hX1.below (hb3.mono hB1)
        have hb4 := hb1.trans (hb3.mono hb1.size)
        have HF := contains_func A l c B w.heap.size AA xs.length cc hn _ hL2 (Nat.le_trans hB hb4.size) (hQ2.at_ 0 rfl) hQ2.lt
        rw [hany] at HF
        refine HF.mono ?_
        rintro e w2 ⟨rfl, hb5⟩
        have hb6 := hb4.trans (hb5.mono hb4.size)
        have hQ3 := hQ2.below hb5 hQ2.lt
        have hT := told40 ht hxs hbad hany (hQ3.at_ 0 rfl) hQ3.lt (hX2.below (hb5.mono (Nat.le_trans hB hb4.size))) (Nat.le_trans hB hb6.size) hxl
        have HP := put_any A l c B 262144 67 _ (argOf xs) hn (Nat.le_refl _) w2 (hL2.below (hb5.mono (Nat.le_trans hB hb4.size))) (Nat.le_trans hB hb6.size) hT enters40
        rw [hpa] at HP
        simp only [putV] at HP
        clear hT
        go_wp2_with (go_at_call 66; refine HP.mono ?_; rintro e w3 ⟨rfl, hb7⟩)
        refine bodyPost_ret (v := .tuple #[.string ⟨#[]⟩, .int .i64 3]) ?_ rfl ⟨rfl, hb6.trans (hb7.mono hb6.size)⟩
        simp [results, Tryz.results39, go_sem]
set_option maxRecDepth 100000 in
set_option maxHeartbeats 4000000 in
theorem fill_fine {s : ByteArray} {l : List Pc} (AA : Option Addr) (xs : List ByteArray) (cc B : Nat) (hs : s.size ≤ 281474976710656) (hf : Fine s l) (ht : TellsAll l) (hxl : xs.length ≤ 281474976710656) (hxs : ∀ x ∈ xs, x.size ≤ 281474976710656)
    (w : World) (hg : GlobP w) (hX : Texts w B AA xs) (hB : B ≤ w.heap.size) :
    Calls Tryz.prog 17 #[.string s, .slice AA xs.length cc] w fun e w' => e = .returned (layR xs l) ∧ Below w.heap.size w w' := by
  have HP := FineP.calls (parse_fine hs hf w hg)
  have hln := hf.len
  clear hf
  go_enter Tryz.func17, Tryz.ntmps17
  go_wp2_with (go_at_call 38; refine HP.mono ?_; rintro e w1 ⟨A, c, rfl, ho, hL, hb⟩)
  have hb2 := hb.alloc hb.size (.cells #[.int .i64 0, .int .i64 0] 72)
  have hL2 := hL.alloc (Nat.le_refl _) (.cells #[.int .i64 0, .int .i64 0] 72)
  have HL := lay_any A l c w1.heap.size AA xs cc ht (by omega) hxl hxs _ hL2 (Texts.more ((hX.below (hb2.mono hB))) (Nat.le_trans hB hb.size)) (by simp)
  unfold layR at HL
  clear hL ho hX hxs ht
  go_wp2_with (go_at_call 39; refine HL.mono ?_; rintro e w3 ⟨rfl, hb7⟩)
  refine bodyPost_ret (v := .tuple #[.string (layP xs l).1, .int .i64 (layP xs l).2]) ?_ rfl ⟨rfl, hb2.trans (hb7.mono hb2.size)⟩
  simp [results, Tryz.results17, go_sem]
set_option maxRecDepth 100000 in
set_option maxHeartbeats 4000000 in
theorem fill_wrong {s : ByteArray} {a b : Int} (hs : s.size ≤ 281474976710656) (hf : Wrong s a b) (v : Value) (w : World) (hg : GlobP w) :
    Calls Tryz.prog 17 #[.string s, v] w fun e w' => e = .returned (.tuple #[.string ⟨#[]⟩, .int .i64 a]) ∧ Below w.heap.size w w' := by
  have HP := WrongP.calls (parse_wrong hs hf w hg)
  have hz := hf.nz
  have t1 : (a != 0) = true := by simpa using hz
  clear hf
  go_enter Tryz.func17, Tryz.ntmps17
  go_wp2_with (go_at_call 38; refine HP.mono ?_; rintro e w' ⟨rfl, hb⟩)
  go_quiet (fail)
  go_wp2_with fail
  refine bodyPost_ret (v := .tuple #[.string ⟨#[]⟩, .int .i64 a]) ?_ rfl ⟨rfl, blw_drewN (hb.alloc hb.size _) _⟩
  simp [results, Tryz.results17, go_sem]
end Go.Proofs.YtpcgcghhddnifaaGreatDoor
namespace Go.Proofs.YtpcgcghhddnifaaGreatDoor
open Go.RowKit
open Ph
def srt (xs : List Int) : List Int := xs.mergeSort fun x y => decide (x ≤ y)
theorem srt_len (xs : List Int) : (srt xs).length = xs.length := by simp [srt]
def counts (ts : List Int) : Bool := (List.range ts.length).all fun i => ts.getD i (-1) == (i : Int)
theorem counts_no {ts : List Int} {i : Nat} (h : i < ts.length) (hn : ts[i] ≠ i) : counts ts = false := by
  unfold counts
  refine List.all_eq_false.2 ⟨i, by simpa using h, ?_⟩
  simpa [h] using hn
theorem counts_yes {ts : List Int} (h : ∀ i (hi : i < ts.length), ts[i] = i) : counts ts = true := by
  unfold counts
  refine List.all_eq_true.2 fun i hi => ?_
  have hi' : i < ts.length := by simpa using hi
  simpa [hi'] using h i hi'
def onceB (l : List Pc) (n : Int) : Bool := decide (((nums l).length : Int) = n) && counts (srt (nums l))
theorem NumsP.calls {f : Nat} {s : ByteArray} {l : List Pc} {w : World} (h : Calls Tryz.prog f #[.string s] w (NumsP l w)) :
    Calls Tryz.prog f #[.string s] w fun e w' => ∃ A c, e = .returned (.tuple #[.slice A (nums l).length c, .int .i64 0]) ∧ w'.ownsRow w.heap.size 3 1 (.slice A (nums l).length c) (nums l).length (icells (nums l)) ∧ Below w.heap.size w w' :=
  h.mono fun e w' ⟨v, he, ho, hb⟩ => by
    rcases Nat.eq_zero_or_pos (nums l).length with z | z
    · rcases ho.2 with ⟨rfl, _⟩ | ⟨g, cap, cur, rfl, _⟩
      · exact ⟨none, 0, by rw [z]; exact he, by rw [z] at ho ⊢; exact ho, hb⟩
      · exact ⟨_, _, he, ho, hb⟩
    · obtain ⟨g, cap, rfl, _, hlt⟩ := ho.form z
      exact ⟨_, _, he, ho, hb⟩
set_option maxRecDepth 100000 in
set_option maxHeartbeats 4000000 in
theorem once_wrong {s : ByteArray} {a b : Int} (hs : s.size ≤ 281474976710656) (hf : Wrong s a b) (n : Int) (w : World) (hg : GlobP w) : Calls Tryz.prog 81 #[.string s, .int .i64 n] w fun e w' => e = .returned (.bool false) ∧ Below w.heap.size w w' := by
  have HP := places_wrong hs hf w hg
  unfold NoNums at HP
  have t1 : (a != 0) = true := by simpa using hf.nz
  clear hf
  go_enter Tryz.func81, Tryz.ntmps81
  go_wp2_with (go_at_call 110; refine HP.mono ?_; rintro e w' ⟨rfl, hb⟩)
  refine bodyPost_ret (v := .bool false) ?_ rfl ⟨rfl, hb⟩
  simp [results, Tryz.results81, go_sem]
set_option maxRecDepth 100000 in
set_option maxHeartbeats 4000000 in
theorem once_fine {s : ByteArray} {l : List Pc} (hs : s.size ≤ 281474976710656) (hf : Fine s l) (n : Int) (w : World) (hg : GlobP w) : Calls Tryz.prog 81 #[.string s, .int .i64 n] w fun e w' => e = .returned (.bool (onceB l n)) ∧ Below w.heap.size w w' := by
  have HP := NumsP.calls (places_fine hs hf w hg)
  have hln := Nat.le_trans (nums_le l) hf.len
  clear hf
  unfold onceB
  by_cases hn : ((nums l).length : Int) = n
  · subst hn
    rw [decide_eq_true rfl, Bool.true_and]
    have hsl := srt_len (nums l)
    by_cases h0 : (nums l).length = 0
    · have hc : counts (srt (nums l)) = true := counts_yes fun i hi => by omega
      rw [hc]
      rw [h0] at HP ⊢
      go_enter Tryz.func81, Tryz.ntmps81
      go_wp2_with (first | (go_at_call 110; refine HP.mono ?_; rintro e w' ⟨A, c, rfl, ho, hb⟩) | (go_at_call 111; refine (Tryz.slices_Sort_int_none A c _).mono ?_; rintro e w2 ⟨rfl, rfl⟩))
      go_loopw [26] (fun u wr => u = .int .i64 0 ∧ Below w.heap.size w wr) (fun u _ => 0)
      case atStart => exact ⟨rfl, hb⟩
      case round =>
        obtain ⟨rfl, hb⟩ := hrel
        go_wp2_with fail
        refine bodyPost_ret (v := .bool true) ?_ rfl ⟨rfl, hb⟩
        simp [results, Tryz.results81, go_sem]
    · generalize hts : srt (nums l) = ts at hsl ⊢
      go_enter Tryz.func81, Tryz.ntmps81
      go_wp2_with (go_at_call 110; refine HP.mono ?_; rintro e w' ⟨A, c, rfl, ho, hb⟩)
      rcases ho.2 with ⟨_, h9⟩ | ⟨g, cap, cur, h9, hbase, hbk, h1, h2, h3, h4⟩
      · exact absurd h9 h0
      · cases h9
        have hH := holds_of_blockI (ss := nums l) hbk (by simpa [icells] using h4)
        have hgl := (Array.getElem?_eq_some_iff.1 hbk).1
        have HS := Tryz.slices_Sort_int g 0 c (nums l) w' hH hgl (by omega)
        rw [show ((nums l).mergeSort fun x y => decide (x ≤ y)) = ts from hts] at HS
        refine HS.mono ?_
        rintro e w2 ⟨rfl, nn, os, rfl⟩
        have ho2 := ownsRow_sortedI (n := nn) (os := os) hsl hbase hbk h1 h2 h3
        have hb2 := hb.grown (grownBy_sortedI (n := nn) (os := os) ts.toArray) hb.size (fun j hj => by cases hj; exact hbase)
        clear HS hH hb h4 ho hbk hts
        generalize Sort.grow (Sort.putRow (Value.int .i64) (Sort.ahead w' nn) g 0 ts.toArray) os = w2 at ho2 hb2
        rw [← hsl] at ho2 hln h0 ⊢
        go_wp2_with fail
        go_loopw [26] (fun u wr => ∃ i : Nat, u = .int .i64 i ∧ i ≤ ts.length ∧ (∀ j (hj : j < ts.length), j < i → ts[j] = j) ∧ Below w.heap.size w wr ∧ wr.ownsRow w.heap.size 3 1 (.slice (some ⟨g, 0, none⟩) ts.length c) ts.length (ts.map (Value.int .i64))) (fun u _ => ts.length - (intOf u).toNat)
        case atStart => exact ⟨0, rfl, by omega, fun j hj h => by omega, hb2, ho2⟩
        case round =>
          obtain ⟨i, rfl, hi, hall, hb, ho⟩ := hrel
          by_cases h : i < ts.length
          · have hc : wr.cell? ⟨g, i, none⟩ = some (.int .i64 ts[i]) := by rw [ho.cellAt i (by omega)]; simp [h]
            by_cases e1 : ts[i] = i
            · have t1 : (ts[i] != (i : Int)) = false := by simpa using e1
              have hall2 : ∀ j (hj : j < ts.length), j < i + 1 → ts[j] = j := fun j hj hji => by
                rcases Nat.lt_or_ge j i with g | g
                · exact hall j hj g
                · obtain rfl : i = j := by omega
                  exact e1
              clear e1 hall
              go_wp2_with fail
              go_roundw
              case rel => exact ⟨i + 1, by go_num, by omega, hall2, hb, ho⟩
              case measure => simp [intOf]; omega
            · have t1 : (ts[i] != (i : Int)) = true := by simpa using e1
              have hc2 : counts ts = false := counts_no h e1
              clear e1 hall
              go_wp2_with fail
              refine bodyPost_ret (v := .bool false) ?_ rfl ⟨by rw [hc2], hb⟩
              simp [results, Tryz.results81, go_sem]
          · have hc : counts ts = true := counts_yes fun j hj => hall j hj (by omega)
            go_wp2_with fail
            refine bodyPost_ret (v := .bool true) ?_ rfl ⟨by rw [hc], hb⟩
            simp [results, Tryz.results81, go_sem]
  · rw [decide_eq_false hn, Bool.false_and]
    go_enter Tryz.func81, Tryz.ntmps81
    go_wp2_with (go_at_call 110; refine HP.mono ?_; rintro e w' ⟨A, c, rfl, ho, hb⟩)
    refine bodyPost_ret (v := .bool false) ?_ rfl ⟨rfl, hb⟩
    simp [results, Tryz.results81, go_sem]
end Go.Proofs.YtpcgcghhddnifaaGreatDoor
