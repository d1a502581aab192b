/-
  Words for memory: a slice that reads as a list, a block that is known whole, append onto a row of the call's own, and the frame's last step. No condition.
  Runes of a text in plain Lean: where a form begins and ends, and the first broken byte. No condition.
  Words for fields in memory: their cells, a slice that reads as fields, append of a field onto a row of the call's own. Conditions: those of each theorem.
  Contract of utf.Check: it tells the first broken byte of a text. Condition: the text's length fits an int.
  Contracts of the reference's Form, Broken and Right: they answer as the model's own decoder. Condition: the text's length fits an int.
-/
import Derived.Below
import Derived.Laws.OwnMore
import Derived.Deep.AppendLies
import Derived.Deep.Draws
import Derived.Laws.Rows
import Derived.Maps.AppendAt
import Derived.RegionTactic
import Derived.OwnWalk
import Derived.ChangeSame
import Derived.Lib.OthersKept
import Derived.Lib.DecodeN
import Derived.Lib.TrimU
import Derived.Test.YtjmebclcmpfdmaaGreatDoorProg
import Derived.Test.YtjmebclcmpfdmaaGreatDoorRows
import Derived.WalkKit
import Derived.ProofKit
import Derived.Lib.Hide
import Derived.Lib.SmallJoins
import Derived.Laws.IdiomStrings
import Derived.Deep.RegionWith
import Derived.Deep.QuietTactic
import Derived.Deep.RegionHeld3
import Derived.BigQuiet
import Derived.Lib.QuietBelow
import Derived.WalkLawsBesides
import Derived.WalkSpells
import Derived.LoopN
import Derived.Laws.RangeAny
import Derived.Outline
set_option linter.unusedVariables false
set_option linter.unusedSimpArgs false
namespace Go.Proofs.YtjmebclcmpfdmaaGreatDoor
open Go.RowKit
theorem block_of_add (a : Addr) (n : Nat) : (a.add n).block = a.block := by unfold Addr.add; split <;> rfl
theorem add_of_add (a : Addr) (i j : Nat) : (a.add i).add j = a.add (i + j) := by
  unfold Addr.add
  by_cases hi : i = 0 <;> by_cases hj : j = 0 <;> simp [hi, hj, Nat.add_assoc]

def Reads (w : World) (B size : Nat) (A : Option Addr) (n : Nat) (xs : List Value) : Prop :=
  xs.length = n * size ∧ (0 < n → ∃ ad, A = some ad ∧ ad.block < B ∧ ∀ j u, xs[j]? = some u → w.cell? (ad.add j) = some u)

section
variable {w w' : World} {B B' size n : Nat} {A : Option Addr} {xs : List Value}
theorem Reads.none_ : Reads w B size A 0 [] := ⟨by simp, fun h => absurd h (by omega)⟩
theorem Reads.at_ {k : Nat} (h : Reads w B 1 A n xs) (hk : k < n) : ∃ ad u, A = some ad ∧ ad.block < B ∧ xs[k]? = some u ∧ w.cell? (ad.add k) = some u := by
  obtain ⟨ad, e, hb, hc⟩ := h.2 (by omega)
  have hl : k < xs.length := by have := h.1; omega
  exact ⟨ad, xs[k], e, hb, List.getElem?_eq_getElem hl, hc k _ (List.getElem?_eq_getElem hl)⟩
theorem Reads.keep (h : Reads w B size A n xs) (hk : ∀ p : Addr, p.block < B → w'.cell? p = w.cell? p) : Reads w' B size A n xs :=
  ⟨h.1, fun hn => by
    obtain ⟨ad, e, hb, hc⟩ := h.2 hn
    exact ⟨ad, e, hb, fun j u hu => (hk _ (by rw [block_of_add]; exact hb)).trans (hc j u hu)⟩⟩
theorem Reads.more (h : Reads w B size A n xs) (hB : B ≤ B') : Reads w B' size A n xs :=
  ⟨h.1, fun hn => by
    obtain ⟨ad, e, hb, hc⟩ := h.2 hn
    exact ⟨ad, e, by omega, hc⟩⟩
theorem Reads.below (h : Reads w B size A n xs) (hb : Below B w w') : Reads w' B size A n xs := h.keep fun _ hp => hb.cell hp
theorem Reads.drew (h : Reads w B size A n xs) : Reads w.drew B size A n xs := h
theorem Reads.drewN (h : Reads w B size A n xs) (k : Nat) : Reads (w.drewN k) B size A n xs := h
theorem Reads.alloc (h : Reads w B size A n xs) (hB : B ≤ w.heap.size) (o : Obj) : Reads (w.alloc o) B size A n xs := h.keep fun p hp => World.cell?_alloc_lt w o p (by omega)
theorem Reads.setCell (h : Reads w B size A n xs) {p : Addr} (hB : B ≤ p.block) (u : Value) : Reads (w.setCell p u) B size A n xs :=
  h.keep fun q hq => World.cell?_setCell_other w p q u (fun e => by subst e; omega)
theorem Reads.grown (h : Reads w B size A n xs) {row : Option Nat} (hg : w.grownBy w' row) (hB : B ≤ w.heap.size) (hr : ∀ g, row = some g → B ≤ g) : Reads w' B size A n xs :=
  h.keep fun p hp => World.cell?_of_block (hg.block p.block (by omega) (fun e => by have := hr _ e.symm; omega))
theorem Reads.cut (h : Reads w B size A n xs) {k cap : Nat} (hk : k ≤ n) (hc : n ≤ cap) :
    Reads w B size (if cap = k then A else A.map (·.add (k * size))) (n - k) (xs.drop (k * size)) := by
  refine ⟨by rw [List.length_drop, h.1, Nat.sub_mul], fun hn => ?_⟩
  obtain ⟨ad, rfl, hb, hcell⟩ := h.2 (by omega)
  rw [if_neg (by omega)]
  refine ⟨ad.add (k * size), rfl, by rw [block_of_add]; exact hb, fun j u hu => ?_⟩
  rw [add_of_add]
  exact hcell _ u (by rw [← hu, List.getElem?_drop])
theorem Reads.of_own {base : Nat} {e : TypeId} {c : Nat} (h : w.ownsRow base e size (.slice A n c) n xs) : Reads w w.heap.size size A n xs := by
  refine ⟨h.1, fun hn => ?_⟩
  obtain ⟨g, cap, hv, _, hlt⟩ := h.form hn
  have hA : A = some ⟨g, 0, none⟩ := by injection hv
  subst hA
  exact ⟨_, rfl, hlt, h.cells (g := g) rfl⟩
end
def Blk (w : World) (g : Nat) (t : TypeId) (cs : Array Value) : Prop := w.heap[g]? = some (.cells cs t (0, 0))

section
variable {w w' : World} {g : Nat} {t : TypeId} {cs : Array Value}
theorem Blk.lt (h : Blk w g t cs) : g < w.heap.size := by
  rcases Nat.lt_or_ge g w.heap.size with hlt | hge
  · exact hlt
  · unfold Blk at h; rw [Array.getElem?_eq_none hge] at h; cases h
theorem Blk.cell (h : Blk w g t cs) (i : Nat) : w.cell? ⟨g, i, none⟩ = cs[i]? := cell_of_row w g i cs t (0, 0) h
theorem Blk.frozen (h : Blk w g t cs) (i : Nat) : w.frozen? ⟨g, i, none⟩ = false := by
  unfold Blk at h
  simp [World.frozen?, h]
theorem Blk.new (w : World) (t : TypeId) (cs : Array Value) : Blk (w.alloc (.cells cs t)) w.heap.size t cs := heap_alloc_new w _
theorem Blk.drew (h : Blk w g t cs) : Blk w.drew g t cs := h
theorem Blk.drewN (h : Blk w g t cs) (n : Nat) : Blk (w.drewN n) g t cs := h
theorem Blk.alloc (h : Blk w g t cs) (o : Obj) : Blk (w.alloc o) g t cs := (Below.heap_alloc w o g h.lt).trans h
theorem Blk.set_ (h : Blk w g t cs) (i : Nat) (u : Value) : Blk (w.setCell ⟨g, i, none⟩ u) g t (cs.setIfInBounds i u) := by
  unfold Blk at h ⊢
  simp [World.setCell, Array.getElem?_modify, h]
theorem Blk.far (h : Blk w g t cs) {p : Addr} (hp : g ≠ p.block) (u : Value) : Blk (w.setCell p u) g t cs := (Below.heap_setCell w p u g hp).trans h
theorem Blk.below {B : Nat} (h : Blk w g t cs) (hb : Below B w w') (hg : g < B) : Blk w' g t cs := (hb.block g hg).trans h
theorem Blk.grown {row : Option Nat} (h : Blk w g t cs) (hb : w.grownBy w' row) (hg : some g ≠ row) : Blk w' g t cs := (hb.block g h.lt hg).trans h
theorem Blk.ne_ {g' : Nat} {t' : TypeId} {cs' : Array Value} (h : Blk w g t cs) (h' : Blk w g' t' cs') (hne : t ≠ t') : g ≠ g' := by
  rintro rfl
  unfold Blk at h h'
  rw [h] at h'
  injection h' with h'
  injection h' with _ ht
  exact hne ht
theorem own_blk_ne {base : Nat} {e : TypeId} {size n : Nat} {v : Value} {xs : List Value} (h : w.ownsRow base e size v n xs) (hg : Blk w g t cs) (hne : e ≠ t) : v.ownBlock ≠ some g := by
  rcases h.2 with ⟨rfl, _⟩ | ⟨g', cap, cur, rfl, _, hh, _⟩
  · simp [Value.ownBlock]
  · intro he
    have : g' = g := by simpa [Value.ownBlock] using he
    subst this
    exact Blk.ne_ (t := e) hh hg hne rfl
end
section
variable {P : Program} (w : World)

theorem run_append_of_nil (base : Nat) (t ty e : TypeId) (i : TypeInfo) (size : Nat) (ht : P.underlying t = some (.slice e)) (hi : P.info? e = some i)
    (v : Value) (n : Nat) (xs : List Value) (hown : w.ownsRow base e size v n xs) (c : Nat) : (Builtin.append_ #[t, t] ty #[v, .slice none 0 c]).run P w = .ok v w := by
  rcases hown.2 with ⟨rfl, rfl⟩ | ⟨g, cap, cur, rfl, _, _, hnc, _⟩
  · simp [Builtin.append_, run_underlying ht, sizeOf, typeInfo, hi, Builtin.lenOf, Builtin.firstCells]
  · simp [Builtin.append_, run_underlying ht, sizeOf, typeInfo, hi, Builtin.lenOf, Builtin.firstCells, hnc, storeCells]

theorem run_append_any (base : Nat) (t ty e : TypeId) (i : TypeInfo) (z : Value) (size bytes : Nat) (ht : P.underlying t = some (.slice e)) (hi : P.info? e = some i) (hz : i.zero = some z)
    (hsize : i.size = size) (hby : i.bytes = bytes) (hzs : z.cells.size = size) (hsz : 0 < size)
    (v : Value) (n : Nat) (xs : List Value) (hown : w.ownsRow base e size v n xs)
    (B : Nat) (A : Option Addr) (m c : Nat) (news : List Value) (hr : Reads w B size A m news) (h1 : ∀ u ∈ news, u.oneCell' = true)
    (h63 : n + m ≤ maxLen) (hbytes : (n + m) * bytes ≤ 140737488355328) (hbase : base ≤ w.heap.size) :
    ∃ v' w', (Builtin.append_ #[t, t] ty #[v, .slice A m c]).run P w = .ok v' w' ∧ w'.ownsRow base e size v' (n + m) (xs ++ news) ∧ w.grownBy w' v.ownBlock ∧
      (v'.ownBlock = v.ownBlock ∨ v'.ownBlock = some w.heap.size) := by
  rcases A with _ | ad
  · have hm : m = 0 := by
      rcases Nat.eq_zero_or_pos m with h0 | h0
      · exact h0
      · obtain ⟨ad, h, _⟩ := hr.2 h0
        cases h
    subst hm
    have hn : news = [] := List.eq_nil_of_length_eq_zero (by simpa using hr.1)
    subst hn
    exact ⟨v, w, run_append_of_nil w base t ty e i size ht hi v n xs hown c, by simpa using hown, World.grownBy.refl w _, .inl rfl⟩
  · have hcells : ∀ j u, news[j]? = some u → w.cell? (ad.add j) = some u := by
      intro j u hu
      rcases Nat.eq_zero_or_pos m with h0 | h0
      · subst h0
        have hn : news = [] := List.eq_nil_of_length_eq_zero (by simpa using hr.1)
        subst hn
        simp at hu
      · obtain ⟨ad', h, _, hc⟩ := hr.2 h0
        injection h with h
        subst h
        exact hc j u hu
    obtain ⟨v', w', hrun, h2, h3, _, h5⟩ := run_append_own_at (P := P) w base t ty e i z size bytes ht hi hz hsize hby hzs hsz v n xs hown ad m c news hr.1 hcells h1 h63 hbytes hbase
    exact ⟨v', w', hrun, h2, h3, h5⟩

theorem wp_append_any {o : Oper} {a : Act} {K : Act → World → Prop} {Q : Exit → Act → World → Prop} (s x : Operand) (t : TypeId)
    (ho : o.op = .call { callee := .builtin .append, args := #[s, x], argTypes := #[t, t] })
    (base : Nat) (e : TypeId) (i : TypeInfo) (z : Value) (size bytes : Nat) (ht : P.underlying t = some (.slice e)) (hi : P.info? e = some i) (hz : i.zero = some z)
    (hsize : i.size = size) (hby : i.bytes = bytes) (hzs : z.cells.size = size) (hsz : 0 < size)
    (v : Value) (n : Nat) (xs : List Value) (hs : a.eval s = v) (hown : w.ownsRow base e size v n xs)
    (B : Nat) (A : Option Addr) (m c : Nat) (news : List Value) (hx : a.eval x = .slice A m c) (hr : Reads w B size A m news) (h1 : ∀ u ∈ news, u.oneCell' = true)
    (h63 : n + m ≤ maxLen) (hbytes : (n + m) * bytes ≤ 140737488355328) (hbase : base ≤ w.heap.size)
    (h : ∀ v' w', w'.ownsRow base e size v' (n + m) (xs ++ news) → w.grownBy w' v.ownBlock → (v'.ownBlock = v.ownBlock ∨ v'.ownBlock = some w.heap.size) → K (a.put o.dst v') w') : o.wp P a w K Q := by
  obtain ⟨v', w', hrun, h2, h3, h4⟩ := run_append_any (P := P) w base t o.type e i z size bytes ht hi hz hsize hby hzs hsz v n xs hown B A m c news hr h1 h63 hbytes hbase
  unfold Oper.wp execOp
  simp only [ho, resolve, invoke, builtin, Sem.run_bind, Sem.run_pure, Result.andThen_ok, List.map_toArray, List.map_cons, List.map_nil, hs, hx, hrun]
  exact h v' w' h2 h3 h4

theorem wpList_append_any {ops : Array Oper} {rest : List Oper} {o : Oper} {a : Act} {Q : Exit → Act → World → Prop} (hgd : o.guard = none) (s x : Operand) (t : TypeId)
    (ho : o.op = .call { callee := .builtin .append, args := #[s, x], argTypes := #[t, t] })
    (base : Nat) (e : TypeId) (i : TypeInfo) (z : Value) (size bytes : Nat) (ht : P.underlying t = some (.slice e)) (hi : P.info? e = some i) (hz : i.zero = some z)
    (hsize : i.size = size) (hby : i.bytes = bytes) (hzs : z.cells.size = size) (hsz : 0 < size)
    (v : Value) (n : Nat) (xs : List Value) (hs : a.eval s = v) (hown : w.ownsRow base e size v n xs)
    (B : Nat) (A : Option Addr) (m c : Nat) (news : List Value) (hx : a.eval x = .slice A m c) (hr : Reads w B size A m news) (h1 : ∀ u ∈ news, u.oneCell' = true)
    (h63 : n + m ≤ maxLen) (hbytes : (n + m) * bytes ≤ 140737488355328) (hbase : base ≤ w.heap.size)
    (h : ∀ v' w', w'.ownsRow base e size v' (n + m) (xs ++ news) → w.grownBy w' v.ownBlock → (v'.ownBlock = v.ownBlock ∨ v'.ownBlock = some w.heap.size) → wpList P ops Q rest (a.put o.dst v') w') : wpList P ops Q (o :: rest) a w :=
  wpList_plain hgd fun _ hK => wp_append_any w s x t ho base e i z size bytes ht hi hz hsize hby hzs hsz v n xs hs hown B A m c news hx hr h1 h63 hbytes hbase fun v' w' h2 h3 h4 => hK _ _ (h v' w' h2 h3 h4)

theorem step_append_any {ops : Array Oper} {o : Oper} {a : Act} {K : Act → World → Prop} {Q : Exit → Act → World → Prop} {E : Prop} (hgd : o.guard = none) (s x : Operand) (t : TypeId)
    (ho : o.op = .call { callee := .builtin .append, args := #[s, x], argTypes := #[t, t] })
    (base : Nat) (e : TypeId) (i : TypeInfo) (z : Value) (size bytes : Nat) (ht : P.underlying t = some (.slice e)) (hi : P.info? e = some i) (hz : i.zero = some z)
    (hsize : i.size = size) (hby : i.bytes = bytes) (hzs : z.cells.size = size) (hsz : 0 < size)
    (v : Value) (n : Nat) (xs : List Value) (hs : a.eval s = v) (hown : w.ownsRow base e size v n xs)
    (B : Nat) (A : Option Addr) (m c : Nat) (news : List Value) (hx : a.eval x = .slice A m c) (hr : Reads w B size A m news) (h1 : ∀ u ∈ news, u.oneCell' = true)
    (h63 : n + m ≤ maxLen) (hbytes : (n + m) * bytes ≤ 140737488355328) (hbase : base ≤ w.heap.size)
    (h : ∀ v' w', w'.ownsRow base e size v' (n + m) (xs ++ news) → w.grownBy w' v.ownBlock → (v'.ownBlock = v.ownBlock ∨ v'.ownBlock = some w.heap.size) → K (a.put o.dst v') w') :
    if Region.wanted o (yielded ops a.tmps) = true then Oper.wp P o a w K Q else E := by
  have hw : Region.wanted o (yielded ops a.tmps) = true := by simp [Region.wanted, hgd]
  rw [if_pos hw]
  exact wp_append_any w s x t ho base e i z size bytes ht hi hz hsize hby hzs hsz v n xs hs hown B A m c news hx hr h1 h63 hbytes hbase h
end
section
open Go.WideShapes Go.ChangeShapes
section
variable {H : Type} {enc : TypeId × Value → H} {P : Program}
theorem post_of_below {f : Func} {s : ChangeSpec} {apart fresh handsOn again : Bool} {W W' : World} {args : Array Value} {v : Value} {ds gs : List (DataW H)} {before pa pv : List MemPlace}
    (hW : DataW.Whole enc P f.params.toList s.vars apart W args.toList ds gs before)
    (hres : ∀ (b : Nat) (sp : Nat → Bool) (hd : Bool), DataW.TrodAll enc P W' b sp hd f.resultTypes.toList (v.resultList f.resultTypes.size) (s.fn H (ds ++ gs)).results [])
    (hargs : ∀ sp : Nat → Bool, (∀ p ∈ before, sp p.block = true) → DataW.TrodAll enc P W' 0 sp true f.params.toList args.toList (s.fn H (ds ++ gs)).args pa)
    (hvars : ∀ sp : Nat → Bool, (∀ p ∈ before, sp p.block = true) → DataW.TrodVars enc P W' sp s.vars (s.fn H (ds ++ gs)).vars pv)
    (hps : before = pa ++ pv) (hb : Below W.heap.size W W')
    (hok : ∀ (j : Nat) (t : TypeId) (r : Value), f.resultTypes[j]? = some t → (v.resultList f.resultTypes.size)[j]? = some r → Value.okWide P W' .any 0 t r) :
    s.post enc P f apart fresh handsOn again W args v W' := by
  have hlt : ∀ p ∈ before, p.block < W.heap.size := fun p hp => hW.lt p hp
  have hold : ∀ p ∈ before, (fun b => decide (b < W.heap.size)) p.block = true := fun p hp => by simpa using hlt p hp
  refine ⟨ds, gs, before, [], pa, pv, hW, hres _ _ _, hargs _ hold, hvars _ hold, World.keptBut_mono (fun p hp => ⟨hp, ?_⟩) (hb.frame (· ∈ before)), fun _ => ?_⟩
  · rw [hps, List.mem_append] at hp
    exact Or.inr hp
  · obtain ⟨_, _, _, _, _, hz, hn⟩ := hW
    refine ⟨hok, _, _, ([] ++ pa) ++ pv, ⟨[] ++ pa, pv, trodAll_append (hargs _ (fun _ _ => rfl)) (hres _ _ _), hvars _ (fun _ _ => rfl), rfl, ?_, ?_⟩, ?_⟩
    · intro b off hp
      have hin : MemPlace.cell b off ∈ before := by rw [hps]; simpa using hp
      rw [hb.frozen (hlt _ hin)]
      exact hz b off hin
    · intro ha
      have := hn ha
      rw [hps] at this
      simpa using this
    · intro p hp _
      rw [hps]
      simpa using hp
end
end
theorem bcell {W w1 : World} (hb : Below W.heap.size W w1) : (∀ b o, b < W.heap.size → w1.cell? ⟨b, o, none⟩ = W.cell? ⟨b, o, none⟩) ∧ (∀ b o, b < W.heap.size → w1.frozen? ⟨b, o, none⟩ = W.frozen? ⟨b, o, none⟩) :=
  ⟨fun b o h => hb.cell (p := ⟨b, o, none⟩) h, fun b o h => hb.frozen (p := ⟨b, o, none⟩) h⟩
theorem blw_drewN {B : Nat} {a w : World} (h : Below B a w) (k : Nat) : Below B a (w.drewN k) := ⟨h.os, h.tape, h.output, h.size, h.block⟩
theorem blw_drew {B : Nat} {a w : World} (h : Below B a w) : Below B a w.drew := ⟨h.os, h.tape, h.output, h.size, h.block⟩
theorem ret_pair {a b c d : Value} (h : a = c) (h' : b = d) : Ending.returned (.tuple #[a, b]) = .returned (.tuple #[c, d]) := by rw [h, h']
theorem int_eq {k : IntKind} {a b : Int} (h : a = b) : Value.int k a = .int k b := by rw [h]
theorem ret_int {k : IntKind} {a b : Int} (h : a = b) : Ending.returned (.int k a) = .returned (.int k b) := by rw [h]
theorem ret_bool {a b : Bool} (h : a = b) : Ending.returned (.bool a) = .returned (.bool b) := by rw [h]
theorem Blk.at_ {w : World} {g : Nat} {t : TypeId} {cs : Array Value} (h : Blk w g t cs) (i : Nat) {v : Value} (hv : cs[i]? = some v) : w.cell? ⟨g, i, none⟩ = some v := (h.cell i).trans hv
theorem Blk.iterAt {w : World} {g : Nat} {t : TypeId} {cs : Array Value} (h : Blk w g t cs) {k : Nat} {s : ByteArray} {pos : Nat} (hk : w.heap[k]? = some (.stringIter s pos)) (pos' : Nat) : Blk (w.iterAt k s pos') g t cs := by
  unfold Blk at *
  rw [Lib.iterAt_other w k g s pos' (fun e => by rw [e, hk] at h; cases h)]; exact h
end Go.Proofs.YtjmebclcmpfdmaaGreatDoor
namespace Ph
open Go
theorem w1 (s : ByteArray) (i : Nat) : 1 ≤ (Utf8.decode s i).2 := Lib.width_pos s i
theorem wN (n b0 b1 b2 b3 : Nat) (h : 1 ≤ n) : (Lib.decodeN n b0 b1 b2 b3).2 ≤ n ∧ (Lib.decodeN n b0 b1 b2 b3).2 ≤ 4 := by
  unfold Lib.decodeN; repeat' split
  all_goals (simp only; omega)
theorem wIn (s : ByteArray) (i : Nat) (h : i < s.size) : i + (Utf8.decode s i).2 ≤ s.size := by
  rw [Lib.decode_at]
  have := (wN (s.size - i) (s.get! i).toNat (s.get! (i + 1)).toNat (s.get! (i + 2)).toNat (s.get! (i + 3)).toNat (by omega)).1
  omega
theorem get_eq (s : ByteArray) (i : Nat) (h : i < s.size) : s.get! i = s[i] := by
  simp [ByteArray.get!, getElem!_pos, h]
  rfl
theorem lowN (n b0 b1 b2 b3 c : Nat) (hc : c < 128) : (Lib.decodeN n b0 b1 b2 b3).1 = c ↔ b0 = c := by
  unfold Lib.decodeN; repeat' split
  all_goals (try simp only)
  all_goals omega
/-- a rune of ASCII is its byte -/
theorem low_iff (s : ByteArray) (i c : Nat) (h : i < s.size) (hc : c < 128) : (Utf8.decode s i).1 = c ↔ s[i].toNat = c := by
  rw [Lib.decode_at, lowN _ _ _ _ _ _ hc, get_eq s i h]
theorem contN (n b0 b1 b2 b3 k : Nat) (h1 : b1 < 256) (h2 : b2 < 256) (h3 : b3 < 256) (hk : 0 < k) (hw : k < (Lib.decodeN n b0 b1 b2 b3).2) : 128 ≤ (if k = 1 then b1 else if k = 2 then b2 else b3) ∧ k < n ∧ k ≤ 3 ∧ 128 ≤ b0 := by
  unfold Lib.decodeN at hw; repeat' split at hw
  all_goals (simp only at hw; repeat' split)
  all_goals omega
/-- what stands within a form is no ASCII -/
theorem within (s : ByteArray) (i j : Nat) (_h : i < s.size) (h1 : i < j) (h2 : j < i + (Utf8.decode s i).2) (hj : j < s.size) : 128 ≤ s[j].toNat := by
  rw [Lib.decode_at] at h2
  obtain ⟨a, b, c, _⟩ := contN (s.size - i) (s.get! i).toNat (s.get! (i + 1)).toNat (s.get! (i + 2)).toNat (s.get! (i + 3)).toNat (j - i) (UInt8.toNat_lt _) (UInt8.toNat_lt _) (UInt8.toNat_lt _) (by omega) (by omega)
  rw [← get_eq s j hj]
  split at a
  · rw [show j = i + 1 by omega]; exact a
  · split at a
    · rw [show j = i + 2 by omega]; exact a
    · rw [show j = i + 3 by omega]; exact a
theorem first (s : ByteArray) (i : Nat) (h : i < s.size) (hw : 1 < (Utf8.decode s i).2) : 128 ≤ s[i].toNat := by
  rw [Lib.decode_at] at hw
  obtain ⟨_, _, _, a⟩ := contN (s.size - i) (s.get! i).toNat (s.get! (i + 1)).toNat (s.get! (i + 2)).toNat (s.get! (i + 3)).toNat 1 (UInt8.toNat_lt _) (UInt8.toNat_lt _) (UInt8.toNat_lt _) (by omega) hw
  rw [← get_eq s i h]; exact a
def bad (s : ByteArray) (i : Nat) : Bool := decide ((Utf8.decode s i).1 = 65533 ∧ (Utf8.decode s i).2 = 1)
/-- the first broken byte from a place on -/
def brkF (s : ByteArray) : Nat → Nat → Option Nat
  | 0, _ => none
  | f + 1, i => if i < s.size then (if bad s i then some i else brkF s f (i + (Utf8.decode s i).2)) else none
theorem brkF_more (s : ByteArray) : ∀ (f i : Nat), s.size - i ≤ f → brkF s f i = brkF s (s.size - i) i := by
  intro f
  induction f using Nat.strongRecOn with
  | ind f ih =>
    intro i hf
    cases f with
    | zero => rw [show s.size - i = 0 by omega]
    | succ f =>
      by_cases h : i < s.size
      · obtain ⟨g, hg⟩ : ∃ g, s.size - i = g + 1 := ⟨s.size - i - 1, by omega⟩
        rw [hg]
        simp only [brkF, h, if_true]
        split
        · rfl
        · have w := w1 s i
          rw [ih f (by omega) _ (by omega), ih g (by omega) _ (by omega)]
      · rw [show s.size - i = 0 by omega]; simp [brkF, h]
def brk (s : ByteArray) (i : Nat) : Option Nat := brkF s (s.size - i) i
theorem brk_end (s : ByteArray) (i : Nat) (h : ¬ i < s.size) : brk s i = none := by
  unfold brk; rw [show s.size - i = 0 by omega]; rfl
theorem brk_bad (s : ByteArray) (i : Nat) (h : i < s.size) (hb : bad s i = true) : brk s i = some i := by
  unfold brk
  obtain ⟨g, hg⟩ : ∃ g, s.size - i = g + 1 := ⟨s.size - i - 1, by omega⟩
  rw [hg]; simp [brkF, h, hb]
theorem brk_step (s : ByteArray) (i : Nat) (h : i < s.size) (hb : bad s i = false) : brk s i = brk s (i + (Utf8.decode s i).2) := by
  unfold brk
  obtain ⟨g, hg⟩ : ∃ g, s.size - i = g + 1 := ⟨s.size - i - 1, by omega⟩
  have w := w1 s i
  rw [hg]; simp only [brkF, h, if_true, hb, Bool.false_eq_true, if_false]
  exact brkF_more s g _ (by omega)
theorem brk_lt (s : ByteArray) : ∀ (f i k : Nat), brkF s f i = some k → i ≤ k ∧ k < s.size := by
  intro f
  induction f with
  | zero => intro i k h; simp [brkF] at h
  | succ f ih =>
    intro i k h
    simp only [brkF] at h
    split at h
    · split at h
      · simp at h; omega
      · have := ih _ _ h; omega
    · simp at h
end Ph
namespace Go.Proofs.YtjmebclcmpfdmaaGreatDoor
open Go.RowKit
def sp (e k : Int) : Value := .agg #[.int .i64 e, .int .i64 k]
theorem reads_new3 (w : World) (a b c : Value) (t : TypeId) : Reads (w.alloc (.cells #[a, b, c] t)) (w.heap.size + 1) 3 (some ⟨w.heap.size, 0, none⟩) 1 [a, b, c] := by
  refine ⟨rfl, fun _ => ⟨_, rfl, by simp, ?_⟩⟩
  intro j u hu
  have hc := (Blk.new w t #[a, b, c]).cell j
  have he : (⟨w.heap.size, 0, none⟩ : Addr).add j = ⟨w.heap.size, j, none⟩ := by
    unfold Addr.add; split
    · rename_i h; rw [h]
    · simp
  rw [he, hc]; simpa using hu
theorem grown_set (w : World) (p : Addr) (u : Value) : w.grownBy (w.setCell p u) (some p.block) :=
  ⟨rfl, rfl, rfl, by simp [World.setCell], fun k _ hne => Below.heap_setCell w p u k (fun e => hne (by rw [e]))⟩
theorem grown_below {w w' : World} (h : Below w.heap.size w w') : w.grownBy w' none := ⟨h.os, h.tape, h.output, h.size, fun k hk _ => h.block k hk⟩
section
variable {w w' : World} {base e size n : Nat} {v : Value} {xs : List Value}
theorem own_far (h : w.ownsRow base e size v n xs) {p : Addr} (hp : v.ownBlock ≠ some p.block) (u : Value) : (w.setCell p u).ownsRow base e size v n xs := h.kept (grown_set w p u) (Or.inr hp)
theorem own_below (h : w.ownsRow base e size v n xs) (hb : Below w.heap.size w w') : w'.ownsRow base e size v n xs :=
  h.kept (grown_below hb) (by cases v.ownBlock with | none => exact Or.inl rfl | some k => exact Or.inr (fun e => by cases e))
theorem own_drew (h : w.ownsRow base e size v n xs) : w.drew.ownsRow base e size v n xs := h
theorem own_drewN (h : w.ownsRow base e size v n xs) (k : Nat) : (w.drewN k).ownsRow base e size v n xs := h
theorem own_base {b : Nat} (h : w.ownsRow base e size v n xs) (hb : b ≤ base) : w.ownsRow b e size v n xs := by
  obtain ⟨h1, h2⟩ := h
  refine ⟨h1, ?_⟩
  rcases h2 with h2 | ⟨g, cap, cur, a, b', c⟩
  · exact Or.inl h2
  · exact Or.inr ⟨g, cap, cur, a, by omega, c⟩
end
theorem eqB (b : UInt8) (n : Nat) : ((b.toNat : Int) == (n : Int)) = decide (b.toNat = n) := by
  rw [Bool.eq_iff_iff]
  simp only [beq_iff_eq, decide_eq_true_eq]
  omega
theorem u8_ne {a b : UInt8} (h : a ≠ b) : a.toNat ≠ b.toNat := fun e => h (UInt8.toNat_inj.1 e)
theorem get_list (s : ByteArray) (i : Nat) (h : i < s.size) (h2 : i < s.data.toList.length) : s.data.toList[i] = s[i] := by
  rw [Array.getElem_toList]
  rfl
theorem size_list (s : ByteArray) : s.data.toList.length = s.size := Array.length_toList
end Go.Proofs.YtjmebclcmpfdmaaGreatDoor
namespace Go.Proofs.YtjmebclcmpfdmaaGreatDoor
open Go.RowKit
open Ph
def spotV : Option Nat → Value
  | some k => .agg #[.int .i64 6, .int .i64 k]
  | none => .agg #[.int .i64 0, .int .i64 0]
theorem bad_of {s : ByteArray} {i : Nat} (h : (Utf8.decode s i).1 = 65533) (w : (Utf8.decode s i).2 = 1) : bad s i = true := by unfold bad; simp [h, w]
theorem bad_not {s : ByteArray} {i : Nat} (h : ¬ ((Utf8.decode s i).1 = 65533 ∧ (Utf8.decode s i).2 = 1)) : bad s i = false := by unfold bad; simp [h]
theorem bne65 (n : Nat) : ((n : Int) == 65533) = decide (n = 65533) := by
  rw [Bool.eq_iff_iff]; simp; omega
theorem next_brk {s : ByteArray} {pos : Nat} {o : Option Nat} (hp : pos < s.size) (h : o = brk s pos) : o = if ((Utf8.decode s pos).1 : Int) == 65533 then brk s pos else brk s (pos + (Utf8.decode s pos).2) := by
  rw [h, bne65]
  by_cases e : (Utf8.decode s pos).1 = 65533
  · simp [e]
  · simp only [e, decide_false, Bool.false_eq_true, if_false]
    exact brk_step s pos hp (bad_not (fun g => e g.1))
set_option maxHeartbeats 1000000 in
theorem utfCheck (s : ByteArray) (hs : s.size ≤ 9223372036854775807) (w : World) :
    Calls Tryz.prog 131 #[.string s] w fun e w' => e = .returned (spotV (brk s 0)) ∧ Below w.heap.size w w' := by
  go_enter Tryz.func131, Tryz.ntmps131
  go_wp2_with fail
  go_loopw [3, 4] (fun u v wr => ∃ (pos last : Nat) (br : Bool), u = .int .i64 last ∧ v = .bool br ∧ wr.heap[w.heap.size + 1]? = some (.stringIter s pos) ∧ Blk wr w.heap.size 54 #[.int .i64 0, .int .i64 0] ∧ Below w.heap.size w wr ∧ pos ≤ s.size ∧ last ≤ pos ∧ brk s 0 = (if br then brk s last else brk s pos) ∧ (br = true → (Utf8.decode s last).1 = 65533 ∧ last + (Utf8.decode s last).2 = pos ∧ last < s.size)) (fun _ _ wr => s.size - wr.iterPos (w.heap.size + 1))
  case atStart =>
    refine ⟨0, 0, false, rfl, rfl, ?_, (Blk.new _ _ _).alloc _, ((Below.refl _ w).alloc (Nat.le_refl _) _).alloc (by simp) _, by omega, by omega, rfl, fun h => by cases h⟩
    have := World.iter_heap (w.alloc (.cells #[.int .i64 0, .int .i64 0] 54)) s 0
    simpa using this
  case round =>
    obtain ⟨pos, last, br, rfl, rfl, hit, hB, hbw, hp1, hp2, hbrk, hbr⟩ := hrel
    have hsz : w.heap.size + 1 < wr.heap.size := (Array.getElem?_eq_some_iff.1 hit).1
    by_cases hp : pos < s.size
    · have hnx : ∀ ty, (Instr.next (.pointer (some ⟨w.heap.size + 1, 0, none⟩)) true ty).run Tryz.prog wr = _ := fun ty => Lib.run_next_any_at wr (w.heap.size + 1) s pos ty hit hp
      have hwd := w1 s pos
      have hwi := wIn s pos hp
      have hd1 := decode_le s pos
      have hit2 := Lib.iterAt_heap wr (w.heap.size + 1) s pos (pos + (Utf8.decode s pos).2) hit
      have hbw2 := Lib.below_iterAt hbw (k := w.heap.size + 1) (by omega) s (pos + (Utf8.decode s pos).2)
      have hB2 := hB.iterAt hit (pos + (Utf8.decode s pos).2)
      have HB := Lib.hid hbrk
      have HR := Lib.hid hbr
      clear hbrk hbr
      cases br
      · have e0 := HB.out
        simp only [Bool.false_eq_true, if_false] at e0
        have E0 := Lib.hid e0
        clear e0
        go_wp2_with fail
        go_roundw
        case rel => exact ⟨pos + (Utf8.decode s pos).2, pos, ((Utf8.decode s pos).1 : Int) == 65533, by trivial, by trivial, hit2, hB2, hbw2, hwi, by omega, next_brk hp E0.out, fun h => ⟨by rw [bne65] at h; simpa using h, rfl, hp⟩⟩
        case measure =>
          simp only [World.iterPos, hit2, hit]
          omega
      · obtain ⟨r1, r2, r3⟩ := HR.out rfl
        have e0 := HB.out
        simp only [if_true] at e0
        by_cases h1 : pos = last + 1
        · have e1 : brk s 0 = some last := by rw [e0]; exact brk_bad s last r3 (bad_of r1 (by omega))
          have E0 := Lib.hid e1
          have h2 : ((pos : Int) - last == 1) = true := beq_iff_eq.2 (by omega)
          clear e0 e1 r1 r2 h1
          have hc0 := hB2.at_ 0 (v := .int .i64 0) rfl
          have hc1 := hB2.at_ 1 (v := .int .i64 0) rfl
          have hf := hB2.frozen
          go_wp2_with fail
          refine bodyPost_ret (v := spotV (some last)) ?_ rfl ⟨by rw [E0.out], ?_⟩
          · simp [spotV, results, Tryz.results131, go_sem, hc0, hc1]
          · exact (hbw2.setCell (by simp) _).setCell (by simp) _
        · have e1 : brk s 0 = brk s pos := by
            rw [e0, ← r2]; exact brk_step s last r3 (bad_not (fun g => h1 (by omega)))
          have E0 := Lib.hid e1
          clear e0 e1 r1 r2
          have h2 : ((pos : Int) - last == 1) = false := beq_eq_false_iff_ne.2 (by omega)
          go_wp2_with fail
          go_roundw
          case rel => exact ⟨pos + (Utf8.decode s pos).2, pos, ((Utf8.decode s pos).1 : Int) == 65533, by trivial, by trivial, hit2, hB2, hbw2, hwi, by omega, next_brk hp E0.out, fun h => ⟨by rw [bne65] at h; simpa using h, rfl, hp⟩⟩
          case measure =>
            simp only [World.iterPos, hit2, hit]
            omega
    · have hnx : ∀ ty, (Instr.next (.pointer (some ⟨w.heap.size + 1, 0, none⟩)) true ty).run Tryz.prog wr = _ := fun ty => Lib.run_next_end_at wr (w.heap.size + 1) s pos ty hit hp
      have hc0 := hB.at_ 0 (v := .int .i64 0) rfl
      have hc1 := hB.at_ 1 (v := .int .i64 0) rfl
      have hf := hB.frozen
      have hend := brk_end s pos hp
      have HB := Lib.hid hbrk
      have HR := Lib.hid hbr
      have HE := Lib.hid hend
      clear hbrk hbr hend
      cases br
      · have E0 := Lib.hid (HB.out.trans (by simp only [Bool.false_eq_true, if_false]; exact HE.out))
        go_wp2_with fail
        refine bodyPost_ret (v := spotV none) ?_ rfl ⟨by rw [E0.out], ?_⟩
        · simp [spotV, results, Tryz.results131, go_sem, hc0, hc1]
        · exact (hbw.setCell (by simp) _).setCell (by simp) _
      · obtain ⟨r1, r2, r3⟩ := HR.out rfl
        have e0 := HB.out
        simp only [if_true] at e0
        by_cases h1 : s.size = last + 1
        · have e1 : brk s 0 = some last := by rw [e0]; exact brk_bad s last r3 (bad_of r1 (by omega))
          have E0 := Lib.hid e1
          have h2 : ((s.size : Int) - last == 1) = true := beq_iff_eq.2 (by omega)
          clear e0 e1 r1 r2 h1
          go_wp2_with fail
          refine bodyPost_ret (v := spotV (some last)) ?_ rfl ⟨by rw [E0.out], ?_⟩
          · simp [spotV, results, Tryz.results131, go_sem, hc0, hc1]
          · exact (hbw.setCell (by simp) _).setCell (by simp) _
        · have e1 : brk s 0 = none := by
            rw [e0, brk_step s last r3 (bad_not (fun g => h1 (by omega))), r2]; exact HE.out
          have E0 := Lib.hid e1
          have h2 : ((s.size : Int) - last == 1) = false := beq_eq_false_iff_ne.2 (by omega)
          clear e0 e1 r1 r2 h1
          go_wp2_with fail
          refine bodyPost_ret (v := spotV none) ?_ rfl ⟨by rw [E0.out], ?_⟩
          · simp [spotV, results, Tryz.results131, go_sem, hc0, hc1]
          · exact (hbw.setCell (by simp) _).setCell (by simp) _
end Go.Proofs.YtjmebclcmpfdmaaGreatDoor
namespace Ph
open Go
/-- what Form answers, by the bytes -/
def formN (n b0 b1 b2 b3 : Nat) : Int × Int :=
  if b0 < 128 then (b0, 1)
  else if 194 ≤ b0 ∧ b0 ≤ 223 then (if n < 2 ∨ b1 / 64 ≠ 2 then (-1, 1) else ((b0 % 32 * 64 + b1 % 64 : Nat), 2))
  else if 224 ≤ b0 ∧ b0 ≤ 239 then (if n < 3 ∨ b1 / 64 ≠ 2 ∨ b2 / 64 ≠ 2 ∨ b0 % 16 * 4096 + b1 % 64 * 64 + b2 % 64 < 2048 ∨ (55296 ≤ b0 % 16 * 4096 + b1 % 64 * 64 + b2 % 64 ∧ b0 % 16 * 4096 + b1 % 64 * 64 + b2 % 64 ≤ 57343) then (-1, 1) else ((b0 % 16 * 4096 + b1 % 64 * 64 + b2 % 64 : Nat), 3))
  else if 240 ≤ b0 ∧ b0 ≤ 244 then (if n < 4 ∨ b1 / 64 ≠ 2 ∨ b2 / 64 ≠ 2 ∨ b3 / 64 ≠ 2 ∨ b0 % 8 * 262144 + b1 % 64 * 4096 + b2 % 64 * 64 + b3 % 64 < 65536 ∨ 1114111 < b0 % 8 * 262144 + b1 % 64 * 4096 + b2 % 64 * 64 + b3 % 64 then (-1, 1) else ((b0 % 8 * 262144 + b1 % 64 * 4096 + b2 % 64 * 64 + b3 % 64 : Nat), 4))
  else (-1, 1)
set_option maxRecDepth 100000 in
set_option maxHeartbeats 4000000 in
theorem formN_eq (n b0 b1 b2 b3 : Nat) (h0 : b0 < 256) : formN n b0 b1 b2 b3 = if (Lib.decodeN n b0 b1 b2 b3).1 = 65533 ∧ (Lib.decodeN n b0 b1 b2 b3).2 = 1 then (-1, 1) else (((Lib.decodeN n b0 b1 b2 b3).1 : Int), ((Lib.decodeN n b0 b1 b2 b3).2 : Int)) := by
  unfold formN Lib.decodeN
  by_cases c1 : b0 < 128
  · simp [c1]; omega
  by_cases c2 : 194 ≤ b0 ∧ b0 ≤ 223
  · have e : b0 / 32 = 6 := by omega
    simp only [c1, c2, e, if_true, if_false, true_and, and_self]
    repeat' split
    all_goals first | rfl | (exfalso; omega) | (apply Prod.ext <;> simp only <;> omega)
  by_cases c3 : 224 ≤ b0 ∧ b0 ≤ 239
  · have e : b0 / 16 = 14 := by omega
    have e' : ¬ b0 / 32 = 6 := by omega
    simp only [c1, c2, c3, e, e', if_true, if_false, true_and, false_and, and_self]
    repeat' split
    all_goals first | rfl | (exfalso; omega) | (apply Prod.ext <;> simp only <;> omega)
  by_cases c4 : 240 ≤ b0 ∧ b0 ≤ 244
  · have e : b0 / 8 = 30 := by omega
    have e' : ¬ b0 / 32 = 6 := by omega
    have e'' : ¬ b0 / 16 = 14 := by omega
    simp only [c1, c2, c3, c4, e, e', e'', if_true, if_false, true_and, false_and, and_self]
    repeat' split
    all_goals first | rfl | (exfalso; omega) | (apply Prod.ext <;> simp only <;> omega)
  simp only [c1, c2, c3, c4, if_false]
  repeat' split
  all_goals first | rfl | (exfalso; omega) | (apply Prod.ext <;> simp only <;> omega) | (simp_all; omega)
theorem and192 : ∀ n : Nat, n < 256 → (bits BinOp.and IntKind.u8 (n : Int) 192 != 128) = decide (n / 64 ≠ 2) := by decide +kernel
theorem and63 : ∀ n : Nat, n < 256 → RowKit.wrap32 (bits BinOp.and IntKind.u8 (n : Int) 63) = ((n % 64 : Nat) : Int) := by decide +kernel
theorem or32 (a b : Nat) (ha : a < 33554432) (hb : b < 64) : bits .or .i32 ((a : Int) * 64) (b : Int) = ((a * 64 + b : Nat) : Int) := by
  have e : (a : Int) * 64 = ((a * 64 : Nat) : Int) := by omega
  rw [e]
  have ho : a * 64 ||| b = a * 64 + b := by
    have := Nat.shiftLeft_add_eq_or_of_lt (i := 6) hb a
    rw [Nat.shiftLeft_eq] at this
    exact this.symm
  show IntKind.i32.wrap ((BitVec.ofInt 32 ((a * 64 : Nat) : Int) ||| BitVec.ofInt 32 (b : Int)).toNat : Int) = _
  rw [BitVec.toNat_or, BitVec.ofInt_natCast, BitVec.ofInt_natCast, BitVec.toNat_ofNat, BitVec.toNat_ofNat, Nat.mod_eq_of_lt (by omega), Nat.mod_eq_of_lt (by omega), ho]
  exact IntWalk.i32_in _ (by omega)
end Ph
namespace Go.Proofs.YtjmebclcmpfdmaaGreatDoor
open Go.RowKit
open Ph
set_option maxRecDepth 100000 in
set_option maxHeartbeats 1000000 in
theorem form_ascii (s : ByteArray) (i : Nat) (_hs : s.size ≤ 281474976710656) (hi : i < s.size) (h0 : s[i].toNat < 128) (w : World) :
    Calls Tryz.prog 163 #[.string s, .int .i64 i] w fun e w' => e = .returned (.tuple #[.int .i32 (s[i].toNat), .int .i64 1]) ∧ w = w' := by
  go_enter Tryz.func163, Tryz.ntmps163
  go_wp2_with fail
  go_ret2
  exact ⟨rfl, rfl⟩
set_option maxRecDepth 100000 in
set_option maxHeartbeats 1000000 in
theorem form_low (s : ByteArray) (i : Nat) (_hs : s.size ≤ 281474976710656) (hi : i < s.size) (h0 : 128 ≤ s[i].toNat) (h1 : s[i].toNat < 194) (w : World) :
    Calls Tryz.prog 163 #[.string s, .int .i64 i] w fun e w' => e = .returned (.tuple #[.int .i32 (-1), .int .i64 1]) ∧ w = w' := by
  go_enter Tryz.func163, Tryz.ntmps163
  go_wp2_with fail
  go_ret2
  exact ⟨rfl, rfl⟩
set_option maxRecDepth 100000 in
set_option maxHeartbeats 1000000 in
theorem form_high (s : ByteArray) (i : Nat) (_hs : s.size ≤ 281474976710656) (hi : i < s.size) (h0 : 245 ≤ s[i].toNat) (w : World) :
    Calls Tryz.prog 163 #[.string s, .int .i64 i] w fun e w' => e = .returned (.tuple #[.int .i32 (-1), .int .i64 1]) ∧ w = w' := by
  go_enter Tryz.func163, Tryz.ntmps163
  go_wp2_with fail
  go_ret2
  exact ⟨rfl, rfl⟩
set_option maxRecDepth 100000 in
set_option maxHeartbeats 1000000 in
theorem form_s2 (s : ByteArray) (i : Nat) (_hs : s.size ≤ 281474976710656) (hi : i < s.size) (h0 : 194 ≤ s[i].toNat) (h1 : s[i].toNat ≤ 223) (h2 : (s.size : Int) < (i : Int) + 2) (w : World) :
    Calls Tryz.prog 163 #[.string s, .int .i64 i] w fun e w' => e = .returned (.tuple #[.int .i32 (-1), .int .i64 1]) ∧ w = w' := by
  go_enter Tryz.func163, Tryz.ntmps163
  go_wp2_with fail
  all_goals first | (go_ret2; exact ⟨rfl, rfl⟩) | (exfalso; omega)
set_option maxRecDepth 100000 in
set_option maxHeartbeats 1000000 in
theorem form_c21 (s : ByteArray) (i : Nat) (_hs : s.size ≤ 281474976710656) (hi : i + 2 ≤ s.size) (h0 : 194 ≤ s[i].toNat) (h1 : s[i].toNat ≤ 223) (c1 : (bits BinOp.and IntKind.u8 (s[i + 1].toNat : Int) 192 != 128) = true) (w : World) :
    Calls Tryz.prog 163 #[.string s, .int .i64 i] w fun e w' => e = .returned (.tuple #[.int .i32 (-1), .int .i64 1]) ∧ w = w' := by
  go_enter Tryz.func163, Tryz.ntmps163
  go_wp2_with fail
  refine wp_loop_rounds 1 ?_
  rw [rounds_succ]
  go_wp2_with fail
  go_ret2
  exact ⟨rfl, rfl⟩
set_option maxRecDepth 100000 in
set_option maxHeartbeats 1000000 in
theorem form_ok2 (s : ByteArray) (i : Nat) (_hs : s.size ≤ 281474976710656) (hi : i + 2 ≤ s.size) (h0 : 194 ≤ s[i].toNat) (h1 : s[i].toNat ≤ 223) (c1 : (bits BinOp.and IntKind.u8 (s[i + 1].toNat : Int) 192 != 128) = false) (x1 r1 : Int) (e1 : wrap32 (bits BinOp.and IntKind.u8 (s[i + 1].toNat : Int) 63) = x1) (o1 : bits BinOp.or IntKind.i32 ((s[i].toNat : Int) % 32 * 64) x1 = r1) (_p1 : 0 ≤ r1) (_q1 : r1 ≤ 2047) (w : World) :
    Calls Tryz.prog 163 #[.string s, .int .i64 i] w fun e w' => e = .returned (.tuple #[.int .i32 (r1), .int .i64 2]) ∧ w = w' := by
  go_enter Tryz.func163, Tryz.ntmps163
  go_wp2_with fail
  refine wp_loop_rounds 2 ?_
  rw [rounds_succ]
  go_wp2_with fail
  rw [rounds_succ]
  go_wp2_with fail
  go_ret2
  exact ⟨rfl, rfl⟩
set_option maxRecDepth 100000 in
set_option maxHeartbeats 1000000 in
theorem form_s3 (s : ByteArray) (i : Nat) (_hs : s.size ≤ 281474976710656) (hi : i < s.size) (h0 : 224 ≤ s[i].toNat) (h1 : s[i].toNat ≤ 239) (h2 : (s.size : Int) < (i : Int) + 3) (w : World) :
    Calls Tryz.prog 163 #[.string s, .int .i64 i] w fun e w' => e = .returned (.tuple #[.int .i32 (-1), .int .i64 1]) ∧ w = w' := by
  go_enter Tryz.func163, Tryz.ntmps163
  go_wp2_with fail
  all_goals first | (go_ret2; exact ⟨rfl, rfl⟩) | (exfalso; omega)
set_option maxRecDepth 100000 in
set_option maxHeartbeats 1000000 in
theorem form_c31 (s : ByteArray) (i : Nat) (_hs : s.size ≤ 281474976710656) (hi : i + 3 ≤ s.size) (h0 : 224 ≤ s[i].toNat) (h1 : s[i].toNat ≤ 239) (c1 : (bits BinOp.and IntKind.u8 (s[i + 1].toNat : Int) 192 != 128) = true) (w : World) :
    Calls Tryz.prog 163 #[.string s, .int .i64 i] w fun e w' => e = .returned (.tuple #[.int .i32 (-1), .int .i64 1]) ∧ w = w' := by
  go_enter Tryz.func163, Tryz.ntmps163
  go_wp2_with fail
  refine wp_loop_rounds 1 ?_
  rw [rounds_succ]
  go_wp2_with fail
  go_ret2
  exact ⟨rfl, rfl⟩
set_option maxRecDepth 100000 in
set_option maxHeartbeats 1000000 in
theorem form_c32 (s : ByteArray) (i : Nat) (_hs : s.size ≤ 281474976710656) (hi : i + 3 ≤ s.size) (h0 : 224 ≤ s[i].toNat) (h1 : s[i].toNat ≤ 239) (c1 : (bits BinOp.and IntKind.u8 (s[i + 1].toNat : Int) 192 != 128) = false) (c2 : (bits BinOp.and IntKind.u8 (s[i + 2].toNat : Int) 192 != 128) = true) (w : World) :
    Calls Tryz.prog 163 #[.string s, .int .i64 i] w fun e w' => e = .returned (.tuple #[.int .i32 (-1), .int .i64 1]) ∧ w = w' := by
  go_enter Tryz.func163, Tryz.ntmps163
  go_wp2_with fail
  refine wp_loop_rounds 2 ?_
  rw [rounds_succ]
  go_wp2_with fail
  rw [rounds_succ]
  go_wp2_with fail
  go_ret2
  exact ⟨rfl, rfl⟩
set_option maxRecDepth 100000 in
set_option maxHeartbeats 1000000 in
theorem form_lo3 (s : ByteArray) (i : Nat) (_hs : s.size ≤ 281474976710656) (hi : i + 3 ≤ s.size) (h0 : 224 ≤ s[i].toNat) (h1 : s[i].toNat ≤ 239) (c1 : (bits BinOp.and IntKind.u8 (s[i + 1].toNat : Int) 192 != 128) = false) (c2 : (bits BinOp.and IntKind.u8 (s[i + 2].toNat : Int) 192 != 128) = false) (x1 r1 : Int) (e1 : wrap32 (bits BinOp.and IntKind.u8 (s[i + 1].toNat : Int) 63) = x1) (o1 : bits BinOp.or IntKind.i32 ((s[i].toNat : Int) % 16 * 64) x1 = r1) (_p1 : 0 ≤ r1) (_q1 : r1 ≤ 1023) (x2 r2 : Int) (e2 : wrap32 (bits BinOp.and IntKind.u8 (s[i + 2].toNat : Int) 63) = x2) (o2 : bits BinOp.or IntKind.i32 (r1 * 64) x2 = r2) (_p2 : 0 ≤ r2) (_q2 : r2 ≤ 65535) (t1 : r2 < 2048) (w : World) :
    Calls Tryz.prog 163 #[.string s, .int .i64 i] w fun e w' => e = .returned (.tuple #[.int .i32 (-1), .int .i64 1]) ∧ w = w' := by
  go_enter Tryz.func163, Tryz.ntmps163
  go_wp2_with fail
  refine wp_loop_rounds 3 ?_
  rw [rounds_succ]
  go_wp2_with fail
  rw [rounds_succ]
  go_wp2_with fail
  rw [rounds_succ]
  go_wp2_with fail
  go_ret2
  exact ⟨rfl, rfl⟩
set_option maxRecDepth 100000 in
set_option maxHeartbeats 1000000 in
theorem form_su3 (s : ByteArray) (i : Nat) (_hs : s.size ≤ 281474976710656) (hi : i + 3 ≤ s.size) (h0 : 224 ≤ s[i].toNat) (h1 : s[i].toNat ≤ 239) (c1 : (bits BinOp.and IntKind.u8 (s[i + 1].toNat : Int) 192 != 128) = false) (c2 : (bits BinOp.and IntKind.u8 (s[i + 2].toNat : Int) 192 != 128) = false) (x1 r1 : Int) (e1 : wrap32 (bits BinOp.and IntKind.u8 (s[i + 1].toNat : Int) 63) = x1) (o1 : bits BinOp.or IntKind.i32 ((s[i].toNat : Int) % 16 * 64) x1 = r1) (_p1 : 0 ≤ r1) (_q1 : r1 ≤ 1023) (x2 r2 : Int) (e2 : wrap32 (bits BinOp.and IntKind.u8 (s[i + 2].toNat : Int) 63) = x2) (o2 : bits BinOp.or IntKind.i32 (r1 * 64) x2 = r2) (_p2 : 0 ≤ r2) (_q2 : r2 ≤ 65535) (t1 : 55296 ≤ r2) (t2 : r2 ≤ 57343) (w : World) :
    Calls Tryz.prog 163 #[.string s, .int .i64 i] w fun e w' => e = .returned (.tuple #[.int .i32 (-1), .int .i64 1]) ∧ w = w' := by
  go_enter Tryz.func163, Tryz.ntmps163
  go_wp2_with fail
  refine wp_loop_rounds 3 ?_
  rw [rounds_succ]
  go_wp2_with fail
  rw [rounds_succ]
  go_wp2_with fail
  rw [rounds_succ]
  go_wp2_with fail
  go_ret2
  exact ⟨rfl, rfl⟩
set_option maxRecDepth 100000 in
set_option maxHeartbeats 1000000 in
theorem form_ok3 (s : ByteArray) (i : Nat) (_hs : s.size ≤ 281474976710656) (hi : i + 3 ≤ s.size) (h0 : 224 ≤ s[i].toNat) (h1 : s[i].toNat ≤ 239) (c1 : (bits BinOp.and IntKind.u8 (s[i + 1].toNat : Int) 192 != 128) = false) (c2 : (bits BinOp.and IntKind.u8 (s[i + 2].toNat : Int) 192 != 128) = false) (x1 r1 : Int) (e1 : wrap32 (bits BinOp.and IntKind.u8 (s[i + 1].toNat : Int) 63) = x1) (o1 : bits BinOp.or IntKind.i32 ((s[i].toNat : Int) % 16 * 64) x1 = r1) (_p1 : 0 ≤ r1) (_q1 : r1 ≤ 1023) (x2 r2 : Int) (e2 : wrap32 (bits BinOp.and IntKind.u8 (s[i + 2].toNat : Int) 63) = x2) (o2 : bits BinOp.or IntKind.i32 (r1 * 64) x2 = r2) (_p2 : 0 ≤ r2) (_q2 : r2 ≤ 65535) (t1 : 2048 ≤ r2) (t2 : r2 < 55296) (w : World) :
    Calls Tryz.prog 163 #[.string s, .int .i64 i] w fun e w' => e = .returned (.tuple #[.int .i32 (r2), .int .i64 3]) ∧ w = w' := by
  go_enter Tryz.func163, Tryz.ntmps163
  go_wp2_with fail
  refine wp_loop_rounds 3 ?_
  rw [rounds_succ]
  go_wp2_with fail
  rw [rounds_succ]
  go_wp2_with fail
  rw [rounds_succ]
  go_wp2_with fail
  go_ret2
  exact ⟨rfl, rfl⟩
set_option maxRecDepth 100000 in
set_option maxHeartbeats 1000000 in
theorem form_ok3h (s : ByteArray) (i : Nat) (_hs : s.size ≤ 281474976710656) (hi : i + 3 ≤ s.size) (h0 : 224 ≤ s[i].toNat) (h1 : s[i].toNat ≤ 239) (c1 : (bits BinOp.and IntKind.u8 (s[i + 1].toNat : Int) 192 != 128) = false) (c2 : (bits BinOp.and IntKind.u8 (s[i + 2].toNat : Int) 192 != 128) = false) (x1 r1 : Int) (e1 : wrap32 (bits BinOp.and IntKind.u8 (s[i + 1].toNat : Int) 63) = x1) (o1 : bits BinOp.or IntKind.i32 ((s[i].toNat : Int) % 16 * 64) x1 = r1) (_p1 : 0 ≤ r1) (_q1 : r1 ≤ 1023) (x2 r2 : Int) (e2 : wrap32 (bits BinOp.and IntKind.u8 (s[i + 2].toNat : Int) 63) = x2) (o2 : bits BinOp.or IntKind.i32 (r1 * 64) x2 = r2) (_p2 : 0 ≤ r2) (_q2 : r2 ≤ 65535) (t1 : 2048 ≤ r2) (t2 : 57343 < r2) (w : World) :
    Calls Tryz.prog 163 #[.string s, .int .i64 i] w fun e w' => e = .returned (.tuple #[.int .i32 (r2), .int .i64 3]) ∧ w = w' := by
  go_enter Tryz.func163, Tryz.ntmps163
  go_wp2_with fail
  refine wp_loop_rounds 3 ?_
  rw [rounds_succ]
  go_wp2_with fail
  rw [rounds_succ]
  go_wp2_with fail
  rw [rounds_succ]
  go_wp2_with fail
  go_ret2
  exact ⟨rfl, rfl⟩
set_option maxRecDepth 100000 in
set_option maxHeartbeats 1000000 in
theorem form_s4 (s : ByteArray) (i : Nat) (_hs : s.size ≤ 281474976710656) (hi : i < s.size) (h0 : 240 ≤ s[i].toNat) (h1 : s[i].toNat ≤ 244) (h2 : (s.size : Int) < (i : Int) + 4) (w : World) :
    Calls Tryz.prog 163 #[.string s, .int .i64 i] w fun e w' => e = .returned (.tuple #[.int .i32 (-1), .int .i64 1]) ∧ w = w' := by
  go_enter Tryz.func163, Tryz.ntmps163
  go_wp2_with fail
  all_goals first | (go_ret2; exact ⟨rfl, rfl⟩) | (exfalso; omega)
set_option maxRecDepth 100000 in
set_option maxHeartbeats 1000000 in
theorem form_c41 (s : ByteArray) (i : Nat) (_hs : s.size ≤ 281474976710656) (hi : i + 4 ≤ s.size) (h0 : 240 ≤ s[i].toNat) (h1 : s[i].toNat ≤ 244) (c1 : (bits BinOp.and IntKind.u8 (s[i + 1].toNat : Int) 192 != 128) = true) (w : World) :
    Calls Tryz.prog 163 #[.string s, .int .i64 i] w fun e w' => e = .returned (.tuple #[.int .i32 (-1), .int .i64 1]) ∧ w = w' := by
  go_enter Tryz.func163, Tryz.ntmps163
  go_wp2_with fail
  refine wp_loop_rounds 1 ?_
  rw [rounds_succ]
  go_wp2_with fail
  go_ret2
  exact ⟨rfl, rfl⟩
set_option maxRecDepth 100000 in
set_option maxHeartbeats 1000000 in
theorem form_c42 (s : ByteArray) (i : Nat) (_hs : s.size ≤ 281474976710656) (hi : i + 4 ≤ s.size) (h0 : 240 ≤ s[i].toNat) (h1 : s[i].toNat ≤ 244) (c1 : (bits BinOp.and IntKind.u8 (s[i + 1].toNat : Int) 192 != 128) = false) (c2 : (bits BinOp.and IntKind.u8 (s[i + 2].toNat : Int) 192 != 128) = true) (w : World) :
    Calls Tryz.prog 163 #[.string s, .int .i64 i] w fun e w' => e = .returned (.tuple #[.int .i32 (-1), .int .i64 1]) ∧ w = w' := by
  go_enter Tryz.func163, Tryz.ntmps163
  go_wp2_with fail
  refine wp_loop_rounds 2 ?_
  rw [rounds_succ]
  go_wp2_with fail
  rw [rounds_succ]
  go_wp2_with fail
  go_ret2
  exact ⟨rfl, rfl⟩
set_option maxRecDepth 100000 in
set_option maxHeartbeats 1000000 in
theorem form_c43 (s : ByteArray) (i : Nat) (_hs : s.size ≤ 281474976710656) (hi : i + 4 ≤ s.size) (h0 : 240 ≤ s[i].toNat) (h1 : s[i].toNat ≤ 244) (c1 : (bits BinOp.and IntKind.u8 (s[i + 1].toNat : Int) 192 != 128) = false) (c2 : (bits BinOp.and IntKind.u8 (s[i + 2].toNat : Int) 192 != 128) = false) (c3 : (bits BinOp.and IntKind.u8 (s[i + 3].toNat : Int) 192 != 128) = true) (w : World) :
    Calls Tryz.prog 163 #[.string s, .int .i64 i] w fun e w' => e = .returned (.tuple #[.int .i32 (-1), .int .i64 1]) ∧ w = w' := by
  go_enter Tryz.func163, Tryz.ntmps163
  go_wp2_with fail
  refine wp_loop_rounds 3 ?_
  rw [rounds_succ]
  go_wp2_with fail
  rw [rounds_succ]
  go_wp2_with fail
  rw [rounds_succ]
  go_wp2_with fail
  go_ret2
  exact ⟨rfl, rfl⟩
set_option maxRecDepth 100000 in
set_option maxHeartbeats 1000000 in
theorem form_lo4 (s : ByteArray) (i : Nat) (_hs : s.size ≤ 281474976710656) (hi : i + 4 ≤ s.size) (h0 : 240 ≤ s[i].toNat) (h1 : s[i].toNat ≤ 244) (c1 : (bits BinOp.and IntKind.u8 (s[i + 1].toNat : Int) 192 != 128) = false) (c2 : (bits BinOp.and IntKind.u8 (s[i + 2].toNat : Int) 192 != 128) = false) (c3 : (bits BinOp.and IntKind.u8 (s[i + 3].toNat : Int) 192 != 128) = false) (x1 r1 : Int) (e1 : wrap32 (bits BinOp.and IntKind.u8 (s[i + 1].toNat : Int) 63) = x1) (o1 : bits BinOp.or IntKind.i32 ((s[i].toNat : Int) % 8 * 64) x1 = r1) (_p1 : 0 ≤ r1) (_q1 : r1 ≤ 511) (x2 r2 : Int) (e2 : wrap32 (bits BinOp.and IntKind.u8 (s[i + 2].toNat : Int) 63) = x2) (o2 : bits BinOp.or IntKind.i32 (r1 * 64) x2 = r2) (_p2 : 0 ≤ r2) (_q2 : r2 ≤ 32767) (x3 r3 : Int) (e3 : wrap32 (bits BinOp.and IntKind.u8 (s[i + 3].toNat : Int) 63) = x3) (o3 : bits BinOp.or IntKind.i32 (r2 * 64) x3 = r3) (_p3 : 0 ≤ r3) (_q3 : r3 ≤ 2097151) (t1 : r3 < 65536) (w : World) :
    Calls Tryz.prog 163 #[.string s, .int .i64 i] w fun e w' => e = .returned (.tuple #[.int .i32 (-1), .int .i64 1]) ∧ w = w' := by
  go_enter Tryz.func163, Tryz.ntmps163
  go_wp2_with fail
  refine wp_loop_rounds 4 ?_
  rw [rounds_succ]
  go_wp2_with fail
  rw [rounds_succ]
  go_wp2_with fail
  rw [rounds_succ]
  go_wp2_with fail
  rw [rounds_succ]
  go_wp2_with fail
  go_ret2
  exact ⟨rfl, rfl⟩
set_option maxRecDepth 100000 in
set_option maxHeartbeats 1000000 in
theorem form_hi4 (s : ByteArray) (i : Nat) (_hs : s.size ≤ 281474976710656) (hi : i + 4 ≤ s.size) (h0 : 240 ≤ s[i].toNat) (h1 : s[i].toNat ≤ 244) (c1 : (bits BinOp.and IntKind.u8 (s[i + 1].toNat : Int) 192 != 128) = false) (c2 : (bits BinOp.and IntKind.u8 (s[i + 2].toNat : Int) 192 != 128) = false) (c3 : (bits BinOp.and IntKind.u8 (s[i + 3].toNat : Int) 192 != 128) = false) (x1 r1 : Int) (e1 : wrap32 (bits BinOp.and IntKind.u8 (s[i + 1].toNat : Int) 63) = x1) (o1 : bits BinOp.or IntKind.i32 ((s[i].toNat : Int) % 8 * 64) x1 = r1) (_p1 : 0 ≤ r1) (_q1 : r1 ≤ 511) (x2 r2 : Int) (e2 : wrap32 (bits BinOp.and IntKind.u8 (s[i + 2].toNat : Int) 63) = x2) (o2 : bits BinOp.or IntKind.i32 (r1 * 64) x2 = r2) (_p2 : 0 ≤ r2) (_q2 : r2 ≤ 32767) (x3 r3 : Int) (e3 : wrap32 (bits BinOp.and IntKind.u8 (s[i + 3].toNat : Int) 63) = x3) (o3 : bits BinOp.or IntKind.i32 (r2 * 64) x3 = r3) (_p3 : 0 ≤ r3) (_q3 : r3 ≤ 2097151) (t1 : 1114111 < r3) (w : World) :
    Calls Tryz.prog 163 #[.string s, .int .i64 i] w fun e w' => e = .returned (.tuple #[.int .i32 (-1), .int .i64 1]) ∧ w = w' := by
  go_enter Tryz.func163, Tryz.ntmps163
  go_wp2_with fail
  refine wp_loop_rounds 4 ?_
  rw [rounds_succ]
  go_wp2_with fail
  rw [rounds_succ]
  go_wp2_with fail
  rw [rounds_succ]
  go_wp2_with fail
  rw [rounds_succ]
  go_wp2_with fail
  go_ret2
  exact ⟨rfl, rfl⟩
set_option maxRecDepth 100000 in
set_option maxHeartbeats 1000000 in
theorem form_ok4 (s : ByteArray) (i : Nat) (_hs : s.size ≤ 281474976710656) (hi : i + 4 ≤ s.size) (h0 : 240 ≤ s[i].toNat) (h1 : s[i].toNat ≤ 244) (c1 : (bits BinOp.and IntKind.u8 (s[i + 1].toNat : Int) 192 != 128) = false) (c2 : (bits BinOp.and IntKind.u8 (s[i + 2].toNat : Int) 192 != 128) = false) (c3 : (bits BinOp.and IntKind.u8 (s[i + 3].toNat : Int) 192 != 128) = false) (x1 r1 : Int) (e1 : wrap32 (bits BinOp.and IntKind.u8 (s[i + 1].toNat : Int) 63) = x1) (o1 : bits BinOp.or IntKind.i32 ((s[i].toNat : Int) % 8 * 64) x1 = r1) (_p1 : 0 ≤ r1) (_q1 : r1 ≤ 511) (x2 r2 : Int) (e2 : wrap32 (bits BinOp.and IntKind.u8 (s[i + 2].toNat : Int) 63) = x2) (o2 : bits BinOp.or IntKind.i32 (r1 * 64) x2 = r2) (_p2 : 0 ≤ r2) (_q2 : r2 ≤ 32767) (x3 r3 : Int) (e3 : wrap32 (bits BinOp.and IntKind.u8 (s[i + 3].toNat : Int) 63) = x3) (o3 : bits BinOp.or IntKind.i32 (r2 * 64) x3 = r3) (_p3 : 0 ≤ r3) (_q3 : r3 ≤ 2097151) (t1 : 65536 ≤ r3) (t2 : r3 ≤ 1114111) (w : World) :
    Calls Tryz.prog 163 #[.string s, .int .i64 i] w fun e w' => e = .returned (.tuple #[.int .i32 (r3), .int .i64 4]) ∧ w = w' := by
  go_enter Tryz.func163, Tryz.ntmps163
  go_wp2_with fail
  refine wp_loop_rounds 4 ?_
  rw [rounds_succ]
  go_wp2_with fail
  rw [rounds_succ]
  go_wp2_with fail
  rw [rounds_succ]
  go_wp2_with fail
  rw [rounds_succ]
  go_wp2_with fail
  go_ret2
  exact ⟨rfl, rfl⟩
def formV (s : ByteArray) (i : Nat) : Value := if bad s i then .tuple #[.int .i32 (-1), .int .i64 1] else .tuple #[.int .i32 (Utf8.decode s i).1, .int .i64 (Utf8.decode s i).2]
theorem form_val {s : ByteArray} {i : Nat} {a b : Int} (h : formN (s.size - i) (s.get! i).toNat (s.get! (i + 1)).toNat (s.get! (i + 2)).toNat (s.get! (i + 3)).toNat = (a, b)) : Value.tuple #[.int .i32 a, .int .i64 b] = formV s i := by
  rw [formN_eq _ _ _ _ _ (UInt8.toNat_lt _), ← Lib.decode_at] at h
  unfold formV bad
  by_cases e : (Utf8.decode s i).1 = 65533 ∧ (Utf8.decode s i).2 = 1
  · rw [if_pos e] at h
    cases h
    rw [if_pos (by simpa using e)]
  · rw [if_neg e] at h
    cases h
    rw [if_neg (by simpa using e)]
theorem Calls_form {s : ByteArray} {i : Nat} {a b : Int} {w : World} (h : Calls Tryz.prog 163 #[.string s, .int .i64 i] w fun e w' => e = .returned (.tuple #[.int .i32 a, .int .i64 b]) ∧ w = w')
    (e : formN (s.size - i) (s.get! i).toNat (s.get! (i + 1)).toNat (s.get! (i + 2)).toNat (s.get! (i + 3)).toNat = (a, b)) :
    Calls Tryz.prog 163 #[.string s, .int .i64 i] w fun e w' => e = .returned (formV s i) ∧ w = w' :=
  h.mono fun _ _ ⟨h1, h2⟩ => ⟨by rw [h1, form_val e], h2⟩
set_option maxHeartbeats 1000000 in
theorem form_k2 (s : ByteArray) (i : Nat) (hs : s.size ≤ 281474976710656) (hi : i < s.size) (k1 : 194 ≤ s[i].toNat) (k2 : s[i].toNat ≤ 223) (w : World) :
    Calls Tryz.prog 163 #[.string s, .int .i64 i] w fun e w' => e = .returned (formV s i) ∧ w = w' := by
  have g0 := get_eq s i hi
  have l0 := UInt8.toNat_lt (s[i])
  have c1 : ¬ s[i].toNat < 128 := by omega
  by_cases h2 : s.size < i + 2
  · exact Calls_form (form_s2 s i hs hi k1 k2 (by omega) w) (by rw [g0]; simp only [formN, c1, if_false]; rw [if_pos (by omega)]; rw [if_pos (Or.inl (by omega))])
  have g1 := get_eq s (i + 1) (by omega)
  have a1 := and192 _ (UInt8.toNat_lt (s[i + 1]))
  have l1 := UInt8.toNat_lt (s[i + 1])
  by_cases d1 : s[i + 1].toNat / 64 = 2
  case neg => exact Calls_form (form_c21 s i hs (by omega) k1 k2  (by rw [a1]; simpa using d1) w) (by rw [g0, g1]; simp only [formN, c1, if_false]; rw [if_pos (by omega)]; rw [if_pos (by omega)])
  obtain ⟨R1, h1R⟩ : ∃ R : Nat, R = (s[i].toNat % 32) * 64 + s[i + 1].toNat % 64 := ⟨_, rfl⟩
  have o1 := or32 (s[i].toNat % 32) (s[i + 1].toNat % 64) (by omega) (by omega)
  rw [← h1R] at o1
  exact Calls_form (form_ok2 s i hs (by omega) k1 k2 (by rw [a1]; simpa using d1) ((s[i + 1].toNat % 64 : Nat) : Int) (R1 : Int) (and63 _ l1) (by simpa using o1) (by omega) (by omega)  w) (by rw [g0, g1]; simp only [formN, c1, if_false]; rw [if_pos (by omega)]; rw [if_neg (by omega)]; apply Prod.ext <;> simp only <;> omega)
set_option maxHeartbeats 1000000 in
theorem form_k3 (s : ByteArray) (i : Nat) (hs : s.size ≤ 281474976710656) (hi : i < s.size) (k1 : 224 ≤ s[i].toNat) (k2 : s[i].toNat ≤ 239) (w : World) :
    Calls Tryz.prog 163 #[.string s, .int .i64 i] w fun e w' => e = .returned (formV s i) ∧ w = w' := by
  have g0 := get_eq s i hi
  have l0 := UInt8.toNat_lt (s[i])
  have c1 : ¬ s[i].toNat < 128 := by omega
  by_cases h2 : s.size < i + 3
  · exact Calls_form (form_s3 s i hs hi k1 k2 (by omega) w) (by rw [g0]; simp only [formN, c1, if_false]; rw [if_neg (by omega), if_pos (by omega)]; rw [if_pos (Or.inl (by omega))])
  have g1 := get_eq s (i + 1) (by omega)
  have a1 := and192 _ (UInt8.toNat_lt (s[i + 1]))
  have l1 := UInt8.toNat_lt (s[i + 1])
  have g2 := get_eq s (i + 2) (by omega)
  have a2 := and192 _ (UInt8.toNat_lt (s[i + 2]))
  have l2 := UInt8.toNat_lt (s[i + 2])
  by_cases d1 : s[i + 1].toNat / 64 = 2
  case neg => exact Calls_form (form_c31 s i hs (by omega) k1 k2  (by rw [a1]; simpa using d1) w) (by rw [g0, g1, g2]; simp only [formN, c1, if_false]; rw [if_neg (by omega), if_pos (by omega)]; rw [if_pos (by omega)])
  by_cases d2 : s[i + 2].toNat / 64 = 2
  case neg => exact Calls_form (form_c32 s i hs (by omega) k1 k2 (by rw [a1]; simpa using d1) (by rw [a2]; simpa using d2) w) (by rw [g0, g1, g2]; simp only [formN, c1, if_false]; rw [if_neg (by omega), if_pos (by omega)]; rw [if_pos (by omega)])
  obtain ⟨R1, h1R⟩ : ∃ R : Nat, R = (s[i].toNat % 16) * 64 + s[i + 1].toNat % 64 := ⟨_, rfl⟩
  have o1 := or32 (s[i].toNat % 16) (s[i + 1].toNat % 64) (by omega) (by omega)
  rw [← h1R] at o1
  obtain ⟨R2, h2R⟩ : ∃ R : Nat, R = R1 * 64 + s[i + 2].toNat % 64 := ⟨_, rfl⟩
  have o2 := or32 R1 (s[i + 2].toNat % 64) (by omega) (by omega)
  rw [← h2R] at o2
  by_cases t1 : R2 < 2048
  · exact Calls_form (form_lo3 s i hs (by omega) k1 k2 (by rw [a1]; simpa using d1) (by rw [a2]; simpa using d2) ((s[i + 1].toNat % 64 : Nat) : Int) (R1 : Int) (and63 _ l1) (by simpa using o1) (by omega) (by omega) ((s[i + 2].toNat % 64 : Nat) : Int) (R2 : Int) (and63 _ l2) o2 (by omega) (by omega) (by omega) w) (by rw [g0, g1, g2]; simp only [formN, c1, if_false]; rw [if_neg (by omega), if_pos (by omega)]; rw [if_pos (by omega)])
  by_cases t2 : R2 < 55296
  · exact Calls_form (form_ok3 s i hs (by omega) k1 k2 (by rw [a1]; simpa using d1) (by rw [a2]; simpa using d2) ((s[i + 1].toNat % 64 : Nat) : Int) (R1 : Int) (and63 _ l1) (by simpa using o1) (by omega) (by omega) ((s[i + 2].toNat % 64 : Nat) : Int) (R2 : Int) (and63 _ l2) o2 (by omega) (by omega) (by omega) (by omega) w) (by rw [g0, g1, g2]; simp only [formN, c1, if_false]; rw [if_neg (by omega), if_pos (by omega)]; rw [if_neg (by omega)]; apply Prod.ext <;> simp only <;> omega)
  by_cases t3 : R2 ≤ 57343
  · exact Calls_form (form_su3 s i hs (by omega) k1 k2 (by rw [a1]; simpa using d1) (by rw [a2]; simpa using d2) ((s[i + 1].toNat % 64 : Nat) : Int) (R1 : Int) (and63 _ l1) (by simpa using o1) (by omega) (by omega) ((s[i + 2].toNat % 64 : Nat) : Int) (R2 : Int) (and63 _ l2) o2 (by omega) (by omega) (by omega) (by omega) w) (by rw [g0, g1, g2]; simp only [formN, c1, if_false]; rw [if_neg (by omega), if_pos (by omega)]; rw [if_pos (by omega)])
  exact Calls_form (form_ok3h s i hs (by omega) k1 k2 (by rw [a1]; simpa using d1) (by rw [a2]; simpa using d2) ((s[i + 1].toNat % 64 : Nat) : Int) (R1 : Int) (and63 _ l1) (by simpa using o1) (by omega) (by omega) ((s[i + 2].toNat % 64 : Nat) : Int) (R2 : Int) (and63 _ l2) o2 (by omega) (by omega) (by omega) (by omega) w) (by rw [g0, g1, g2]; simp only [formN, c1, if_false]; rw [if_neg (by omega), if_pos (by omega)]; rw [if_neg (by omega)]; apply Prod.ext <;> simp only <;> omega)
set_option maxHeartbeats 1000000 in
theorem form_k4 (s : ByteArray) (i : Nat) (hs : s.size ≤ 281474976710656) (hi : i < s.size) (k1 : 240 ≤ s[i].toNat) (k2 : s[i].toNat ≤ 244) (w : World) :
    Calls Tryz.prog 163 #[.string s, .int .i64 i] w fun e w' => e = .returned (formV s i) ∧ w = w' := by
  have g0 := get_eq s i hi
  have l0 := UInt8.toNat_lt (s[i])
  have c1 : ¬ s[i].toNat < 128 := by omega
  by_cases h2 : s.size < i + 4
  · exact Calls_form (form_s4 s i hs hi k1 k2 (by omega) w) (by rw [g0]; simp only [formN, c1, if_false]; rw [if_neg (by omega), if_neg (by omega), if_pos (by omega)]; rw [if_pos (Or.inl (by omega))])
  have g1 := get_eq s (i + 1) (by omega)
  have a1 := and192 _ (UInt8.toNat_lt (s[i + 1]))
  have l1 := UInt8.toNat_lt (s[i + 1])
  have g2 := get_eq s (i + 2) (by omega)
  have a2 := and192 _ (UInt8.toNat_lt (s[i + 2]))
  have l2 := UInt8.toNat_lt (s[i + 2])
  have g3 := get_eq s (i + 3) (by omega)
  have a3 := and192 _ (UInt8.toNat_lt (s[i + 3]))
  have l3 := UInt8.toNat_lt (s[i + 3])
  by_cases d1 : s[i + 1].toNat / 64 = 2
  case neg => exact Calls_form (form_c41 s i hs (by omega) k1 k2  (by rw [a1]; simpa using d1) w) (by rw [g0, g1, g2, g3]; simp only [formN, c1, if_false]; rw [if_neg (by omega), if_neg (by omega), if_pos (by omega)]; rw [if_pos (by omega)])
  by_cases d2 : s[i + 2].toNat / 64 = 2
  case neg => exact Calls_form (form_c42 s i hs (by omega) k1 k2 (by rw [a1]; simpa using d1) (by rw [a2]; simpa using d2) w) (by rw [g0, g1, g2, g3]; simp only [formN, c1, if_false]; rw [if_neg (by omega), if_neg (by omega), if_pos (by omega)]; rw [if_pos (by omega)])
  by_cases d3 : s[i + 3].toNat / 64 = 2
  case neg => exact Calls_form (form_c43 s i hs (by omega) k1 k2 (by rw [a1]; simpa using d1) (by rw [a2]; simpa using d2) (by rw [a3]; simpa using d3) w) (by rw [g0, g1, g2, g3]; simp only [formN, c1, if_false]; rw [if_neg (by omega), if_neg (by omega), if_pos (by omega)]; rw [if_pos (by omega)])
  obtain ⟨R1, h1R⟩ : ∃ R : Nat, R = (s[i].toNat % 8) * 64 + s[i + 1].toNat % 64 := ⟨_, rfl⟩
  have o1 := or32 (s[i].toNat % 8) (s[i + 1].toNat % 64) (by omega) (by omega)
  rw [← h1R] at o1
  obtain ⟨R2, h2R⟩ : ∃ R : Nat, R = R1 * 64 + s[i + 2].toNat % 64 := ⟨_, rfl⟩
  have o2 := or32 R1 (s[i + 2].toNat % 64) (by omega) (by omega)
  rw [← h2R] at o2
  obtain ⟨R3, h3R⟩ : ∃ R : Nat, R = R2 * 64 + s[i + 3].toNat % 64 := ⟨_, rfl⟩
  have o3 := or32 R2 (s[i + 3].toNat % 64) (by omega) (by omega)
  rw [← h3R] at o3
  by_cases t1 : R3 < 65536
  · exact Calls_form (form_lo4 s i hs (by omega) k1 k2 (by rw [a1]; simpa using d1) (by rw [a2]; simpa using d2) (by rw [a3]; simpa using d3) ((s[i + 1].toNat % 64 : Nat) : Int) (R1 : Int) (and63 _ l1) (by simpa using o1) (by omega) (by omega) ((s[i + 2].toNat % 64 : Nat) : Int) (R2 : Int) (and63 _ l2) o2 (by omega) (by omega) ((s[i + 3].toNat % 64 : Nat) : Int) (R3 : Int) (and63 _ l3) o3 (by omega) (by omega) (by omega) w) (by rw [g0, g1, g2, g3]; simp only [formN, c1, if_false]; rw [if_neg (by omega), if_neg (by omega), if_pos (by omega)]; rw [if_pos (by omega)])
  by_cases t2 : 1114111 < R3
  · exact Calls_form (form_hi4 s i hs (by omega) k1 k2 (by rw [a1]; simpa using d1) (by rw [a2]; simpa using d2) (by rw [a3]; simpa using d3) ((s[i + 1].toNat % 64 : Nat) : Int) (R1 : Int) (and63 _ l1) (by simpa using o1) (by omega) (by omega) ((s[i + 2].toNat % 64 : Nat) : Int) (R2 : Int) (and63 _ l2) o2 (by omega) (by omega) ((s[i + 3].toNat % 64 : Nat) : Int) (R3 : Int) (and63 _ l3) o3 (by omega) (by omega) (by omega) w) (by rw [g0, g1, g2, g3]; simp only [formN, c1, if_false]; rw [if_neg (by omega), if_neg (by omega), if_pos (by omega)]; rw [if_pos (by omega)])
  exact Calls_form (form_ok4 s i hs (by omega) k1 k2 (by rw [a1]; simpa using d1) (by rw [a2]; simpa using d2) (by rw [a3]; simpa using d3) ((s[i + 1].toNat % 64 : Nat) : Int) (R1 : Int) (and63 _ l1) (by simpa using o1) (by omega) (by omega) ((s[i + 2].toNat % 64 : Nat) : Int) (R2 : Int) (and63 _ l2) o2 (by omega) (by omega) ((s[i + 3].toNat % 64 : Nat) : Int) (R3 : Int) (and63 _ l3) o3 (by omega) (by omega) (by omega) (by omega) w) (by rw [g0, g1, g2, g3]; simp only [formN, c1, if_false]; rw [if_neg (by omega), if_neg (by omega), if_pos (by omega)]; rw [if_neg (by omega)]; apply Prod.ext <;> simp only <;> omega)
theorem form_any (s : ByteArray) (i : Nat) (hs : s.size ≤ 281474976710656) (hi : i < s.size) (w : World) :
    Calls Tryz.prog 163 #[.string s, .int .i64 i] w fun e w' => e = .returned (formV s i) ∧ w = w' := by
  have g0 := get_eq s i hi
  have l0 := UInt8.toNat_lt (s[i])
  by_cases c1 : s[i].toNat < 128
  · exact Calls_form (form_ascii s i hs hi c1 w) (by rw [g0]; simp only [formN, c1, if_true])
  by_cases c2 : s[i].toNat < 194
  · exact Calls_form (form_low s i hs hi (by omega) c2 w) (by rw [g0]; simp only [formN, c1, if_false]; rw [if_neg (by omega), if_neg (by omega), if_neg (by omega)])
  by_cases c3 : 245 ≤ s[i].toNat
  · exact Calls_form (form_high s i hs hi c3 w) (by rw [g0]; simp only [formN, c1, if_false]; rw [if_neg (by omega), if_neg (by omega), if_neg (by omega)])
  by_cases k2 : s[i].toNat ≤ 223
  · exact form_k2 s i hs hi (by omega) k2 w
  by_cases k3 : s[i].toNat ≤ 239
  · exact form_k3 s i hs hi (by omega) k3 w
  exact form_k4 s i hs hi (by omega) (by omega) w
def brkI (s : ByteArray) : Int := match brk s 0 with | some k => (k : Int) | none => -1
theorem brkI_some {s : ByteArray} {k : Nat} (h : brk s 0 = some k) : brkI s = k := by unfold brkI; rw [h]
theorem brkI_none {s : ByteArray} (h : brk s 0 = none) : brkI s = -1 := by unfold brkI; rw [h]
theorem broken_any (s : ByteArray) (hs : s.size ≤ 281474976710656) (w : World) :
    Calls Tryz.prog 118 #[.string s] w fun e w' => e = .returned (.int .i64 (brkI s)) ∧ w = w' := by
  go_enter Tryz.func118, Tryz.ntmps118
  go_wp2_with fail
  go_loop [3] (fun u => ∃ pos : Nat, u = .int .i64 pos ∧ pos ≤ s.size ∧ brk s 0 = brk s pos) (fun u => s.size - (intOf u).toNat)
  case atStart => exact ⟨0, rfl, by omega, rfl⟩
  case round =>
    obtain ⟨pos, rfl, hp, hb⟩ := hrel
    have HB := Lib.hid hb
    clear hb
    by_cases h : pos < s.size
    · have w1 := w1 s pos
      have w2 := wIn s pos h
      have HF := form_any s pos hs h w
      unfold formV at HF
      by_cases hb : bad s pos = true
      · rw [if_pos hb] at HF
        have E := Lib.hid (HB.out.trans (brk_bad s pos h hb))
        clear hb
        go_wp2_with (go_at_call 163; refine HF.mono ?_; rintro e w' ⟨rfl, rfl⟩)
        go_ret
        exact ⟨by rw [brkI_some E.out]; rfl, rfl⟩
      · rw [if_neg hb] at HF
        have E := Lib.hid (HB.out.trans (brk_step s pos h (by simpa using hb)))
        clear hb
        go_wp2_with (go_at_call 163; refine HF.mono ?_; rintro e w' ⟨rfl, rfl⟩)
        go_round
        case rel => exact ⟨pos + (Utf8.decode s pos).2, by go_num, w2, E.out⟩
        case measure => simp [intOf]; omega
    · have E := Lib.hid (HB.out.trans (brk_end s pos h))
      go_wp2_with fail
      go_ret
      exact ⟨by rw [brkI_none E.out]; rfl, rfl⟩
theorem right_any (s : ByteArray) (hs : s.size ≤ 281474976710656) (b : Bool) (hb : (brk s 0).isNone = b) (w : World) :
    Calls Tryz.prog 64 #[.string s] w fun e w' => e = .returned (.bool b) ∧ w = w' := by
  have HF := broken_any s hs w
  cases h : brk s 0 with
  | none =>
    rw [brkI_none h] at HF
    rw [h] at hb
    subst hb
    clear h
    go_enter Tryz.func64, Tryz.ntmps64
    go_wp2_with (go_at_call 118; refine HF.mono ?_; rintro e w' ⟨rfl, rfl⟩)
    go_ret
    exact ⟨rfl, rfl⟩
  | some k =>
    rw [brkI_some h] at HF
    rw [h] at hb
    subst hb
    clear h
    go_enter Tryz.func64, Tryz.ntmps64
    go_wp2_with (go_at_call 118; refine HF.mono ?_; rintro e w' ⟨rfl, rfl⟩)
    go_ret
    exact ⟨ret_bool (by simp), rfl⟩
end Go.Proofs.YtjmebclcmpfdmaaGreatDoor
