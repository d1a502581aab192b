/-
  Words for the laws of lists: what told hands back reads as what is said; the law's steps up to the list. No condition.
  Words that the laws of lists share: the layer wakes; what they see; what a list comes to. No condition.
  A slice of what is said, a list and its style among the arguments: what they read as, and that they are handed back as they came. Condition: they lie in memory.
  What the rows of the laws of lists share: the listed variables, a way to the contract that keeps the world's shape. No condition.
-/
import Derived.Test.YtpcgcghhddnifaaGreatDoorGe
import Derived.Test.YtpcgcghhddnifaaGreatDoorGg
import Derived.Test.YtpcgcghhddnifaaGreatDoorGf
import Derived.Test.YtpcgcghhddnifaaGreatDoorNn
import Derived.Test.YtpcgcghhddnifaaGreatDoorGd
import Derived.Test.YtpcgcghhddnifaaGreatDoorGb
import Derived.Deep.Strs
import Derived.SliceStrings
import Derived.ProofKit
import Derived.LaidMore
import Derived.LaidLaws
import Derived.OpenShut
import Derived.Lib.SmallJoins
import Derived.SizedLaws
import Derived.WideKeyArgs
import Derived.Test.YtpcgcghhddnifaaGreatDoorRows
import Derived.WalkKit
import Derived.HandedShaped
import Derived.Lay
set_option linter.unusedVariables false
set_option linter.unusedSimpArgs false
namespace Go.Proofs.YtpcgcghhddnifaaGreatDoor
open Go.RowKit
open Ph
theorem Saids.of_own {w : World} {base : Nat} {v : Value} {l : List Sd} (h : w.ownsRow base 67 3 v l.length (scells l)) : ∃ A c, v = .slice A l.length c ∧ Saids w w.heap.size A l := by
  rcases Nat.eq_zero_or_pos l.length with z | z
  · rcases h.2 with ⟨rfl, _⟩ | ⟨g, cap, cur, rfl, _⟩
    · exact ⟨none, 0, by rw [z], fun hl => by omega⟩
    · exact ⟨_, _, rfl, fun hl => by omega⟩
  · obtain ⟨g, cap, rfl, _, hlt⟩ := h.form z
    exact ⟨_, _, rfl, (Reads.of_own h).2⟩
theorem toldN_mem {L : List Sd} : ∀ i, ∀ x ∈ toldN L i, x ∈ L ∧ x.text.size ≤ 16384
  | 0, x, hx => by cases hx
  | i + 1, x, hx => by
    unfold toldN at hx
    split at hx
    · rename_i y hy
      split at hx
      · rename_i hk
        rcases List.mem_append.1 hx with hx | hx
        · exact toldN_mem i x hx
        · obtain rfl : x = y := by simpa using hx
          refine ⟨List.mem_of_getElem? hy, ?_⟩
          unfold keepB at hk
          simp only [Bool.and_eq_true, decide_eq_true_eq] at hk
          exact hk.2.2
      · exact toldN_mem i x hx
    · exact toldN_mem i x hx
theorem toldL_text {L : List Sd} : ∀ x ∈ toldL L, x.text.size ≤ 281474976710656 := fun x hx => Nat.le_trans (toldN_mem _ x hx).2 (by decide)
theorem toldL_len (L : List Sd) : (toldL L).length ≤ L.length := toldN_len L _
def tcells (xs : List ByteArray) : List Value := xs.map .string
def tilde : ByteArray := ⟨#[126]⟩
theorem infoStr : (Tryz.prog.info? 9).map (fun i => (i.zero, i.size, i.bytes)) = some (some (.string ⟨#[]⟩), 1, 16) := by kernel_rfl
theorem tcells_one (xs : List ByteArray) : ∀ u ∈ tcells xs, u.oneCell' = true := by
  intro u hu
  obtain ⟨x, _, rfl⟩ := List.mem_map.1 hu
  rfl
theorem Texts.cells {w : World} {B : Nat} {A : Option Addr} {xs : List ByteArray} (h : Texts w B A xs) : ∀ ad, A = some ad → ∀ j u, (tcells xs)[j]? = some u → w.cell? (ad.add j) = some u := by
  intro ad e j u hu
  have hj : j < xs.length := by
    have := (List.getElem?_eq_some_iff.1 hu).1
    simpa [tcells] using this
  obtain ⟨ad', e', _, hc⟩ := h (by omega)
  rw [e] at e'
  cases e'
  rw [hc j hj]
  have : (tcells xs)[j]? = some (.string xs[j]) := by simp [tcells, hj]
  rw [← hu, this]
theorem Texts.grown {w w' : World} {B : Nat} {A : Option Addr} {xs : List ByteArray} (h : Texts w B A xs) {row : Option Nat} (hg : w.grownBy w' row) (hB : B ≤ w.heap.size) (hr : ∀ k, row = some k → B ≤ k) : Texts w' B A xs :=
  h.below ((Below.refl B w).grown hg hB hr)
theorem Texts.of_own {w : World} {base : Nat} {g c : Nat} {xs ys : List ByteArray} (h : w.ownsRow base 9 1 (.slice (some ⟨g, 0, none⟩) (xs ++ ys).length c) (xs ++ ys).length (tcells (xs ++ ys))) : Texts w w.heap.size (some ⟨g, 0, none⟩) xs := fun hn => by
  have hl : 0 < (xs ++ ys).length := by simp; omega
  refine ⟨⟨g, 0, none⟩, rfl, (h.lt g rfl).2, fun j hj => ?_⟩
  have := h.cells (g := g) rfl j (.string xs[j]) (by simp [tcells, List.getElem?_append_left, hj])
  exact this
theorem reads_new1c (w : World) (a : Value) (t : TypeId) : ∀ j u, [a][j]? = some u → (w.alloc (.cells #[a] t)).cell? ((⟨w.heap.size, 0, none⟩ : Addr).add j) = some u := by
  obtain ⟨ad, e, _, hc⟩ := (reads_new1 w a t).2 (by omega)
  cases e
  exact hc
end Go.Proofs.YtpcgcghhddnifaaGreatDoor
namespace Go.Proofs.YtpcgcghhddnifaaGreatDoor
open Go.RowKit Go.Vx
open Ph
theorem wakes_any {w : World} (hg : Glob w) : Calls Tryz.prog 8 #[] w fun e w' => e = .returned (.bool true) ∧ Below w.heap.size w w' := by
  obtain ⟨te, pe, h0⟩ := hg.g0
  exact wakes_told (renOf [.iface te pe] (by simp [isCell])) w (laid_of hg _ h0) (fun _ _ => rfl)
theorem Glob.below {w w1 : World} {B : Nat} (h : Glob w) (hb : Below B w w1) (h1 : 5 < B) : Glob w1 := by
  obtain ⟨⟨t1, p1, e1⟩, e, fz, cs, h2, h3⟩ := h
  exact ⟨⟨t1, p1, (hb.cell (p := ⟨1, 0, none⟩) (by show 1 < B; omega)).trans e1⟩, e, fz, cs, (hb.block 5 h1).trans h2, h3⟩
theorem Glob.size {w : World} (h : Glob w) : 5 < w.heap.size := by
  obtain ⟨_, e, fz, cs, h2, _⟩ := h
  exact (Array.getElem?_eq_some_iff.1 h2).1
/-- what a law of lists sees after the source is told: the list, the source, what is said -/
structure Lw (w : World) (B : Nat) (AA : Option Addr) (xs : List ByteArray) (cc : Nat) (st : ByteArray) (H2 : Nat) (A2 : Option Addr) (L2 : List Sd) (c2 : Nat) (W : World) : Prop where
  bw : Below w.heap.size w W
  bq : Blk W w.heap.size 25 #[.slice AA xs.length cc, .string st]
  bs : Blk W H2 28 #[.slice A2 L2.length c2]
  sd : Saids W H2 A2 L2
  tx : Texts W B AA xs
section
variable {w : World} {B : Nat} {AA : Option Addr} {xs : List ByteArray} {cc : Nat} {st : ByteArray} {H2 : Nat} {A2 : Option Addr} {L2 : List Sd} {c2 : Nat} {W W' : World}
theorem Lw.call (h : Lw w B AA xs cc st H2 A2 L2 c2 W) (hb : Below W.heap.size W W') (hB : B ≤ w.heap.size) : Lw w B AA xs cc st H2 A2 L2 c2 W' :=
  ⟨h.bw.trans (hb.mono h.bw.size), h.bq.below hb h.bq.lt, h.bs.below hb h.bs.lt, h.sd.below (hb.mono (Nat.le_of_lt h.bs.lt)), h.tx.below (hb.mono (Nat.le_trans hB h.bw.size))⟩
theorem Lw.alloc (h : Lw w B AA xs cc st H2 A2 L2 c2 W) (hB : B ≤ w.heap.size) (o : Obj) : Lw w B AA xs cc st H2 A2 L2 c2 (W.alloc o) := h.call ((Below.refl _ _).alloc (Nat.le_refl _) o) hB
theorem Lw.grown (h : Lw w B AA xs cc st H2 A2 L2 c2 W) (hB : B ≤ w.heap.size) {row : Option Nat} (hg : W.grownBy W' row) (hlt : w.heap.size ≤ H2) (hr : ∀ k, row = some k → H2 < k) : Lw w B AA xs cc st H2 A2 L2 c2 W' := by
  have hb : Below (H2 + 1) W W' := (Below.refl _ W).grown hg h.bs.lt (fun k e => hr k e)
  exact ⟨h.bw.trans (hb.mono (by omega)), h.bq.below hb (by omega), h.bs.below hb (by omega), h.sd.below (hb.mono (by omega)), h.tx.below (hb.mono (by omega))⟩
end
theorem Saids.alloc' {w : World} {A : Option Addr} {l : List Sd} (h : Saids w w.heap.size A l) (o : Obj) : Saids (w.alloc o) w.heap.size A l := h.below ((Below.refl _ _).alloc (Nat.le_refl _) o)
theorem Lw.drew {w : World} {B : Nat} {AA : Option Addr} {xs : List ByteArray} {cc : Nat} {st : ByteArray} {H2 : Nat} {A2 : Option Addr} {L2 : List Sd} {c2 : Nat} {W : World} (h : Lw w B AA xs cc st H2 A2 L2 c2 W) (hB : B ≤ w.heap.size) : Lw w B AA xs cc st H2 A2 L2 c2 W.drew := h.call (blw_drew (Below.refl _ _)) hB
theorem drew_le (w : World) (o : Obj) : w.heap.size + 1 ≤ (w.alloc o).drew.heap.size := by show _ ≤ (w.alloc o).heap.size; simp
theorem listV_err {L : List Sd} {loc st : ByteArray} {xs : List ByteArray} (h : (listV L loc st xs).2 ≠ 0) : (listV L loc st xs).1 = ⟨#[]⟩ := by
  unfold listV at h ⊢
  by_cases a : isNameB st = true
  · rw [if_pos a] at h ⊢
    by_cases b : 1024 < xs.length
    · rw [if_pos b]
    · rw [if_neg b] at h ⊢
      by_cases d : xs.any wrongU = true
      · rw [if_pos d]
      · rw [if_neg d] at h ⊢
        exact listP_err h
  · rw [if_neg a]
theorem listV_ok {L : List Sd} {loc st : ByteArray} {xs : List ByteArray} {r : ByteArray} (h : listV L loc st xs = (r, 0)) : isNameB st = true ∧ xs.length ≤ 1024 ∧ xs.any wrongU = false ∧ listL L loc st xs = (r, 0) := by
  unfold listV at h
  by_cases a : isNameB st = true
  · rw [if_pos a] at h
    by_cases b : 1024 < xs.length
    · rw [if_pos b] at h; cases h
    · rw [if_neg b] at h
      by_cases d : xs.any wrongU = true
      · rw [if_pos d] at h; cases h
      · rw [if_neg d] at h
        exact ⟨a, by omega, by simpa using d, h⟩
  · rw [if_neg a] at h; cases h
theorem listP_size {two st mid ed : ByteArray} {xs : List ByteArray} {r : ByteArray} (h : listP two st mid ed xs = (r, 0)) : r.size ≤ 262144 := by
  unfold listP at h
  by_cases c0 : xs.length = 0
  · rw [if_pos c0] at h; cases h; exact Nat.zero_le _
  rw [if_neg c0] at h
  by_cases c1 : xs.length = 1
  · rw [if_pos c1] at h
    by_cases g : 262144 < (getT xs 0).size
    · rw [if_pos g] at h; cases h
    · rw [if_neg g] at h; cases h; omega
  rw [if_neg c1] at h
  by_cases c2 : xs.length = 2
  · rw [if_pos c2] at h
    have := fillT_le two [getT xs 0, getT xs 1]
    rw [h] at this; exact this
  rw [if_neg c2] at h
  by_cases g : (accT ed mid xs (xs.length - 3)).2 = 0
  · rw [if_pos g] at h
    have := fillT_le st [getT xs 0, (accT ed mid xs (xs.length - 3)).1]
    rw [h] at this; exact this
  · rw [if_neg g] at h
    exact absurd (congrArg Prod.snd h) g
end Go.Proofs.YtpcgcghhddnifaaGreatDoor
namespace Go.Proofs.YtpcgcghhddnifaaGreatDoor
open Go.ChangeShapes Go.WideShapes Go.ChangeAt Go.RowKit Go.ChangeMaps
open Ph
open Go.Deep
theorem weights_all {H : Type} {P : Program} {e : TypeId} {d : DataW H} : ∀ {l : List (DataW H)}, d ∈ l → ∀ n ∈ d.weights P e, n ∈ DataW.weightsAll P e l
  | [], h, _, _ => by cases h
  | x :: r, h, n, hn => by
    rw [DataW.weightsAll, List.mem_append]
    rcases List.mem_cons.1 h with rfl | h
    · exact Or.inl hn
    · exact Or.inr (weights_all h n hn)
theorem cell_block {w : World} {a : Addr} {v : Value} (h : w.cell? a = some v) : a.block < w.heap.size := by
  rcases Nat.lt_or_ge a.block w.heap.size with g | g
  · exact g
  · unfold World.cell? at h
    rw [Array.getElem?_eq_none g] at h
    simp at h
theorem cellsStr : Tryz.prog.cellsOf 9 = 1 := by kernel_rfl
theorem bytesStr : Tryz.prog.bytesOf 9 = 16 := by kernel_rfl
theorem cellsSaid : Tryz.prog.cellsOf 67 = 3 := by kernel_rfl
theorem bytesSaid : Tryz.prog.bytesOf 67 = 48 := by kernel_rfl
theorem cellsListed : Tryz.prog.cellsOf 25 = 2 := by kernel_rfl
def sdD {H : Type} (p : Sd) : DataW H := .agg [.lit (.string p.loc.data.toList), .lit (.string p.path.data.toList), .lit (.string p.text.data.toList)]
theorem open_sd {H : Type} {enc : TypeId × Value → H} {W : World} {base : Nat} {spare : Nat → Bool} {held : Bool} {fuel : Nat} {a : Addr} {cs : List Value} {x : DataW H × List MemPlace} (hc : W.cells? base a 3 = some cs) (h : DataW.trod enc Tryz.prog W base spare held fuel 67 cs = some x) :
    ∃ p : Sd, (W.cell? a = some (.string p.loc) ∧ W.cell? (a.add 1) = some (.string p.path) ∧ W.cell? (a.add 2) = some (.string p.text)) ∧ x.1 = sdD p := by
  obtain ⟨_, hlen, hcell⟩ := World.cells?_some hc
  obtain ⟨y0, y1, y2, n, rfl, _, g0, g1, g2⟩ := trod_struct3 Tryz.underlying67 h
  simp only [cellsStr] at g0 g1 g2
  match cs, hlen with
  | [v0, v1, v2], _ =>
    have e0 := hcell 0 (by omega)
    have e1 := hcell 1 (by omega)
    have e2 := hcell 2 (by omega)
    obtain ⟨k, q0, r0, _⟩ := DataW.trod_string Tryz.underlying9 g0
    obtain ⟨s, q1, r1, _⟩ := DataW.trod_string Tryz.underlying9 g1
    obtain ⟨m, q2, r2, _⟩ := DataW.trod_string Tryz.underlying9 g2
    simp at q0 q1 q2
    subst q0 q1 q2 r0 r1 r2
    exact ⟨⟨k, s, m⟩, ⟨by simpa [Addr.add] using e0, by simpa using e1, by simpa using e2⟩, rfl⟩
theorem scells_at {l : List Sd} {i : Nat} (hi : i < l.length) : ∀ d u, d < 3 → (scells l)[i * 3 + d]? = some u → u = (match d with | 0 => .string l[i].loc | 1 => .string l[i].path | _ => .string l[i].text) := by
  obtain ⟨h0, h1, h2⟩ := scells_get l i hi
  intro d u hd hu
  match d, hd with
  | 0, _ => rw [Nat.add_zero, h0] at hu; exact (Option.some.inj hu).symm
  | 1, _ => rw [h1] at hu; exact (Option.some.inj hu).symm
  | 2, _ => rw [h2] at hu; exact (Option.some.inj hu).symm
set_option maxRecDepth 100000 in
theorem open_saids {H : Type} {enc : TypeId × Value → H} {W : World} {base : Nat} {v : Value} {d : DataW H} {p : List MemPlace} (h : DataW.Trod enc Tryz.prog W 0 (fun _ => true) true 22 v d p) (hok : Value.okWide Tryz.prog W .any base 22 v) :
    ∃ A l cc, v = .slice A l.length cc ∧ Saids W W.heap.size A l ∧ l.length ≤ cc ∧ ∀ R, (∀ n ∈ d.weights Tryz.prog 22, n ≤ R) → (∀ x ∈ l, x.text.size ≤ R) ∧ l.length * 48 ≤ R := by
  obtain ⟨a0, len, cap, rfl⟩ := okWide_slice Tryz.underlying22 hok
  obtain ⟨fuel, hf⟩ := h
  rcases open_slice Tryz.underlying22 hf with ⟨hcs, hx⟩ | ⟨a, len', cap', m, n, D, Pl, hcs, _, hl, hm, hmm, hx, hcell⟩
  · cases hcs
    exact ⟨none, [], 0, rfl, fun h => absurd h (by simp), Nat.le_refl _, fun R _ => ⟨fun x hx => (by cases hx), Nat.zero_le _⟩⟩
  · cases hcs
    simp only [if_true] at hmm
    have each : ∀ i, i < len → ∃ q : Sd, (W.cell? (a.add (i * 3)) = some (.string q.loc) ∧ W.cell? ((a.add (i * 3)).add 1) = some (.string q.path) ∧ W.cell? ((a.add (i * 3)).add 2) = some (.string q.text)) ∧ D i = sdD q := fun i hi => by
      obtain ⟨cs', h1, h2⟩ := hcell i (by omega)
      rw [cellsSaid] at h1
      obtain ⟨q, hq, e⟩ := open_sd h1 h2
      exact ⟨q, hq, e⟩
    obtain ⟨l, hll, hq⟩ : ∃ l : List Sd, l.length = len ∧ ∀ i (hi : i < l.length), (W.cell? (a.add (i * 3)) = some (.string l[i].loc) ∧ W.cell? ((a.add (i * 3)).add 1) = some (.string l[i].path) ∧ W.cell? ((a.add (i * 3)).add 2) = some (.string l[i].text)) ∧ D i = sdD l[i] := by
      clear hx hcell hf
      have gen : ∀ k, k ≤ len → ∃ l : List Sd, l.length = k ∧ ∀ i (hi : i < l.length), (W.cell? (a.add (i * 3)) = some (.string l[i].loc) ∧ W.cell? ((a.add (i * 3)).add 1) = some (.string l[i].path) ∧ W.cell? ((a.add (i * 3)).add 2) = some (.string l[i].text)) ∧ D i = sdD l[i] := by
        intro k
        induction k with
        | zero => exact fun _ => ⟨[], rfl, fun i hi => absurd hi (by simp)⟩
        | succ k ih =>
          intro hk
          obtain ⟨l, h1, h2⟩ := ih (by omega)
          obtain ⟨q, hq⟩ := each k (by omega)
          refine ⟨l ++ [q], by simp [h1], fun i hi => ?_⟩
          rw [List.length_append, List.length_singleton] at hi
          rcases Nat.lt_or_ge i l.length with g | g
          · rw [List.getElem_append_left g]; exact h2 i g
          · obtain rfl : i = k := by omega
            rw [List.getElem_append_right g]
            simpa [h1] using hq
      exact gen len (Nat.le_refl _)
    refine ⟨some a, l, cap, by rw [hll], fun h => ⟨a, rfl, ?_, fun j u hu => ?_⟩, by omega, fun R hR => ?_⟩
    · have := cell_block (hq 0 h).1.1
      rw [block_of_add] at this
      exact this
    · have hj : j < l.length * 3 := by
        have := (List.getElem?_eq_some_iff.1 hu).1
        rw [scells_len] at this
        exact this
      have hi : j / 3 < l.length := by omega
      have hd : j % 3 < 3 := Nat.mod_lt _ (by omega)
      have ej : j = j / 3 * 3 + j % 3 := by omega
      obtain ⟨⟨q0, q1, q2⟩, _⟩ := hq _ hi
      rw [add_of_add] at q1 q2
      rw [ej] at hu ⊢
      have := scells_at hi (j % 3) u hd hu
      rw [this]
      rcases (show j % 3 = 0 ∨ j % 3 = 1 ∨ j % 3 = 2 by omega) with e | e | e <;> rw [e]
      · exact q0
      · exact q1
      · exact q2
    · injection hx with hd hp
      subst hd
      have h2 : ((((List.range len).map D).length + ((List.range (m - len)).map fun j => D (len + j)).length) * Tryz.prog.bytesOf 67) ≤ R := hR _ (by simp only [DataW.weights, Tryz.underlying22, List.mem_cons]; exact Or.inl trivial)
      have hw : ∀ n ∈ DataW.weightsAll Tryz.prog 67 ((List.range len).map D), n ≤ R := fun n hn => hR n (by simp only [DataW.weights, Tryz.underlying22, List.mem_cons, List.mem_append]; exact Or.inr (Or.inl hn))
      refine ⟨fun x hx => ?_, ?_⟩
      · obtain ⟨i, hi, rfl⟩ := List.getElem_of_mem hx
        have hDm : D i ∈ (List.range len).map D := List.mem_map.2 ⟨i, List.mem_range.2 (by omega), rfl⟩
        refine hw _ (weights_all hDm _ ?_)
        rw [(hq i hi).2]
        simp only [sdD, DataW.weights, Tryz.underlying67, DataW.weightsEach, List.map_cons, List.map_nil, List.nil_append, List.append_nil, List.mem_singleton, List.mem_cons, List.mem_append, Tryz.underlying9]
        exact Or.inr (Or.inr (Or.inl (Lib.size_eq _)))
      · rw [bytesSaid, List.length_map, List.length_range] at h2
        omega
set_option maxRecDepth 100000 in
theorem open_listed {H : Type} {enc : TypeId × Value → H} {W : World} {base : Nat} {v : Value} {d : DataW H} {p : List MemPlace} (h : DataW.Trod enc Tryz.prog W 0 (fun _ => true) true 25 v d p) (hok : Value.okWide Tryz.prog W .any base 25 v) :
    ∃ A xs cc st, v = .agg #[.slice A xs.length cc, .string st] ∧ Texts W W.heap.size A xs ∧ xs.length ≤ cc ∧ (A = none → cc = 0) ∧ ∀ R, (∀ n ∈ d.weights Tryz.prog 25, n ≤ R) → (∀ x ∈ xs, x.size ≤ R) ∧ xs.length * 16 ≤ R ∧ st.size ≤ R := by
  obtain ⟨v0, v1, y0, y1, n, rfl, rfl, rfl, g0, g1⟩ := Joins.open_agg2 Tryz.underlying25 (by kernel_rfl) cellsListed hok h
  obtain ⟨s, q1, r1, _⟩ := DataW.trod_string Tryz.underlying9 g1
  obtain rfl : v1 = .string s := by simpa using q1
  subst r1
  rcases open_strings Tryz.underlying23 Tryz.underlying9 cellsStr g0 with ⟨hcs, hx⟩ | ⟨a, len, cap, ss, hcs, _, hl, hm, hz, hx, hcell, hsz⟩
  · obtain rfl : v0 = .slice none 0 0 := by simpa using hcs
    subst hx
    refine ⟨none, [], 0, s, rfl, fun h => absurd h (by simp), Nat.le_refl _, fun _ => rfl, fun R hR => ⟨fun x hx => (by cases hx), Nat.zero_le _, ?_⟩⟩
    refine hR _ ?_
    simp only [DataW.weights, Tryz.underlying25, DataW.weightsEach, List.map_cons, List.map_nil, List.mem_append, Tryz.underlying9, List.mem_singleton, List.append_nil]
    exact Or.inr (Lib.size_eq _)
  · obtain rfl : v0 = .slice (some a) len cap := by simpa using hcs
    simp only [if_true] at hz
    have hlen : (ss.take len).length = len := by rw [List.length_take]; omega
    refine ⟨some a, ss.take len, cap, s, by rw [hlen], fun h => ⟨a, rfl, ?_, fun j hj => ?_⟩, by rw [hlen]; exact hl, fun h => (by cases h), fun R hR => ?_⟩
    · rw [hlen] at h
      have := cell_block (hcell 0 (by omega))
      rw [block_of_add] at this
      exact this
    · rw [hlen] at hj
      rw [hcell j (by omega), List.getElem_take]
      simp [show j < ss.length by omega]
    · subst hx
      have hR0 : ∀ n ∈ DataW.weights Tryz.prog 23 (.slice (strs (H := H) (ss.take len)) (strs (ss.drop len))), n ≤ R := fun n hn => hR n (by
        simp only [DataW.weights, Tryz.underlying25, DataW.weightsEach, List.map_cons, List.map_nil, List.mem_append]
        exact Or.inl (by simpa only [DataW.weights] using hn))
      have hR1 : s.size ≤ R := hR _ (by
        simp only [DataW.weights, Tryz.underlying25, DataW.weightsEach, List.map_cons, List.map_nil, List.mem_append, Tryz.underlying9, List.mem_singleton, List.append_nil]
        exact Or.inr (Lib.size_eq _))
      have hw : ∀ n ∈ DataW.weightsAll Tryz.prog 9 (strs (H := H) (ss.take len)), n ≤ R := fun n hn => hR0 n (by simp only [DataW.weights, Tryz.underlying23, List.mem_cons, List.mem_append]; exact Or.inr (Or.inl hn))
      have h2 : ((strs (H := H) (ss.take len)).length + (strs (H := H) (ss.drop len)).length) * Tryz.prog.bytesOf 9 ≤ R := hR0 _ (by simp only [DataW.weights, Tryz.underlying23, List.mem_cons]; exact Or.inl trivial)
      refine ⟨fun x hx => ?_, ?_, hR1⟩
      · exact hw _ (weights_all (d := .lit (.string x.data.toList)) (List.mem_map.2 ⟨x, hx, rfl⟩) _ (by simp only [DataW.weights, List.mem_singleton]; exact Lib.size_eq x))
      · rw [bytesStr] at h2
        simp only [strs, List.length_map] at h2
        omega
theorem saids_back {H : Type} {enc : TypeId × Value → H} {W W' : World} {v : Value} {d : DataW H} {p : List MemPlace} (h : DataW.Trod enc Tryz.prog W 0 (fun _ => true) true 22 v d p) (hb : Below W.heap.size W W') (hlt : ∀ x ∈ p, x.block < W.heap.size) (sp : Nat → Bool) (hs : ∀ x ∈ p, sp x.block = true) :
    DataW.Trod enc Tryz.prog W' 0 sp true 22 v d p :=
  WideElems.Trod_stays (by kernel_rfl) (by kernel_rfl) (of_decide_eq_true (by kernel_rfl)) h (fun x hx => hb.same (hlt x hx)) hs
theorem listed_back {H : Type} {enc : TypeId × Value → H} {W W' : World} {v : Value} {d : DataW H} {p : List MemPlace} (h : DataW.Trod enc Tryz.prog W 0 (fun _ => true) true 25 v d p) (hb : Below W.heap.size W W') (hlt : ∀ x ∈ p, x.block < W.heap.size) (sp : Nat → Bool) (hs : ∀ x ∈ p, sp x.block = true) :
    DataW.Trod enc Tryz.prog W' 0 sp true 25 v d p :=
  WideElems.Trod_stays (by kernel_rfl) (by kernel_rfl) (of_decide_eq_true (by kernel_rfl)) h (fun x hx => hb.same (hlt x hx)) hs
theorem sized_of {H : Type} {ts : List TypeId} {ds : List (DataW H)} (hsz : (DataW.weightsEach Tryz.prog ts ds).all (· ≤ reachBytes) = true) {j : Nat} {t : TypeId} {d : DataW H} (ht : ts[j]? = some t) (hd : ds[j]? = some d) : ∀ n ∈ d.weights Tryz.prog t, n ≤ 281474976710656 := fun n hn => by
  have := List.all_eq_true.1 hsz _ (DataW.weights_mem_each ht hd n hn)
  have h2 : n ≤ reachBytes := by simpa using this
  exact Nat.le_trans h2 (by decide)
end Go.Proofs.YtpcgcghhddnifaaGreatDoor
namespace Go.Proofs.YtpcgcghhddnifaaGreatDoor
open Go.ChangeShapes Go.WideShapes Go.ChangeAt Go.RowKit Go.ChangeMaps Go.Vx
theorem handed_and_shaped {H : Type} {enc : TypeId × Value → H} {a : Assume} {C : Checked} {os : Os} {f : FuncId} {fn : Func} {s : ChangeSpec} {conds : List PathCond} {apart fresh handsOn again : Bool} {X : World → Array Value → Prop}
    (hX : ∀ (w w' : World) (args : Array Value), w.heap = w'.heap → X w args → X w' args)
    (own : ownKnob C.prog.godebug = none) (started : os.Started) (noInit : C.prog.inits.idxOf? f = none) (hfn : C.prog.funcs[f]? = some fn)
    (witness : ∃ (w : World) (tape : Tape) (i : Input), w.os = os ∧ (w.forCall tape i).Shaped C.prog ∧ i.vars = [] ∧ Input.okWide C.prog (w.forCall tape i) .any w.heap.size f i ∧
      ((s.pre enc C.prog fn conds apart (w.forCall tape i).memory i.args ∧ X (w.forCall tape i).memory i.args) ∧ sizedMet enc C.prog fn (OpenSpec.ofChange s) apart (w.forCall tape i).memory i.args) ∧ a.holds C.prog (lone (Frame.enter C.prog f i.args .normal) [] (w.forCall tape i)))
    (contract : ∀ (W : World) (base : Nat) (args : Array Value) (ds gs : List (DataW H)) (before : List MemPlace),
      (∀ (j : Nat) t v, fn.params[j]? = some t → args[j]? = some v → Value.okWide C.prog W .any base t v) →
      DataW.Whole enc C.prog fn.params.toList s.vars apart W args.toList ds gs before →
      conds.all (PathCond.test C.prog ⟨fn.params.toList, ds, s.plain.varTypes C.prog, gs⟩) = true →
      (DataW.weightsEach C.prog (fn.params.toList ++ s.plain.varTypes C.prog) (ds ++ gs)).all (· ≤ reachBytes) = true → X W args → W.ShapedOpen C.prog →
      a.holds C.prog (lone (Frame.enter C.prog f args .normal) [] W) →
      Calls C.prog f args W fun e W' => ∃ v, e = .returned v ∧ s.post enc C.prog fn apart fresh handsOn again W args v W') :
    ReturnsInHanded a C os f .any (fun w args => (s.pre enc C.prog fn conds apart w args ∧ X w args) ∧ sizedMet enc C.prog fn (OpenSpec.ofChange s) apart w args) (s.post enc C.prog fn apart fresh handsOn again) := by
  refine returnsInHanded_of_calls own started noInit witness ?_
  intro w tape i _ hsh _ hok hpre hholds
  obtain ⟨_, _, _, fn', hfn', _, _, _, _, hval⟩ := hok
  have e : fn' = fn := Option.some.inj (hfn'.symm.trans hfn)
  subst e
  obtain ⟨⟨⟨ds, gs, before, hw, hc⟩, hx⟩, hz⟩ := hpre
  have hw' := DataW.Whole.of_heap (w' := w.forCall tape i) (by rfl) hw
  refine (contract (w.forCall tape i) w.heap.size i.args ds gs before hval hw' hc (hz.weights hw) (hX _ _ _ (by rfl) hx) hsh hholds).mono fun e W' ⟨v, he, hp⟩ => ?_
  subst he
  exact ChangeSpec.post_blind hp
theorem own : ownKnob Tryz.prog.godebug = none := by kernel_rfl
theorem gSyntax : Tryz.prog.globalNamed "strconv.ErrSyntax" = some 1 := by kernel_rfl
theorem gRange : Tryz.prog.globalNamed "strconv.ErrRange" = some 2 := by kernel_rfl
theorem gSyntaxT : (Tryz.prog.globals[1]?).map (·.type) = some 125 := by kernel_rfl
theorem gRangeT : (Tryz.prog.globals[2]?).map (·.type) = some 125 := by kernel_rfl
theorem gSpaceT : (Tryz.prog.globals[5]?).map (·.type) = some 301 := by kernel_rfl
theorem cellTab : Tryz.prog.cellsOf 301 = 256 := by kernel_rfl
theorem cellU8 : Tryz.prog.cellsOf 5 = 1 := by kernel_rfl
theorem spaceZ_is : (Rows.laid_strings_asciiSpace : DataW Unit) = Lib.tabData .u8 spaceZ := by kernel_rfl
def listedL : List (String × DataW Unit) := Rows.composeListsRow.laid
theorem cell_ofG {W : World} {n : String} {g : Nat} {cs : Array Value} {fuel : Nat} {nm : String} {d : DataW Unit} {p : List MemPlace} (hg : Tryz.prog.globalNamed n = some g) (hv : W.var? Tryz.prog n = some cs)
    (hd : DataW.trod (fun _ => ()) Tryz.prog W 0 (fun _ => true) false fuel 125 cs.toList = some (.iface nm d, p)) : ∃ te pe, W.cell? ⟨g, 0, none⟩ = some (.iface te pe) := by
  obtain ⟨_, u, v, hcs, _⟩ := iface_of_trod Tryz.underlying125 hd
  refine ⟨u, v, (World.var?_cell hg hv 0).trans ?_⟩
  rw [← Array.getElem?_toList, hcs]; rfl
theorem globs_of_laid {W : World} (h : laidMetH Tryz.prog listedL W) : Glob W ∧ GlobP W := by
  rw [MakeChecks.laidMetH_plain _ _ _ (by kernel_rfl)] at h
  obtain ⟨ps, ⟨_, _, _, _, _, _, _, _, _, _, ⟨_, _, _, _, _, _, _, _, _, _, ⟨_, _, _, _, _, _, _, _, _, _, ⟨_, _, _, _, _, _, _, _, _, _, ⟨g5, t5, cs5, f5, p5, _, hg5, ht5, hv5, hd5, ⟨g6, t6, cs6, f6, p6, _, hg6, ht6, hv6, hd6, ⟨_, _, _, _, _, _, _, _, _, _, ⟨g8, t8, cs8, f8, p8, _, hg8, ht8, hv8, hd8, _, _⟩, _⟩, _⟩, _⟩, _⟩, _⟩, _⟩, _⟩, _⟩ := h
  obtain rfl := Option.some.inj (gRange.symm.trans hg5)
  obtain rfl := Option.some.inj (gRangeT.symm.trans ht5)
  obtain rfl := Option.some.inj (gSyntax.symm.trans hg6)
  obtain rfl := Option.some.inj (gSyntaxT.symm.trans ht6)
  obtain rfl := Option.some.inj (gSpace.symm.trans hg8)
  obtain rfl := Option.some.inj (gSpaceT.symm.trans ht8)
  have c1 := cell_ofG gSyntax hv6 hd6
  refine ⟨⟨c1, ?_⟩, ⟨c1, cell_ofG gRange hv5 hd5⟩⟩
  obtain ⟨t, fz, hh⟩ := heap_of_var gSpace hv8
  have hd8 : DataW.trod (fun _ => ()) Tryz.prog W 0 (fun _ => true) false f8 301 cs8.toList = some (Rows.laid_strings_asciiSpace, p8) := hd8
  rw [spaceZ_is] at hd8
  have := Lib.cells_of_tab (k := .u8) (zs := spaceZ) Tryz.underlying301 Tryz.underlying5 cellU8 cellTab (h := hd8)
  exact ⟨t, fz, cs8, hh, this⟩
end Go.Proofs.YtpcgcghhddnifaaGreatDoor
