/-
  compose.ListPart. Conditions: the slice reads as what is said; what the listed variables hold; sizes.
  The law's told: the source of what is said. Conditions: the slice reads as what is said; sizes.
  The reference's Once at two places: it tells the same as the layer's. Condition: the text is short enough to be in memory.
-/
import Derived.Test.YtpcgcghhddnifaaGreatDoorGd
import Derived.Test.YtpcgcghhddnifaaGreatDoorGb
set_option linter.unusedVariables false
set_option linter.unusedSimpArgs false
namespace Go.Proofs.YtpcgcghhddnifaaGreatDoor
open Go.RowKit
open Ph
def isPartB (nm : ByteArray) : Bool := (nm.toList == [50]) || ((nm.toList == [115, 116, 97, 114, 116]) || ((nm.toList == [109, 105, 100, 100, 108, 101]) || (nm.toList == [101, 110, 100])))
/-- what ListPart says -/
noncomputable def listPartT (L : List Sd) (loc st nm : ByteArray) : ByteArray := if isNameB st && isPartB nm then partT L loc st nm else ⟨#[]⟩
set_option maxRecDepth 100000 in
set_option maxHeartbeats 4000000 in
theorem listPart_nil (loc st nm : ByteArray) (w : World) : Calls Tryz.prog 13 #[.nilIface, .string loc, .string st, .string nm] w fun e w' => e = .returned (.string ⟨#[]⟩) ∧ w' = w := by
  go_enter Tryz.func13, Tryz.ntmps13
  go_wp2_with fail
  refine bodyPost_ret (v := .string ⟨#[]⟩) ?_ rfl ⟨rfl, rfl⟩
  simp [results, Tryz.results13, go_sem]
set_option maxRecDepth 100000 in
set_option maxHeartbeats 4000000 in
theorem listPart_no (A : Option Addr) (n c : Nat) (loc st nm : ByteArray) (h : isNameB st = false) (h1 : st.size ≤ 281474976710656) (w : World) : Calls Tryz.prog 13 #[srcV A n c, .string loc, .string st, .string nm] w fun e w' => e = .returned (.string ⟨#[]⟩) ∧ w' = w := by
  have H := isName_any st h1
  rw [h] at H
  unfold srcV
  go_enter Tryz.func13, Tryz.ntmps13
  go_wp2_with (go_at_call 27; refine (H _).mono ?_; rintro e w1 ⟨rfl, rfl⟩)
  refine bodyPost_ret (v := .string ⟨#[]⟩) ?_ rfl ⟨rfl, rfl⟩
  simp [results, Tryz.results13, go_sem]
set_option maxRecDepth 100000 in
set_option maxHeartbeats 4000000 in
theorem listPart_yes (A : Option Addr) (n c : Nat) (loc st nm r : ByteArray) (h : isNameB st = true) (h1 : st.size ≤ 281474976710656) (hp : isPartB nm = true) (w : World)
    (HP : Calls Tryz.prog 31 #[srcV A n c, .string loc, .string st, .string nm] w fun e w' => e = .returned (.string r) ∧ Below w.heap.size w w') :
    Calls Tryz.prog 13 #[srcV A n c, .string loc, .string st, .string nm] w fun e w' => e = .returned (.string r) ∧ Below w.heap.size w w' := by
  have H := isName_any st h1
  rw [h] at H
  unfold isPartB at hp
  unfold srcV at HP ⊢
  cases ha : (nm.toList == [50]) with
  | true =>
    clear hp
    go_enter Tryz.func13, Tryz.ntmps13
    go_wp2_with (first | (go_at_call 27; refine (H _).mono ?_; rintro e w1 ⟨rfl, rfl⟩) | (go_at_call 31; refine HP.mono ?_; rintro e w2 ⟨rfl, hb⟩))
    refine bodyPost_ret (v := .string r) ?_ rfl ⟨rfl, hb⟩
    simp [results, Tryz.results13, go_sem]
  | false =>
    rw [ha] at hp
    cases hb : (nm.toList == [115, 116, 97, 114, 116]) with
    | true =>
      clear hp
      go_enter Tryz.func13, Tryz.ntmps13
      go_wp2_with (first | (go_at_call 27; refine (H _).mono ?_; rintro e w1 ⟨rfl, rfl⟩) | (go_at_call 31; refine HP.mono ?_; rintro e w2 ⟨rfl, hb⟩))
      refine bodyPost_ret (v := .string r) ?_ rfl ⟨rfl, by assumption⟩
      simp [results, Tryz.results13, go_sem]
    | false =>
      rw [hb] at hp
      cases hc : (nm.toList == [109, 105, 100, 100, 108, 101]) with
      | true =>
        clear hp
        go_enter Tryz.func13, Tryz.ntmps13
        go_wp2_with (first | (go_at_call 27; refine (H _).mono ?_; rintro e w1 ⟨rfl, rfl⟩) | (go_at_call 31; refine HP.mono ?_; rintro e w2 ⟨rfl, hb⟩))
        refine bodyPost_ret (v := .string r) ?_ rfl ⟨rfl, by assumption⟩
        simp [results, Tryz.results13, go_sem]
      | false =>
        rw [hc] at hp
        have hd : (nm.toList == [101, 110, 100]) = true := by simpa using hp
        clear hp
        go_enter Tryz.func13, Tryz.ntmps13
        go_wp2_with (first | (go_at_call 27; refine (H _).mono ?_; rintro e w1 ⟨rfl, rfl⟩) | (go_at_call 31; refine HP.mono ?_; rintro e w2 ⟨rfl, hb⟩))
        refine bodyPost_ret (v := .string r) ?_ rfl ⟨rfl, by assumption⟩
        simp [results, Tryz.results13, go_sem]
set_option maxRecDepth 100000 in
set_option maxHeartbeats 4000000 in
theorem listPart_other (A : Option Addr) (n c : Nat) (loc st nm : ByteArray) (h : isNameB st = true) (h1 : st.size ≤ 281474976710656) (hp : isPartB nm = false) (w : World) :
    Calls Tryz.prog 13 #[srcV A n c, .string loc, .string st, .string nm] w fun e w' => e = .returned (.string ⟨#[]⟩) ∧ w' = w := by
  have H := isName_any st h1
  rw [h] at H
  unfold isPartB at hp
  simp only [Bool.or_eq_false_iff] at hp
  obtain ⟨ha, hb, hc, hd⟩ := hp
  unfold srcV
  go_enter Tryz.func13, Tryz.ntmps13
  go_wp2_with (go_at_call 27; refine (H _).mono ?_; rintro e w1 ⟨rfl, rfl⟩)
  refine bodyPost_ret (v := .string ⟨#[]⟩) ?_ rfl ⟨rfl, rfl⟩
  simp [results, Tryz.results13, go_sem]
end Go.Proofs.YtpcgcghhddnifaaGreatDoor
namespace Go.Proofs.YtpcgcghhddnifaaGreatDoor
open Go.RowKit
open Ph
theorem info67 : (Tryz.prog.info? 67).map (fun i => (i.zero, i.size, i.bytes)) = some (some (.agg #[.string ⟨#[]⟩, .string ⟨#[]⟩, .string ⟨#[]⟩]), 3, 48) := by kernel_rfl
theorem said_snoc {w : World} {base : Nat} {v : Value} (l : List Sd) (p : Sd) (h : w.ownsRow base 67 3 v (l.length + 1) (scells l ++ [.string p.loc, .string p.path, .string p.text])) : w.ownsRow base 67 3 v (l ++ [p]).length (scells (l ++ [p])) := by
  rw [scells_app, List.length_append]
  exact h
theorem wpSaid {ops : Array Oper} {rest : List Oper} {o : Oper} {a : Act} {Q : Exit → Act → World → Prop} (hgd : o.guard = none) (sI xI : Operand)
    (ho : o.op = .call { callee := .builtin .append, args := #[sI, xI], argTypes := #[22, 22] })
    (base : Nat) (w0 : World) (v : Value) (l : List Sd) (p : Sd) (hs : a.eval sI = v) (hown : w0.ownsRow base 67 3 v l.length (scells l)) (g : Nat) (hgz : g = w0.heap.size) (hx : a.eval xI = .slice (some ⟨g, 0, none⟩) 1 1)
    (hl : l.length ≤ 1000000000000) (hb : base ≤ w0.heap.size)
    (h : ∀ v' w', w'.ownsRow base 67 3 v' (l ++ [p]).length (scells (l ++ [p])) → (w0.alloc (.cells #[.string p.loc, .string p.path, .string p.text] 67)).grownBy w' v.ownBlock → wpList Tryz.prog ops Q rest (a.put o.dst v') w') :
    wpList Tryz.prog ops Q (o :: rest) a (w0.alloc (.cells #[.string p.loc, .string p.path, .string p.text] 67)) := by
  subst hgz
  obtain ⟨i0, hi0, hz0, hz1, hz2⟩ := info_parts info67
  refine wpList_append_any _ hgd sI xI 22 ho base 67 i0 _ 3 48 Tryz.underlying22 hi0 hz0 hz1 hz2 rfl (by omega) v l.length (scells l) hs (hown.alloc _) (w0.heap.size + 1) _ 1 1 [.string p.loc, .string p.path, .string p.text] hx (reads_new3 w0 _ _ _ _) ?_ ?_ ?_ ?_ ?_
  · intro u hu; simp at hu; rcases hu with rfl | rfl | rfl <;> rfl
  · unfold maxLen; omega
  · omega
  · simp only [World.size_alloc]; omega
  · intro v' w' h1 h2 _
    exact h v' w' (said_snoc l p h1) h2
/-- which of what is said is told -/
def keepB (i : Nat) (x : Sd) : Bool := decide (i < 40) && (decide (brk x.text 0 = none) && decide (x.text.size ≤ 16384))
/-- what is told of the first so many -/
def toldN (L : List Sd) : Nat → List Sd
  | 0 => []
  | i + 1 => match L[i]? with
    | some x => if keepB i x then toldN L i ++ [x] else toldN L i
    | none => toldN L i
def toldL (L : List Sd) : List Sd := toldN L L.length
theorem toldN_yes {L : List Sd} {i : Nat} (h : i < L.length) (hk : keepB i L[i] = true) : toldN L (i + 1) = toldN L i ++ [L[i]] := by
  simp [toldN, List.getElem?_eq_getElem h, hk]
theorem toldN_no {L : List Sd} {i : Nat} (h : i < L.length) (hk : keepB i L[i] = false) : toldN L (i + 1) = toldN L i := by
  simp [toldN, List.getElem?_eq_getElem h, hk]
theorem toldN_len (L : List Sd) : ∀ i, (toldN L i).length ≤ i
  | 0 => Nat.le_refl _
  | i + 1 => by
    have := toldN_len L i
    unfold toldN
    split
    · split
      · simp; omega
      · omega
    · omega
theorem toldN_40 (L : List Sd) : ∀ i, (toldN L i).length ≤ 40
  | 0 => Nat.zero_le _
  | i + 1 => by
    have h1 := toldN_len L i
    have h2 := toldN_40 L i
    unfold toldN
    split
    · split
      · rename_i x _ hk
        unfold keepB at hk
        simp only [Bool.and_eq_true, decide_eq_true_eq] at hk
        simp; omega
      · exact h2
    · exact h2
set_option maxRecDepth 100000 in
set_option maxHeartbeats 4000000 in
theorem told_any (A : Option Addr) (L : List Sd) (c B : Nat) (hn : L.length ≤ 281474976710656) (hx : ∀ x ∈ L, x.text.size ≤ 281474976710656) (w : World) (hL : Saids w B A L) (hB : B ≤ w.heap.size) :
    Calls Tryz.prog 9 #[.slice A L.length c] w fun e w' => ∃ v, e = .returned (.agg #[v]) ∧ w'.ownsRow w.heap.size 67 3 v (toldL L).length (scells (toldL L)) ∧ Below w.heap.size w w' := by
  go_enter Tryz.func9, Tryz.ntmps9
  go_wp2_with fail
  go_loopw [8] (fun u wr => ∃ (i : Nat) (v : Value), u = .int .i64 i ∧ i ≤ L.length ∧ Saids wr B A L ∧ Below w.heap.size w wr ∧ Blk wr (w.heap.size + 1) 28 #[v] ∧ Blk wr w.heap.size 28 #[.slice none 0 0] ∧ wr.ownsRow (w.heap.size + 2) 67 3 v (toldN L i).length (scells (toldN L i))) (fun u _ => L.length - (intOf u).toNat)
  case atStart =>
    refine ⟨0, .slice none 0 0, rfl, Nat.zero_le _, hL.below (((Below.refl _ _).alloc hB _).alloc (by simp; omega) _), ((Below.refl _ _).alloc (Nat.le_refl _) _).alloc (by simp) _, ?_, (Blk.new _ _ _).alloc _, ?_⟩
    · have := Blk.new (w.alloc (.cells #[.slice none 0 0] 28)) 28 #[.slice none 0 0]
      simpa using this
    · exact ⟨by simp [toldN, scells], Or.inl ⟨rfl, rfl⟩⟩
  case round =>
    obtain ⟨i, v, rfl, hi, g, hb, hV, hR, hown⟩ := hrel
    have hlen := toldN_len L i
    by_cases hlt : i < L.length
    · obtain ⟨ad, rfl, b0, c0, c1, c2⟩ := g.sd hlt
      have hbs := Nat.lt_of_lt_of_le b0 (Nat.le_trans hB hb.size)
      have hxt := hx L[i] (List.getElem_mem hlt)
      obtain ⟨x, hxe⟩ : ∃ x, L[i] = x := ⟨_, rfl⟩
      rw [hxe] at hxt c0 c1 c2
      have HX := Lib.hid hxe
      clear hxe
      have HR := right_any x.text hxt _ rfl
      have HO := Lib.hid hown
      by_cases h40 : i < 40
      · have h40' : (i : Int) < 40 := by omega
        cases hbk : (brk x.text 0).isNone with
        | true =>
          rw [hbk] at HR
          by_cases h16 : x.text.size ≤ 16384
          · have hk : keepB i L[i] = true := by rw [HX.out]; unfold keepB; simp [h40, h16, Option.isNone_iff_eq_none.1 hbk]
            have hN := Lib.hid (toldN_yes hlt hk)
            clear hk
            have h16' : (x.text.size : Int) ≤ 16384 := by omega
            have hV1 := hV.alloc (.cells #[.string x.loc, .string x.path, .string x.text] 67)
            have cV := hV1.at_ 0 (v := v) rfl
            have fV := hV1.frozen
            have cV2 := (hV1.alloc (.cells #[.string x.loc, .string x.path, .string x.text] 67)).at_ 0 (v := v) rfl
            have hl9 : (toldN L i).length ≤ 1000000000000 := Nat.le_trans (toldN_40 L i) (by decide)
            have hsz := hV.lt
            have hbw : w.heap.size + 2 ≤ (wr.alloc (.cells #[.string x.loc, .string x.path, .string x.text] 67)).heap.size := by simp; omega
            have hne : some (w.heap.size + 1) ≠ v.ownBlock := fun e => own_blk_ne hown hV (by decide) e.symm
            have hne0 : some w.heap.size ≠ v.ownBlock := fun e => own_blk_ne hown hR (by decide) e.symm
            have hpos : 0 < (toldN L i ++ [x]).length := by simp
            have HG : Hid (wr.heap.size + 1 = (wr.alloc (.cells #[.string x.loc, .string x.path, .string x.text] 67)).heap.size) := Lib.hid (by simp)
            clear hown
            go_wp2_with (first | (at_builtin; refine wpSaid rfl (.tmp 27) (.tmp 29) rfl (w.heap.size + 2) (wr.alloc (.cells #[.string x.loc, .string x.path, .string x.text] 67)) v (toldN L i) x rfl (HO.out.alloc _) (wr.heap.size + 1) HG.out rfl hl9 hbw ?_; intro v1 w1 hown2 hg1; obtain ⟨gg, cap, hv1, _, _⟩ := hown2.form hpos; subst hv1; have hV3 := (hV1.alloc (.cells #[.string x.loc, .string x.path, .string x.text] 67)).grown hg1 hne; have d1 := hV3.at_ 0 (v := v) rfl; have d2 := hV3.frozen) | (go_at_call 14; refine (HR _).mono ?_; rintro e w2 ⟨rfl, rfl⟩))
            have hR3 := ((hR.alloc (.cells #[.string x.loc, .string x.path, .string x.text] 67)).alloc (.cells #[.string x.loc, .string x.path, .string x.text] 67)).grown hg1 hne0
            have hR4 := hR3.far (p := ⟨w.heap.size + 1, 0, none⟩) (by show w.heap.size ≠ w.heap.size + 1; omega) (.slice (some ⟨gg, 0, none⟩) ((toldN L i).length + 1) cap)
            have hV4 := hV3.set_ 0 (.slice (some ⟨gg, 0, none⟩) ((toldN L i).length + 1) cap)
            have hz2 : ((wr.alloc (.cells #[.string x.loc, .string x.path, .string x.text] 67)).alloc (.cells #[.string x.loc, .string x.path, .string x.text] 67)).heap.size = wr.heap.size + 1 + 1 := by simp
            have hb1 := (((hb.alloc hb.size (.cells #[.string x.loc, .string x.path, .string x.text] 67)).alloc (by have := hb.size; simp; omega) (.cells #[.string x.loc, .string x.path, .string x.text] 67)).grown hg1 (by have := hb.size; omega) (fun k hk => Nat.le_trans (by omega) (HO.out.lt k hk).1)).setCell (p := ⟨w.heap.size + 1, 0, none⟩) (Nat.le_succ _) (.slice (some ⟨gg, 0, none⟩) ((toldN L i).length + 1) cap)
            have hb2 := ((((Below.refl B wr).alloc (Nat.le_trans hB hb.size) (.cells #[.string x.loc, .string x.path, .string x.text] 67)).alloc (by have := hb.size; simp; omega) (.cells #[.string x.loc, .string x.path, .string x.text] 67)).grown hg1 (by have := hb.size; omega) (fun k hk => Nat.le_trans (by omega) (HO.out.lt k hk).1)).setCell (p := ⟨w.heap.size + 1, 0, none⟩) (by show B ≤ w.heap.size + 1; omega) (.slice (some ⟨gg, 0, none⟩) ((toldN L i).length + 1) cap)
            have ho4 := own_far hown2 (p := ⟨w.heap.size + 1, 0, none⟩) (own_blk_ne hown2 hV3 (by decide)) (.slice (some ⟨gg, 0, none⟩) ((toldN L i).length + 1) cap)
            go_roundw
            case rel =>
              refine ⟨i + 1, _, by go_num, hlt, g.below hb2, hb1, hV4, hR4, ?_⟩
              have hN2 := hN.out
              rw [HX.out] at hN2
              rw [hN2]
              simpa using ho4
            case measure => simp [intOf]; omega
          · have h16' : ¬ (x.text.size : Int) ≤ 16384 := by omega
            have hk : keepB i L[i] = false := by rw [HX.out]; unfold keepB; simp [h16]
            have hN := Lib.hid (toldN_no hlt hk)
            clear hk
            go_wp2_with (go_at_call 14; refine (HR _).mono ?_; rintro e w2 ⟨rfl, rfl⟩)
            go_roundw
            case rel => exact ⟨i + 1, v, by go_num, hlt, g.below ((Below.refl _ _).alloc (Nat.le_trans hB hb.size) _), hb.alloc hb.size _, hV.alloc _, hR.alloc _, by rw [hN.out]; exact hown.alloc _⟩
            case measure => simp [intOf]; omega
        | false =>
          rw [hbk] at HR
          have hk : keepB i L[i] = false := by rw [HX.out]; unfold keepB; cases hq : brk x.text 0 <;> simp_all
          have hN := Lib.hid (toldN_no hlt hk)
          clear hk
          go_wp2_with (go_at_call 14; refine (HR _).mono ?_; rintro e w2 ⟨rfl, rfl⟩)
          go_roundw
          case rel => exact ⟨i + 1, v, by go_num, hlt, g.below ((Below.refl _ _).alloc (Nat.le_trans hB hb.size) _), hb.alloc hb.size _, hV.alloc _, hR.alloc _, by rw [hN.out]; exact hown.alloc _⟩
          case measure => simp [intOf]; omega
      · have h40' : ¬ (i : Int) < 40 := by omega
        have hk : keepB i L[i] = false := by rw [HX.out]; unfold keepB; simp [h40]
        have hN := Lib.hid (toldN_no hlt hk)
        clear hk
        go_wp2_with fail
        go_roundw
        case rel => exact ⟨i + 1, v, by go_num, hlt, g.below ((Below.refl _ _).alloc (Nat.le_trans hB hb.size) _), hb.alloc hb.size _, hV.alloc _, hR.alloc _, by rw [hN.out]; exact hown.alloc _⟩
        case measure => simp [intOf]; omega
    · obtain rfl : i = L.length := by omega
      obtain ⟨A2, n2, c2, rfl⟩ : ∃ A n c, v = .slice A n c := by rcases hown.2 with ⟨e, _⟩ | ⟨g', cap, cur, e, _⟩ <;> exact ⟨_, _, _, e⟩
      have cR := hR.at_ 0 (v := .slice none 0 0) rfl
      have cV := hV.at_ 0 (v := .slice A2 n2 c2) rfl
      have fR := hR.frozen
      have hne0 := own_blk_ne hown hR (by decide)
      have ho := own_base (own_far hown (p := ⟨w.heap.size, 0, none⟩) hne0 (.slice A2 n2 c2)) (show w.heap.size ≤ w.heap.size + 2 by omega)
      have hR2 := hR.set_ 0 (.slice A2 n2 c2)
      have hbf := hb.setCell (p := ⟨w.heap.size, 0, none⟩) (Nat.le_refl _) (.slice A2 n2 c2)
      have HO := Lib.hid ho
      clear ho hown
      go_wp2_with fail
      have p0 := hR2.at_ 0 (v := .slice A2 n2 c2) rfl
      clear cR cV fR
      generalize wr.setCell ⟨w.heap.size, 0, none⟩ (.slice A2 n2 c2) = w9 at *
      refine bodyPost_ret (v := .agg #[.slice A2 n2 c2]) ?_ rfl ⟨_, rfl, HO.out, hbf⟩
      simp [results, Tryz.results9, go_sem, p0]
end Go.Proofs.YtpcgcghhddnifaaGreatDoor
namespace Go.Proofs.YtpcgcghhddnifaaGreatDoor
open Go.RowKit
open Ph
theorem par_sizes {s : ByteArray} {i : Nat} {r : Except Nat (List Pc)} (h : Par s i r) : ∀ l, r = .ok l → ∀ p ∈ l, p.text.size ≤ s.size ∧ (p.kind = 2 → ∃ n : Nat, n < 16 ∧ p.place = n) := by
  induction h with
  | fin i h => rintro l ⟨⟩ p hp; cases hp
  | opens i j n r h h1 hj hj' h2 h3 hp hr ih =>
    intro l e
    cases r with
    | error k => cases e
    | ok m =>
      simp only [pre, Except.ok.injEq] at e
      subst e
      intro p hm
      rcases List.mem_cons.1 hm with rfl | hm
      · exact ⟨Nat.zero_le _, fun _ => ⟨n, (place_some hp).1, rfl⟩⟩
      · exact ih m rfl p hm
  | noclose i h h1 h3 => rintro l ⟨⟩
  | badplace i j h h1 hj hj' h2 h3 hp => rintro l ⟨⟩
  | closes i h h1 => rintro l ⟨⟩
  | text i k r h hk hk' h1 h2 hr ih =>
    intro l e
    cases r with
    | error k => cases e
    | ok m =>
      simp only [pre, Except.ok.injEq] at e
      subst e
      intro p hm
      rcases List.mem_cons.1 hm with rfl | hm
      · refine ⟨?_, fun h => ?_⟩
        · show (s.extract i k).size ≤ s.size
          rw [ByteArray.size_extract]; omega
        · exact absurd h (by show (1 : Int) ≠ 2; decide)
      · exact ih m rfl p hm
theorem Fine.sizes {s : ByteArray} {l : List Pc} (h : Fine s l) (hs : s.size ≤ 281474976710656) : ∀ p ∈ l, p.text.size ≤ 281474976710656 := fun p hp => Nat.le_trans (par_sizes h.2.2 l rfl p hp).1 hs
theorem Fine.places {s : ByteArray} {l : List Pc} (h : Fine s l) : ∀ p ∈ l, p.kind = 2 → ∃ n : Nat, n < 16 ∧ p.place = n := fun p hp => (par_sizes h.2.2 l rfl p hp).2
theorem once2 (l : List Pc) : onceB l 2 = (decide ((nums l).length = 2) && (decide ((nums l).count 0 = 1) && decide ((nums l).count 1 = 1))) := by
  unfold onceB
  generalize nums l = xs
  by_cases h : xs.length = 2
  · have hp : (srt xs).Perm xs := List.mergeSort_perm xs _
    have hl : (srt xs).length = 2 := by rw [srt_len, h]
    have hs : (srt xs).Pairwise (fun x y => decide (x ≤ y) = true) := List.pairwise_mergeSort (fun a b c h1 h2 => by simp at *; omega) (fun a b => by simp; omega) xs
    rw [← hp.count_eq 0, ← hp.count_eq 1]
    generalize srt xs = ts at *
    match ts, hl with
    | [c, d], _ =>
      have hcd : c ≤ d := by simpa using hs
      simp only [h]
      have e1 : counts [c, d] = (decide (c = 0) && decide (d = 1)) := by rw [Bool.eq_iff_iff]; simp [counts, List.range_succ]
      rw [e1]
      simp only [List.count_cons, List.count_nil]
      by_cases a0 : c = 0 <;> by_cases b0 : d = 0 <;> by_cases a1 : c = 1 <;> by_cases b1 : d = 1 <;> simp_all <;> omega
  · have h2 : decide ((xs.length : Int) = 2) = false := by simp; omega
    rw [h2, decide_eq_false h]; rfl
/-- how often each place came so far -/
def metc (ns : List Int) : Array Value := ((List.range 16).map fun (i : Nat) => Value.int .i64 ((ns.count (i : Int) : Nat) : Int)).toArray
theorem metc_get (ns : List Int) {i : Nat} (h : i < 16) : (metc ns)[i]? = some (.int .i64 ((ns.count (i : Int) : Nat) : Int)) := by
  unfold metc
  simp [h]
theorem metc_nil : metc [] = #[.int .i64 0, .int .i64 0, .int .i64 0, .int .i64 0, .int .i64 0, .int .i64 0, .int .i64 0, .int .i64 0, .int .i64 0, .int .i64 0, .int .i64 0, .int .i64 0, .int .i64 0, .int .i64 0, .int .i64 0, .int .i64 0] := rfl
theorem metc_put (ns : List Int) {n : Nat} (h : n < 16) : (metc ns).setIfInBounds n (.int .i64 (((ns.count (n : Int) : Nat) : Int) + 1)) = metc (ns ++ [(n : Int)]) := by
  apply Array.ext
  · simp [metc]
  · intro i h1 h2
    have hi : i < 16 := by simpa [metc] using h2
    by_cases e : n = i
    · subst e
      simp [metc, List.count_append]
    · have e2 : ¬ (n : Int) = (i : Int) := by omega
      simp [metc, Array.getElem_setIfInBounds, List.count_append, e, e2]
set_option maxRecDepth 100000 in
set_option maxHeartbeats 4000000 in
theorem refOnce_wrong {s : ByteArray} {a b : Int} (hs : s.size ≤ 281474976710656) (hf : Wrong s a b) (n : Int) (w : World) : Calls Tryz.prog 35 #[.string s, .int .i64 n] w fun e w' => e = .returned (.bool false) ∧ Below w.heap.size w w' := by
  have HP := WrongP.calls (ref_wrong hs hf w)
  have t1 : (a != 0) = true := by simpa using hf.nz
  clear hf
  go_enter Tryz.func35, Tryz.ntmps35
  go_wp2_with (go_at_call 58; refine HP.mono ?_; rintro e w' ⟨rfl, hb⟩)
  refine bodyPost_ret (v := .bool false) ?_ rfl ⟨rfl, hb.alloc hb.size _⟩
  simp [results, Tryz.results35, go_sem]
theorem made16 (w : World) : (Instr.makeSlice 98 (.int .i64 16) (.int .i64 16)).run Tryz.prog w = .ok (.slice (some ⟨w.heap.size, 0, none⟩) 16 16) (w.alloc (.cells (metc []) 3)) := by
  obtain ⟨i0, hi0, hz0, hz1, hz2⟩ := info_parts info3i
  have h := run_make (P := Tryz.prog) w 98 3 i0 _ Tryz.underlying98 hi0 hz0 .i64 .i64 16 16 (by decide) (by decide) (by rw [hz2]; decide) (by decide)
  have e : madeCells (Value.int .i64 0).cells (Int.toNat 16 * 1) = metc [] := by kernel_rfl
  rw [h, hz1, e]
  rfl
theorem count_le (ns : List Int) (x : Int) {n : Nat} (h : ns.length ≤ n) : ns.count x ≤ n := Nat.le_trans List.count_le_length h
set_option maxRecDepth 100000 in
set_option maxHeartbeats 4000000 in
theorem refOnce_fine {s : ByteArray} {l : List Pc} (hs : s.size ≤ 281474976710656) (hf : Fine s l) (w : World) : Calls Tryz.prog 35 #[.string s, .int .i64 2] w fun e w' => e = .returned (.bool (onceB l 2)) ∧ Below w.heap.size w w' := by
  have HP := FineP.calls (ref_fine hs hf w)
  have hln := hf.len
  have hpl := hf.places
  have hmk := made16
  rw [once2]
  clear hf
  go_enter Tryz.func35, Tryz.ntmps35
  go_wp2_with (first | (go_at_call 58; refine HP.mono ?_; rintro e w1 ⟨A, c, rfl, ho, hL, hb⟩))
  clear hmk HP ho
  have hM := Blk.new (w1.alloc (.cells #[.int .i64 0, .int .i64 0] 72)) 3 (metc [])
  have hb0 := (hb.alloc hb.size (.cells #[.int .i64 0, .int .i64 0] 72)).alloc (by have := hb.size; simp; omega) (.cells (metc []) 3)
  have hL0 := (hL.alloc (Nat.le_refl _) (.cells #[.int .i64 0, .int .i64 0] 72)).alloc (by simp) (.cells (metc []) 3)
  have hz : (w1.alloc (.cells #[.int .i64 0, .int .i64 0] 72)).heap.size = w1.heap.size + 1 := by simp
  rw [hz] at hM
  obtain ⟨g, hg⟩ : ∃ g, w1.heap.size + 1 = g := ⟨_, rfl⟩
  have hgB : w1.heap.size ≤ g := by omega
  rw [hg] at hM ⊢
  have hwg : w.heap.size ≤ g := by have := hb.size; omega
  obtain ⟨B, hBe⟩ : ∃ B, w1.heap.size = B := ⟨_, rfl⟩
  rw [hBe] at hL0 hgB
  clear hz hb hL
  generalize ((w1.alloc (.cells #[.int .i64 0, .int .i64 0] 72)).alloc (.cells (metc []) 3)) = w2 at *
  clear hg
  go_loopw [23, 8] (fun u v wr => ∃ i : Nat, u = .int .i64 i ∧ v = .int .i64 (nums (l.take i)).length ∧ i ≤ l.length ∧ Lists wr B A l ∧ Blk wr g 3 (metc (nums (l.take i))) ∧ Below w.heap.size w wr) (fun u _ _ => l.length - (intOf u).toNat)
  case atStart => exact ⟨0, rfl, rfl, by omega, hL0, hM, hb0⟩
  case round =>
    clear hL0 hM hb0
    obtain ⟨i, rfl, rfl, hi, hL, hM, hb⟩ := hrel
    have hln2 : (nums (l.take i)).length ≤ 4096 := Nat.le_trans (nums_le _) (by rw [List.length_take]; omega)
    by_cases hlt : i < l.length
    · obtain ⟨ad, rfl, b0, c0, c1, c2⟩ := hL.pc hlt
      have hst := nums_take hlt
      have hM1 := hM.alloc (.cells #[.int .i64 l[i].kind, .string l[i].text, .int .i64 l[i].place] 100)
      have hL1 := hL.alloc (by have := hb.size; have := hM.lt; omega) (.cells #[.int .i64 l[i].kind, .string l[i].text, .int .i64 l[i].place] 100)
      have hb1 := hb.alloc hb.size (.cells #[.int .i64 l[i].kind, .string l[i].text, .int .i64 l[i].place] 100)
      have hgl := hM1.lt
      have hgl2 := hM.lt
      by_cases k2 : l[i].kind = 2
      · have t2 : (l[i].kind == 2) = true := by simpa using k2
        rw [if_pos k2] at hst
        obtain ⟨n, hn, hq⟩ := hpl _ (List.getElem_mem hlt) k2
        rw [hq] at c2 hst hM1 hL1 hb1 hgl
        have m0 := hM1.at_ n (metc_get _ hn)
        have mf := hM1.frozen n
        have hp := metc_put (nums (l.take i)) hn
        have hc4 := count_le (nums (l.take i)) (n : Int) hln2
        rw [← hst] at hp
        have hlen : (nums (l.take (i + 1))).length = (nums (l.take i)).length + 1 := by rw [hst]; simp
        have hn' : (n : Int) < 16 := by omega
        generalize hqq : (nums (l.take i)).count (n : Int) = q at m0 hp hc4
        clear k2 hst hq hqq
        go_wp2_with fail
        have hM2 := (hM.set_ n (.int .i64 ((q : Int) + 1))).alloc (.cells #[.int .i64 l[i].kind, .string l[i].text, .int .i64 (n : Int)] 100)
        rw [hp] at hM2
        have hL2 := (hL.below ((Below.refl B _).setCell (p := ⟨g, n, none⟩) hgB (.int .i64 ((q : Int) + 1)))).alloc (by have := hb.size; rw [World.size_setCell]; omega) (.cells #[.int .i64 l[i].kind, .string l[i].text, .int .i64 (n : Int)] 100)
        have hb2 := (hb.setCell (p := ⟨g, n, none⟩) hwg (.int .i64 ((q : Int) + 1))).alloc (by have := hb.size; rw [World.size_setCell]; omega) (.cells #[.int .i64 l[i].kind, .string l[i].text, .int .i64 (n : Int)] 100)
        go_roundw
        case rel => exact ⟨i + 1, by go_num, by rw [hlen]; go_num, by omega, hL2, hM2, hb2⟩
        case measure => simp [intOf]; omega
      · have t2 : (l[i].kind == 2) = false := by simpa using k2
        rw [if_neg k2, List.append_nil] at hst
        clear k2
        go_wp2_with fail
        go_roundw
        case rel => exact ⟨i + 1, by go_num, by rw [hst], by omega, hL1, by rw [hst]; exact hM1, hb1⟩
        case measure => simp [intOf]; omega
    · obtain rfl : i = l.length := by omega
      rw [List.take_length] at hM hln2
      have e0 := hM.at_ 0 (metc_get (nums l) (by decide))
      have e1 := hM.at_ 1 (metc_get (nums l) (by decide))
      have z0 : ((0 : Nat) : Int) = 0 := rfl
      have z1 : ((1 : Nat) : Int) = 1 := rfl
      rw [z0] at e0
      rw [z1] at e1
      rw [List.take_length]
      obtain ⟨N, hN⟩ : ∃ N, (nums l).length = N := ⟨_, rfl⟩
      obtain ⟨q0, hq0⟩ : ∃ N, (nums l).count 0 = N := ⟨_, rfl⟩
      obtain ⟨q1, hq1⟩ : ∃ N, (nums l).count 1 = N := ⟨_, rfl⟩
      rw [hN] at hln2 ⊢
      rw [hq0] at e0
      rw [hq1] at e1
      have HN := Lib.hid hN
      have H0 := Lib.hid hq0
      have H1 := Lib.hid hq1
      clear hL hM hN hq0 hq1
      go_wp2_with fail
      refine wp_loop_rounds 3 ?_
      rw [rounds_succ]
      by_cases h0 : q0 = 1
      · have a0 : ((q0 : Int) != 1) = false := by simp; omega
        have d0 := Lib.hid (decide_eq_true h0)
        clear h0
        go_wp2_with fail
        rw [rounds_succ]
        by_cases h1 : q1 = 1
        · have a1 : ((q1 : Int) != 1) = false := by simp; omega
          have d1 := Lib.hid (decide_eq_true h1)
          clear h1
          go_wp2_with fail
          rw [rounds_succ]
          go_wp2_with fail
          refine bodyPost_ret (v := .bool (decide (N = 2))) ?_ rfl ⟨by rw [HN.out, H0.out, H1.out, d0.out, d1.out]; simp, hb⟩
          simp [results, Tryz.results35, go_sem]
          rw [Bool.eq_iff_iff]; simp; omega
        · have a1 : ((q1 : Int) != 1) = true := by simp; omega
          have d1 := Lib.hid (decide_eq_false h1)
          clear h1
          go_wp2_with fail
          refine bodyPost_ret (v := .bool false) ?_ rfl ⟨by rw [H0.out, H1.out, d0.out, d1.out]; simp, hb⟩
          simp [results, Tryz.results35, go_sem]
      · have a0 : ((q0 : Int) != 1) = true := by simp; omega
        have d0 := Lib.hid (decide_eq_false h0)
        clear h0
        go_wp2_with fail
        refine bodyPost_ret (v := .bool false) ?_ rfl ⟨by rw [H0.out, d0.out]; simp, hb⟩
        simp [results, Tryz.results35, go_sem]
end Go.Proofs.YtpcgcghhddnifaaGreatDoor
