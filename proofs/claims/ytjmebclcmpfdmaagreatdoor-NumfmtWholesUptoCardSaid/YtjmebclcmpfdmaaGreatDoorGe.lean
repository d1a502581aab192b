/-
  An appended pair; ref25.Step with one key. Condition: the key has a name.
  What a source of what is said says: ref25's Source.Value, Source.Ask. Conditions: the slice reads as what is said; sizes.
  numfmt.named, ref25.Named; numfmt's voice.say. Conditions: the path's steps read as these; the slice reads as what is said; sizes.
  The system of digits: ref25.Source.System. Conditions: the slice reads as what is said; sizes.
  The system of digits: numfmt's voice.system. Conditions: the slice reads as what is said; sizes.
  The system of digits: numfmt's voice.system. Conditions: the slice reads as what is said; sizes.
  ref25.Fit, the law's few. Conditions: the slice reads as what is said; sizes.
  The law's few; ref25.Plain at the minus sign. Conditions: the slice reads as what is said; sizes.
-/
import Derived.Test.YtjmebclcmpfdmaaGreatDoorGd
set_option linter.unusedVariables false
set_option linter.unusedSimpArgs false
namespace Go.Proofs.YtjmebclcmpfdmaaGreatDoor
open Go.RowKit
open Ph
theorem infoP : (Tryz.prog.info? 175).map (fun i => (i.zero, i.size, i.bytes)) = some (some (.agg #[.string ⟨#[]⟩, .string ⟨#[]⟩]), 2, 32) := by kernel_rfl
theorem wpPair {ops : Array Oper} {rest : List Oper} {o : Oper} {a : Act} {Q : Exit → Act → World → Prop} (hgd : o.guard = none) (sI xI : Operand)
    (ho : o.op = .call { callee := .builtin .append, args := #[sI, xI], argTypes := #[90, 90] })
    (base : Nat) (w0 : World) (v : Value) (l : List (ByteArray × ByteArray)) (p : ByteArray × ByteArray) (hs : a.eval sI = v) (hown : w0.ownsRow base 175 2 v l.length (kcells l)) (g : Nat) (hgz : g = w0.heap.size) (hx : a.eval xI = .slice (some ⟨g, 0, none⟩) 1 1)
    (hl : l.length ≤ 1000000000000) (hb : base ≤ w0.heap.size)
    (h : ∀ v' w', w'.ownsRow base 175 2 v' (l ++ [p]).length (kcells (l ++ [p])) → (w0.alloc (.cells #[.string p.1, .string p.2] 175)).grownBy w' v.ownBlock → wpList Tryz.prog ops Q rest (a.put o.dst v') w') :
    wpList Tryz.prog ops Q (o :: rest) a (w0.alloc (.cells #[.string p.1, .string p.2] 175)) := by
  subst hgz
  obtain ⟨i0, hi0, hz0, hz1, hz2⟩ := info_parts infoP
  refine wpList_append_any _ hgd sI xI 90 ho base 175 i0 _ 2 32 Tryz.underlying90 hi0 hz0 hz1 hz2 rfl (by omega) v l.length (kcells l) hs (hown.alloc _) (w0.heap.size + 1) _ 1 1 [.string p.1, .string p.2] hx ⟨rfl, fun _ => ⟨_, rfl, by simp, fun j u hu => ?_⟩⟩ ?_ ?_ ?_ ?_ ?_
  · have hc := (Blk.new w0 175 #[.string p.1, .string p.2]).cell j
    have he : (⟨w0.heap.size, 0, none⟩ : Addr).add j = ⟨w0.heap.size, j, none⟩ := by
      unfold Addr.add; split
      · rename_i h; rw [h]
      · simp
    rw [he, hc]; simpa using hu
  · intro u hu; simp at hu; rcases hu with rfl | rfl <;> rfl
  · unfold maxLen; omega
  · omega
  · simp only [World.size_alloc]; omega
  · intro v' w' h1 h2 _
    refine h v' w' ?_ h2
    rw [kcells_append, List.length_append]
    exact h1
set_option maxRecDepth 100000 in
set_option maxHeartbeats 4000000 in
theorem Step_one (nm k v : ByteArray) (hk : k ≠ ⟨#[]⟩) (w : World) :
    Calls Tryz.prog 96 #[.string nm, .string k, .string v, .string ⟨#[]⟩, .string ⟨#[]⟩] w fun e w' =>
      ∃ A c, e = .returned (stepV nm A 1 c) ∧ Pairs w' w'.heap.size A [(k, v)] ∧ Below w.heap.size w w' := by
  have hkb : k.toList.isEmpty = false := by
    cases h : k.toList with
    | nil =>
      exfalso
      apply hk
      apply ba_ext
      rw [← ByteArray.toList_eq] at *
      exact h
    | cons a t => rfl
  go_enter Tryz.func96, Tryz.ntmps96
  go_wp2_with fail
  obtain ⟨cp, hcp⟩ : ∃ cp, (Question.appendCap 1 0 175).cut (w.tape w.drawn (Question.appendCap 1 0 175)) = cp := ⟨_, rfl⟩
  simp only [hcp]
  clear hcp
  have e3 : w.heap.size + 1 + 1 + 1 = w.heap.size + 3 := rfl
  obtain ⟨X, hX⟩ : ∃ X : Obj, Obj.cells #[.string nm, .slice (some ⟨w.heap.size + 1 + 1 + 1, 0, none⟩) 1 cp] 92 = X := ⟨_, rfl⟩
  obtain ⟨Y, hY⟩ : ∃ Y : Obj, Obj.cells #[.string k, .string v] 175 = Y := ⟨_, rfl⟩
  obtain ⟨zs, hzs⟩ : ∃ zs : Array Value, Builtin.zeroCells #[.string ⟨#[]⟩, .string ⟨#[]⟩] (cp - 1) = zs := ⟨_, rfl⟩
  obtain ⟨Z, hZ⟩ : ∃ Z : Obj, Obj.cells (#[.string k, .string v] ++ zs) 175 = Z := ⟨_, rfl⟩
  rw [hzs, hX, hY, hZ]
  have R1 := (((Blk.new w 92 #[.string nm, .slice (some ⟨w.heap.size + 1 + 1 + 1, 0, none⟩) 1 cp]).alloc X).alloc Y).alloc Z
  rw [hX] at R1
  have K1 := Blk.new (((w.alloc X).alloc X).alloc Y) 175 (#[.string k, .string v] ++ zs)
  rw [hZ] at K1
  have hz3 : (((w.alloc X).alloc X).alloc Y).heap.size = w.heap.size + 1 + 1 + 1 := by simp
  rw [hz3] at K1
  have B1 : Below w.heap.size w (((((w.alloc X).alloc X).alloc Y).alloc Z).drew) := blw_drew (((((Below.refl w.heap.size w).alloc (Nat.le_refl _) X).alloc (by simp) X).alloc (by simp; omega) Y).alloc (by simp; omega) Z)
  have R2 : Blk ((((w.alloc X).alloc X).alloc Y).alloc Z).drew w.heap.size 92 #[.string nm, .slice (some ⟨w.heap.size + 1 + 1 + 1, 0, none⟩) 1 cp] := R1
  have K2 : Blk ((((w.alloc X).alloc X).alloc Y).alloc Z).drew (w.heap.size + 1 + 1 + 1) 175 (#[.string k, .string v] ++ zs) := K1
  clear R1 K1 hX hY hZ hz3
  generalize ((((w.alloc X).alloc X).alloc Y).alloc Z).drew = w9 at *
  have p0 := R2.at_ 0 (v := .string nm) rfl
  have p1 := R2.at_ 1 (v := .slice (some ⟨w.heap.size + 1 + 1 + 1, 0, none⟩) 1 cp) rfl
  refine bodyPost_ret (v := stepV nm (some ⟨w.heap.size + 1 + 1 + 1, 0, none⟩) 1 cp) ?_ rfl ⟨_, _, rfl, fun _ => ⟨_, rfl, K2.lt, fun j u hj => ?_⟩, B1⟩
  · simp [results, Tryz.results96, go_sem, p0, p1, stepV]
  · have he : (⟨w.heap.size + 1 + 1 + 1, 0, none⟩ : Addr).add j = ⟨w.heap.size + 1 + 1 + 1, j, none⟩ := by
      unfold Addr.add; split
      · rename_i h; rw [h]
      · simp
    rw [he]
    have hj2 : j < 2 := by
      have := (List.getElem?_eq_some_iff.1 hj).1
      simpa [kcells] using this
    rw [K2.cell j]
    rcases (show j = 0 ∨ j = 1 by omega) with rfl | rfl
    · obtain rfl : Value.string k = u := by simpa [kcells] using hj
      simp [Array.getElem?_append]
    · obtain rfl : Value.string v = u := by simpa [kcells] using hj
      simp [Array.getElem?_append]
end Go.Proofs.YtjmebclcmpfdmaaGreatDoor
namespace Go.Proofs.YtjmebclcmpfdmaaGreatDoor
open Go.RowKit
open Ph
/-- what is said: for a locale, at a path, a text -/
structure Sd where
  loc : ByteArray
  path : ByteArray
  text : ByteArray
def scells : List Sd → List Value
  | [] => []
  | x :: l => .string x.loc :: .string x.path :: .string x.text :: scells l
theorem scells_len (l : List Sd) : (scells l).length = l.length * 3 := by
  induction l with
  | nil => rfl
  | cons x l ih => simp only [scells, List.length_cons, ih]; omega
theorem scells_get : ∀ (l : List Sd) (i : Nat) (h : i < l.length), (scells l)[i * 3]? = some (.string l[i].loc) ∧ (scells l)[i * 3 + 1]? = some (.string l[i].path) ∧ (scells l)[i * 3 + 2]? = some (.string l[i].text)
  | x :: l, 0, _ => ⟨rfl, rfl, rfl⟩
  | x :: l, i + 1, h => by
    have := scells_get l i (by simpa using h)
    rw [show (i + 1) * 3 = i * 3 + 3 by omega]
    simpa [scells] using this
theorem scells_app (l m : List Sd) : scells (l ++ m) = scells l ++ scells m := by
  induction l with
  | nil => rfl
  | cons x l ih => simp only [List.cons_append, scells, ih]
def Saids (w : World) (B : Nat) (A : Option Addr) (l : List Sd) : Prop :=
  0 < l.length → ∃ ad : Addr, A = some ad ∧ ad.block < B ∧ ∀ j u, (scells l)[j]? = some u → w.cell? (ad.add j) = some u
theorem Saids.nil (w : World) (B : Nat) (A : Option Addr) : Saids w B A [] := fun h => by simp at h
theorem Saids.sd {w : World} {B : Nat} {A : Option Addr} {l : List Sd} (h : Saids w B A l) {i : Nat} (hi : i < l.length) :
    ∃ ad : Addr, A = some ad ∧ ad.block < B ∧ w.cell? (ad.add (i * 3)) = some (.string l[i].loc) ∧ w.cell? ⟨(ad.add (i * 3)).block, (ad.add (i * 3)).off + 1, none⟩ = some (.string l[i].path) ∧
      w.cell? ⟨(ad.add (i * 3)).block, (ad.add (i * 3)).off + 2, none⟩ = some (.string l[i].text) := by
  obtain ⟨ad, e, hb, hc⟩ := h (by omega)
  obtain ⟨h0, h1, h2⟩ := scells_get l i hi
  refine ⟨ad, e, hb, hc _ _ h0, ?_, ?_⟩
  · exact (congrArg w.cell? (add_of_add ad (i * 3) 1)).trans (hc _ _ h1)
  · exact (congrArg w.cell? (add_of_add ad (i * 3) 2)).trans (hc _ _ h2)
theorem Saids.below {w w' : World} {B : Nat} {A : Option Addr} {l : List Sd} (h : Saids w B A l) (hb : Below B w w') : Saids w' B A l := fun hn => by
  obtain ⟨ad, e, hlt, hc⟩ := h hn
  exact ⟨ad, e, hlt, fun j u hj => (hb.cell (p := ad.add j) (by rw [block_of_add]; exact hlt)).trans (hc j u hj)⟩
theorem Saids.more {w : World} {B B' : Nat} {A : Option Addr} {l : List Sd} (h : Saids w B A l) (hB : B ≤ B') : Saids w B' A l := fun hn => by
  obtain ⟨ad, e, hlt, hc⟩ := h hn
  exact ⟨ad, e, by omega, hc⟩
def hitB (loc path : ByteArray) (x : Sd) : Bool := decide (x.loc.toList = loc.toList) && decide (x.path.toList = path.toList)
def valueOf (L : List Sd) (loc path : ByteArray) : Option ByteArray := (L.find? (hitB loc path)).map (·.text)
def valR : Option ByteArray → Value
  | none => .tuple #[.string ⟨#[]⟩, .bool false]
  | some t => .tuple #[.string t, .bool true]
theorem value_hit {L : List Sd} {loc path : ByteArray} {i : Nat} (h : i < L.length) (hno : ∀ j (hj : j < L.length), j < i → hitB loc path L[j] = false) (hy : hitB loc path L[i] = true) : valueOf L loc path = some L[i].text := by
  unfold valueOf
  have : L.find? (hitB loc path) = some L[i] := by
    rw [List.find?_eq_some_iff_getElem]
    exact ⟨hy, i, h, rfl, fun j hj => by rw [hno j (by omega) hj]; rfl⟩
  rw [this]
  rfl
theorem value_none {L : List Sd} {loc path : ByteArray} (hno : ∀ j (hj : j < L.length), hitB loc path L[j] = false) : valueOf L loc path = none := by
  unfold valueOf
  rw [List.find?_eq_none.2 fun x hx => by
    obtain ⟨i, hi, rfl⟩ := List.getElem_of_mem hx
    rw [hno i hi]; simp]
  rfl
theorem hit_list (loc path : ByteArray) (x : Sd) : hitB loc path x = (decide (x.loc.toList = loc.toList) && decide (x.path.toList = path.toList)) := rfl
theorem hit_take {loc path : ByteArray} {L : List Sd} {i : Nat} (h : i < L.length) (hp : ∀ j (hj : j < L.length), j < i → hitB loc path L[j] = false) (hi : hitB loc path L[i] = false) : ∀ j (hj : j < L.length), j < i + 1 → hitB loc path L[j] = false := fun j hj h1 => by
  rcases Nat.lt_or_ge j i with g | g
  · exact hp j hj g
  · obtain rfl : j = i := by omega
    exact hi
set_option maxRecDepth 100000 in
set_option maxHeartbeats 4000000 in
theorem Value_any (A : Option Addr) (L : List Sd) (c B : Nat) (loc path : ByteArray) (hn : L.length ≤ 281474976710656) (w : World) (hL : Saids w B A L) (hB : B ≤ w.heap.size) :
    Calls Tryz.prog 95 #[.agg #[.slice A L.length c], .string loc, .string path] w fun e w' => e = .returned (valR (valueOf L loc path)) ∧ Below w.heap.size w w' := by
  go_enter Tryz.func95, Tryz.ntmps95
  go_wp2_with fail
  go_loopw [8] (fun u wr => ∃ i : Nat, u = .int .i64 i ∧ i ≤ L.length ∧ Saids wr B A L ∧ Below w.heap.size w wr ∧ Blk wr w.heap.size 32 #[.slice A L.length c] ∧ ∀ j (hj : j < L.length), j < i → hitB loc path L[j] = false) (fun u _ => L.length - (intOf u).toNat)
  case atStart => exact ⟨0, rfl, by omega, hL.below ((Below.refl _ _).alloc hB _), (Below.refl _ _).alloc (Nat.le_refl _) _, Blk.new _ _ _, fun j hj h => by omega⟩
  case round =>
    clear hL
    obtain ⟨i, rfl, hi, g, hb, K, hno⟩ := hrel
    have HN := Lib.hid hno
    clear hno
    have k0 := K.at_ 0 (v := .slice A L.length c) rfl
    by_cases hlt : i < L.length
    · obtain ⟨ad, rfl, b0, c0, c1, c2⟩ := g.sd hlt
      have hbs := Nat.lt_of_lt_of_le b0 (Nat.le_trans hB hb.size)
      generalize hx : L[i] = x at *
      have hh := hit_list loc path x
      have HH := Lib.hid hh
      clear hh
      have HX := Lib.hid hx
      clear hx
      by_cases h1 : x.loc.toList = loc.toList
      · by_cases h2 : x.path.toList = path.toList
        · have HV : valueOf L loc path = some L[i].text := value_hit hlt HN.out (by rw [HX.out, HH.out, decide_eq_true h1, decide_eq_true h2]; rfl)
          rw [HX.out] at HV
          have HV2 := Lib.hid HV
          clear HV
          go_wp2_with fail
          refine bodyPost_ret (v := .tuple #[.string x.text, .bool true]) ?_ rfl ⟨by rw [HV2.out]; rfl, hb⟩
          simp [results, Tryz.results95, go_sem]
        · have HF : hitB loc path L[i] = false := by rw [HX.out, HH.out, decide_eq_false h2, Bool.and_false]
          have HF := Lib.hid HF
          have h2b : (x.path.toList == path.toList) = false := beq_eq_false_iff_ne.2 h2
          have h2d : decide (x.path.toList = path.toList) = false := decide_eq_false h2
          go_wp2_with fail
          go_roundw
          case rel => exact ⟨i + 1, by go_num, hlt, g, hb, K, hit_take hlt HN.out HF.out⟩
          case measure => simp [intOf]; omega
      · have HF : hitB loc path L[i] = false := by rw [HX.out, HH.out, decide_eq_false h1, Bool.false_and]
        have HF := Lib.hid HF
        go_wp2_with fail
        go_roundw
        case rel => exact ⟨i + 1, by go_num, hlt, g, hb, K, hit_take hlt HN.out HF.out⟩
        case measure => simp [intOf]; omega
    · have HV : valueOf L loc path = none := value_none fun j hj => HN.out j hj (by omega)
      have HV2 := Lib.hid HV
      clear HV
      go_wp2_with fail
      refine bodyPost_ret (v := .tuple #[.string ⟨#[]⟩, .bool false]) ?_ rfl ⟨by rw [HV2.out]; rfl, hb⟩
      simp [results, Tryz.results95, go_sem]
set_option maxRecDepth 100000 in
set_option maxHeartbeats 4000000 in
theorem Ask_any (A : Option Addr) (L : List Sd) (c B : Nat) (loc : ByteArray) (Ap : Option Addr) (cp : Nat) (l : List Stp) (hok : PathOk l) (hn : L.length ≤ 281474976710656) (w : World) (hL : Saids w B A L) (hS : Steps w B Ap l) (hB : B ≤ w.heap.size) :
    Calls Tryz.prog 41 #[.agg #[.slice A L.length c], .string loc, .slice Ap l.length cp] w fun e w' => e = .returned (valR (valueOf L loc (leftT l))) ∧ Below w.heap.size w w' := by
  have B1 := (Below.refl w.heap.size w).alloc (Nat.le_refl _) (.cells #[.slice A L.length c] 32)
  have HP := refPrint_ok Ap cp B l hok _ (hS.alloc hB (.cells #[.slice A L.length c] 32)) (Nat.le_trans hB B1.size)
  have K := Blk.new w 32 #[.slice A L.length c]
  have hL1 := hL.below ((Below.refl B w).alloc hB (.cells #[.slice A L.length c] 32))
  have HV := fun (w2 : World) => Value_any A L c B loc (leftT l) hn w2
  obtain ⟨r, hr⟩ : ∃ r, valueOf L loc (leftT l) = r := ⟨_, rfl⟩
  rw [hr] at HV ⊢
  unfold Put at HP
  obtain ⟨tx, htx⟩ : ∃ tx, leftT l = tx := ⟨_, rfl⟩
  rw [htx] at HP HV
  clear hr htx hok hS hL
  cases r with
  | none =>
    unfold valR at HV ⊢
    go_enter Tryz.func41, Tryz.ntmps41
    go_wp2_with (first | (go_at_call 94; refine HP.mono ?_; rintro e w3 ⟨rfl, hb3⟩; have K3 := K.below hb3 K.lt; have q0 := K3.at_ 0 (v := .slice A L.length c) rfl; have B3 := B1.trans (hb3.mono B1.size); have hL3 := hL1.below (hb3.mono (Nat.le_trans hB B1.size)); have HV3 := HV w3 hL3 (Nat.le_trans hB B3.size)) | (go_at_call 95; refine HV3.mono ?_; rintro e w4 ⟨rfl, hb4⟩; have B4 := B3.trans (hb4.mono B3.size)))
    refine bodyPost_ret (v := .tuple #[.string ⟨#[]⟩, .bool false]) ?_ rfl ⟨rfl, B4⟩
    simp [results, Tryz.results41, go_sem]
  | some t =>
    unfold valR at HV ⊢
    go_enter Tryz.func41, Tryz.ntmps41
    go_wp2_with (first | (go_at_call 94; refine HP.mono ?_; rintro e w3 ⟨rfl, hb3⟩; have K3 := K.below hb3 K.lt; have q0 := K3.at_ 0 (v := .slice A L.length c) rfl; have B3 := B1.trans (hb3.mono B1.size); have hL3 := hL1.below (hb3.mono (Nat.le_trans hB B1.size)); have HV3 := HV w3 hL3 (Nat.le_trans hB B3.size)) | (go_at_call 95; refine HV3.mono ?_; rintro e w4 ⟨rfl, hb4⟩; have B4 := B3.trans (hb4.mono B3.size)))
    refine bodyPost_ret (v := .tuple #[.string t, .bool true]) ?_ rfl ⟨rfl, B4⟩
    simp [results, Tryz.results41, go_sem]
end Go.Proofs.YtjmebclcmpfdmaaGreatDoor
namespace Go.Proofs.YtjmebclcmpfdmaaGreatDoor
open Go.RowKit
open Ph
def namedB (s : ByteArray) : Bool := nameB s && decide (s.size ≤ 64)
set_option maxRecDepth 100000 in
theorem refNamed_any (s : ByteArray) (hs : s.size ≤ 281474976710656) (w : World) : Calls Tryz.prog 12 #[.string s] w fun e w' => e = .returned (.bool (namedB s)) ∧ Below w.heap.size w w' := by
  have HN := refName_any s hs
  unfold namedB
  cases hb : nameB s with
  | true =>
    rw [hb] at HN
    rcases (show s.size ≤ 64 ∨ ¬ s.size ≤ 64 by omega) with h | h
    · have h' : ((s.size : Int) ≤ 64) := by omega
      rw [decide_eq_true h]
      go_enter Tryz.func12, Tryz.ntmps12
      go_wp2_with (go_at_call 40; refine (HN _).mono ?_; rintro e w3 ⟨rfl, rfl⟩)
      refine bodyPost_ret (v := .bool true) ?_ rfl ⟨rfl, Below.refl _ _⟩
      simp [results, Tryz.results12, go_sem]
    · have h' : ¬ ((s.size : Int) ≤ 64) := by omega
      rw [decide_eq_false h]
      go_enter Tryz.func12, Tryz.ntmps12
      go_wp2_with (go_at_call 40; refine (HN _).mono ?_; rintro e w3 ⟨rfl, rfl⟩)
      refine bodyPost_ret (v := .bool false) ?_ rfl ⟨rfl, Below.refl _ _⟩
      simp [results, Tryz.results12, go_sem]; omega
  | false =>
    rw [hb] at HN
    go_enter Tryz.func12, Tryz.ntmps12
    go_wp2_with (go_at_call 40; refine (HN _).mono ?_; rintro e w3 ⟨rfl, rfl⟩)
    refine bodyPost_ret (v := .bool false) ?_ rfl ⟨rfl, Below.refl _ _⟩
    simp [results, Tryz.results12, go_sem]
set_option maxRecDepth 100000 in
theorem named_any (s : ByteArray) (hs : s.size ≤ 281474976710656) (w : World) : Calls Tryz.prog 36 #[.string s] w fun e w' => e = .returned (.bool (namedB s)) ∧ Below w.heap.size w w' := by
  have HN := Name_any s hs
  unfold namedB
  cases hb : nameB s with
  | true =>
    rw [hb] at HN
    rcases (show s.size ≤ 64 ∨ ¬ s.size ≤ 64 by omega) with h | h
    · have h' : ((s.size : Int) ≤ 64) := by omega
      rw [decide_eq_true h]
      go_enter Tryz.func36, Tryz.ntmps36
      go_wp2_with (go_at_call 87; refine (HN _).mono ?_; rintro e w3 ⟨rfl, rfl⟩)
      refine bodyPost_ret (v := .bool true) ?_ rfl ⟨rfl, Below.refl _ _⟩
      simp [results, Tryz.results36, go_sem]
    · have h' : ¬ ((s.size : Int) ≤ 64) := by omega
      rw [decide_eq_false h]
      go_enter Tryz.func36, Tryz.ntmps36
      go_wp2_with (go_at_call 87; refine (HN _).mono ?_; rintro e w3 ⟨rfl, rfl⟩)
      refine bodyPost_ret (v := .bool false) ?_ rfl ⟨rfl, Below.refl _ _⟩
      simp [results, Tryz.results36, go_sem]; omega
  | false =>
    rw [hb] at HN
    go_enter Tryz.func36, Tryz.ntmps36
    go_wp2_with (go_at_call 87; refine (HN _).mono ?_; rintro e w3 ⟨rfl, rfl⟩)
    refine bodyPost_ret (v := .bool false) ?_ rfl ⟨rfl, Below.refl _ _⟩
    simp [results, Tryz.results36, go_sem]
/-- the source, as an interface's value -/
def srcV (A : Option Addr) (n c : Nat) : Value := .iface 32 (.agg #[.slice A n c])
theorem method_value (A : Option Addr) (n c : Nat) (w : World) : (method 485 32 (.agg #[.slice A n c]) "Value").run Tryz.prog w = .ok (95, .agg #[.slice A n c]) w := by kernel_rfl
set_option maxRecDepth 100000 in
set_option maxHeartbeats 4000000 in
theorem say_any (A : Option Addr) (L : List Sd) (c B : Nat) (loc : ByteArray) (Ap : Option Addr) (cp : Nat) (l : List Stp) (hok : PathOk l) (hn : L.length ≤ 281474976710656) (w : World) (hL : Saids w B A L) (hS : Steps w B Ap l) (hB : B ≤ w.heap.size) :
    Calls Tryz.prog 72 #[.agg #[srcV A L.length c, .string loc], .slice Ap l.length cp] w fun e w' => e = .returned (valR (valueOf L loc (leftT l))) ∧ Below w.heap.size w w' := by
  have B1 := (Below.refl w.heap.size w).alloc (Nat.le_refl _) (.cells #[srcV A L.length c, .string loc] 71)
  have HP := Print_ok Ap cp B l hok _ (hS.alloc hB (.cells #[srcV A L.length c, .string loc] 71)) (Nat.le_trans hB B1.size)
  have K := Blk.new w 71 #[srcV A L.length c, .string loc]
  have hL1 := hL.below ((Below.refl B w).alloc hB (.cells #[srcV A L.length c, .string loc] 71))
  have HV := fun (w2 : World) => Value_any A L c B loc (leftT l) hn w2
  obtain ⟨r, hr⟩ : ∃ r, valueOf L loc (leftT l) = r := ⟨_, rfl⟩
  rw [hr] at HV ⊢
  unfold Put at HP
  obtain ⟨tx, htx⟩ : ∃ tx, leftT l = tx := ⟨_, rfl⟩
  rw [htx] at HP HV
  clear hr htx hok hS hL
  obtain ⟨v1, v2, hv⟩ : ∃ v1 v2, valR r = .tuple #[.string v1, .bool v2] := by cases r <;> exact ⟨_, _, rfl⟩
  rw [hv] at HV ⊢
  clear hv
  have HM := method_value A L.length c
  unfold srcV at *
  go_enter Tryz.func72, Tryz.ntmps72
  go_wp2_with (first | (go_at_call 125; refine HP.mono ?_; rintro e w3 ⟨rfl, hb3⟩; have K3 := K.below hb3 K.lt; have q0 := K3.at_ 0 (v := .iface 32 (.agg #[.slice A L.length c])) rfl; have q1 := K3.at_ 1 (v := .string loc) rfl; have B3 := B1.trans (hb3.mono B1.size); have hL3 := hL1.below (hb3.mono (Nat.le_trans hB B1.size)); have HV3 := HV w3 hL3 (Nat.le_trans hB B3.size)) | (go_at_call 95; refine HV3.mono ?_; rintro e w4 ⟨rfl, hb4⟩; have B4 := B3.trans (hb4.mono B3.size)))
  refine bodyPost_ret (v := .tuple #[.string v1, .bool v2]) ?_ rfl ⟨rfl, B4⟩
  simp [results, Tryz.results72, go_sem]
end Go.Proofs.YtjmebclcmpfdmaaGreatDoor
namespace Go.Proofs.YtjmebclcmpfdmaaGreatDoor
open Go.RowKit
open Ph
theorem add_new (g j : Nat) : (⟨g, 0, none⟩ : Addr).add j = ⟨g, j, none⟩ := by
  unfold Addr.add; split
  · rename_i h; rw [h]
  · simp
theorem steps_new {w : World} {B : Nat} {l : List Stp} {xs : List Value} (h : Cells w B l xs) (hB : B ≤ w.heap.size) (t : TypeId) : Steps (w.alloc (.cells xs.toArray t)) (w.heap.size + 1) (some ⟨w.heap.size, 0, none⟩) l :=
  ⟨xs, (h.blw ((Below.refl B w).alloc hB _)).more (by omega), h.length, fun _ => ⟨_, rfl, Nat.lt_succ_self _, fun j u hj => by
    rw [add_new, (Blk.new w t xs.toArray).cell j]
    simpa using hj⟩⟩
def numbersB : ByteArray := ⟨#[110, 117, 109, 98, 101, 114, 115]⟩
def defaultB : ByteArray := ⟨#[100, 101, 102, 97, 117, 108, 116, 78, 117, 109, 98, 101, 114, 105, 110, 103, 83, 121, 115, 116, 101, 109]⟩
def latnB : ByteArray := ⟨#[108, 97, 116, 110]⟩
/-- the path of the system of digits -/
def sysP : List Stp := [⟨numbersB, []⟩, ⟨defaultB, []⟩]
theorem sysP_ok : PathOk sysP := ⟨by decide, by decide, by decide +kernel, by decide +kernel⟩
theorem cells_one {w : World} {B : Nat} (n : ByteArray) {l : List Stp} {xs : List Value} (h : Cells w B l xs) : Cells w B (⟨n, []⟩ :: l) (.string n :: .slice none 0 0 :: xs) := .cons n [] none 0 l xs Pairs.nil h
/-- the system of digits that a source says -/
def systemV (L : List Sd) (loc : ByteArray) : ByteArray :=
  match valueOf L loc (leftT sysP) with
  | some v => if namedB v then v else latnB
  | none => latnB
theorem value_in {L : List Sd} {loc path t : ByteArray} (h : valueOf L loc path = some t) : ∃ x ∈ L, x.text = t := by
  unfold valueOf at h
  cases hf : L.find? (hitB loc path) with
  | none => rw [hf] at h; cases h
  | some x => rw [hf] at h; exact ⟨x, List.mem_of_find?_eq_some hf, by simpa using h⟩
set_option maxRecDepth 100000 in
set_option maxHeartbeats 4000000 in
theorem refSystem_any (A : Option Addr) (L : List Sd) (c B : Nat) (loc : ByteArray) (hn : L.length ≤ 281474976710656) (hx : ∀ x ∈ L, x.text.size ≤ 281474976710656) (w : World) (hL : Saids w B A L) (hB : B ≤ w.heap.size) :
    Calls Tryz.prog 13 #[.agg #[.slice A L.length c], .string loc] w fun e w' => e = .returned (.string (systemV L loc)) ∧ Below w.heap.size w w' := by
  have B1 := (Below.refl w.heap.size w).alloc (Nat.le_refl _) (.cells #[.slice A L.length c] 32)
  have K := Blk.new w 32 #[.slice A L.length c]
  have S := steps_new (cells_one numbersB (cells_one defaultB (Cells.nil (w := w.alloc (.cells #[.slice A L.length c] 32)) (B := 0)))) (Nat.zero_le _) 92
  rw [World.size_alloc] at S
  obtain ⟨l, hl⟩ : ∃ l, sysP = l := ⟨_, rfl⟩
  have hok := sysP_ok
  unfold systemV
  change Steps _ _ _ sysP at S
  have hlen : sysP.length = 2 := rfl
  rw [hl] at S hok hlen ⊢
  clear hl
  have B2 := B1.alloc B1.size (.cells #[.string numbersB, .slice none 0 0, .string defaultB, .slice none 0 0] 92)
  have q0 := (K.alloc (.cells #[.string numbersB, .slice none 0 0, .string defaultB, .slice none 0 0] 92)).at_ 0 (v := .slice A L.length c) rfl
  have p0 := K.at_ 0 (v := .slice A L.length c) rfl
  have HA := Ask_any A L c (w.heap.size + 1 + 1) loc (some ⟨w.heap.size + 1, 0, none⟩) 2 l hok hn _ ((hL.below ((((Below.refl B w).alloc hB (.cells #[.slice A L.length c] 32))).alloc (by simp; omega) (.cells #[.string numbersB, .slice none 0 0, .string defaultB, .slice none 0 0] 92))).more (by omega)) S (by simp)
  rw [hlen] at HA
  unfold numbersB defaultB at *
  obtain ⟨r, hr⟩ : ∃ r, valueOf L loc (leftT l) = r := ⟨_, rfl⟩
  have hrs : ∀ t, r = some t → t.size ≤ 281474976710656 := fun t ht => by
    rw [ht] at hr
    obtain ⟨x, hx1, hx2⟩ := value_in hr
    rw [← hx2]; exact hx x hx1
  rw [hr] at HA ⊢
  clear hr hok S hx K B1 hlen
  cases r with
  | none =>
    unfold valR at HA
    go_enter Tryz.func13, Tryz.ntmps13
    go_wp2_with (go_at_call 41; refine HA.mono ?_; rintro e w3 ⟨rfl, hb3⟩; have B3 := B2.trans (hb3.mono B2.size))
    refine bodyPost_ret (v := .string latnB) ?_ rfl ⟨rfl, B3⟩
    simp [results, Tryz.results13, go_sem, latnB]
  | some t =>
    have HN := refNamed_any t (hrs t rfl)
    unfold valR at HA
    dsimp only
    cases hb : namedB t with
    | true =>
      rw [hb] at HN
      go_enter Tryz.func13, Tryz.ntmps13
      go_wp2_with (first | (go_at_call 41; refine HA.mono ?_; rintro e w3 ⟨rfl, hb3⟩; have B3 := B2.trans (hb3.mono B2.size)) | (go_at_call 12; refine (HN _).mono ?_; rintro e w4 ⟨rfl, hb4⟩; have B4 := B3.trans (hb4.mono B3.size)))
      refine bodyPost_ret (v := .string t) ?_ rfl ⟨rfl, B4⟩
      simp [results, Tryz.results13, go_sem]
    | false =>
      rw [hb] at HN
      go_enter Tryz.func13, Tryz.ntmps13
      go_wp2_with (first | (go_at_call 41; refine HA.mono ?_; rintro e w3 ⟨rfl, hb3⟩; have B3 := B2.trans (hb3.mono B2.size)) | (go_at_call 12; refine (HN _).mono ?_; rintro e w4 ⟨rfl, hb4⟩; have B4 := B3.trans (hb4.mono B3.size)))
      refine bodyPost_ret (v := .string latnB) ?_ rfl ⟨rfl, B4⟩
      simp [results, Tryz.results13, go_sem, latnB]
end Go.Proofs.YtjmebclcmpfdmaaGreatDoor
namespace Go.Proofs.YtjmebclcmpfdmaaGreatDoor
open Go.RowKit
open Ph
set_option maxRecDepth 100000 in
set_option maxHeartbeats 4000000 in
theorem at_nil (n : ByteArray) (w : World) : Calls Tryz.prog 73 #[.string n, .slice none 0 0] w fun e w' => e = .returned (.agg #[.string n, .slice none 0 0]) ∧ Below w.heap.size w w' := by
  go_enter Tryz.func73, Tryz.ntmps73
  go_wp2_with fail
  go_loopw [6] (fun u wr => u = .int .i64 0 ∧ Blk wr w.heap.size 92 #[.string ⟨#[]⟩, .slice none 0 0] ∧ Blk wr (w.heap.size + 1) 92 #[.string n, .slice none 0 0] ∧ Below w.heap.size w wr) (fun u _ => 0)
  case atStart =>
    refine ⟨rfl, (Blk.new w _ _).alloc _, ?_, (((Below.refl w.heap.size w).alloc (Nat.le_refl _) _).alloc (by simp) _)⟩
    have := Blk.new (w.alloc (.cells #[.string ⟨#[]⟩, .slice none 0 0] 92)) 92 #[.string n, .slice none 0 0]
    simpa using this
  case round =>
    obtain ⟨rfl, R, K, hb⟩ := hrel
    have k0 := K.at_ 0 (v := .string n) rfl
    have k1 := K.at_ 1 (v := .slice none 0 0) rfl
    have r0 := R.at_ 0 (v := .string ⟨#[]⟩) rfl
    have r1 := R.at_ 1 (v := .slice none 0 0) rfl
    have rf := R.frozen
    go_wp2_with fail
    have R1 := (R.set_ 0 (.string n)).set_ 1 (.slice none 0 0)
    have hb2 := (hb.setCell (p := ⟨w.heap.size, 0, none⟩) (Nat.le_refl _) (.string n)).setCell (p := ⟨w.heap.size, 1, none⟩) (Nat.le_refl _) (.slice none 0 0)
    have e0 := R1.at_ 0 (v := .string n) rfl
    have e1 := R1.at_ 1 (v := .slice none 0 0) rfl
    refine bodyPost_ret (v := .agg #[.string n, .slice none 0 0]) ?_ rfl ⟨rfl, hb2⟩
    simp [results, Tryz.results73, go_sem, e0, e1]
end Go.Proofs.YtjmebclcmpfdmaaGreatDoor
namespace Go.Proofs.YtjmebclcmpfdmaaGreatDoor
open Go.RowKit
open Ph
def sysObj : Obj := .cells #[.string numbersB, .slice none 0 0, .string defaultB, .slice none 0 0] 92
theorem say_sys (A : Option Addr) (L : List Sd) (c B : Nat) (loc : ByteArray) (hn : L.length ≤ 281474976710656) (w : World) (hL : Saids w B A L) (hB : B ≤ w.heap.size) :
    Calls Tryz.prog 72 #[.agg #[srcV A L.length c, .string loc], .slice (some ⟨w.heap.size, 0, none⟩) 2 2] (w.alloc sysObj) fun e w' => e = .returned (valR (valueOf L loc (leftT sysP))) ∧ Below (w.heap.size + 1) (w.alloc sysObj) w' := by
  have S : Steps _ _ _ sysP := steps_new (cells_one numbersB (cells_one defaultB (Cells.nil (w := w) (B := 0)))) (Nat.zero_le _) 92
  have hz : (w.alloc sysObj).heap.size = w.heap.size + 1 := by simp
  have := say_any A L c (w.heap.size + 1) loc (some ⟨w.heap.size, 0, none⟩) 2 sysP sysP_ok hn (w.alloc sysObj) ((hL.below ((Below.refl B w).alloc hB _)).more (by omega)) S (by omega)
  rw [hz] at this
  exact this
structure Vw (w : World) (B : Nat) (A : Option Addr) (L : List Sd) (sv : Value) (loc : ByteArray) (wx : World) : Prop where
  k : Blk wx w.heap.size 71 #[sv, .string loc]
  s : Saids wx B A L
  b : Below w.heap.size w wx
theorem Vw.drew {w wx : World} {B : Nat} {A : Option Addr} {L : List Sd} {sv : Value} {loc : ByteArray} (h : Vw w B A L sv loc wx) : Vw w B A L sv loc wx.drew := ⟨h.k.drew, h.s, blw_drew h.b⟩
theorem Vw.call {w wx wy : World} {B : Nat} {A : Option Addr} {L : List Sd} {sv : Value} {loc : ByteArray} (h : Vw w B A L sv loc wx) (hb : Below wx.heap.size wx wy) (hB : B ≤ w.heap.size) : Vw w B A L sv loc wy := ⟨h.k.below hb h.k.lt, h.s.below (hb.mono (Nat.le_trans hB h.b.size)), h.b.trans (hb.mono h.b.size)⟩
theorem Vw.alloc {w wx : World} {B : Nat} {A : Option Addr} {L : List Sd} {sv : Value} {loc : ByteArray} (h : Vw w B A L sv loc wx) (hB : B ≤ w.heap.size) (o : Obj) : Vw w B A L sv loc (wx.alloc o) := h.call ((Below.refl _ _).alloc (Nat.le_refl _) o) hB
theorem Vw.c0 {w wx : World} {B : Nat} {A : Option Addr} {L : List Sd} {sv : Value} {loc : ByteArray} (h : Vw w B A L sv loc wx) : wx.cell? ⟨w.heap.size, 0, none⟩ = some sv := h.k.at_ 0 rfl
theorem Vw.c1 {w wx : World} {B : Nat} {A : Option Addr} {L : List Sd} {sv : Value} {loc : ByteArray} (h : Vw w B A L sv loc wx) : wx.cell? ⟨w.heap.size, 1, none⟩ = some (.string loc) := h.k.at_ 1 rfl
set_option maxRecDepth 100000 in
set_option maxHeartbeats 8000000 in
theorem system_any (A : Option Addr) (L : List Sd) (c B : Nat) (loc : ByteArray) (hn : L.length ≤ 281474976710656) (hx : ∀ x ∈ L, x.text.size ≤ 281474976710656) (w : World) (hL : Saids w B A L) (hB : B ≤ w.heap.size) :
    Calls Tryz.prog 30 #[.agg #[srcV A L.length c, .string loc]] w fun e w' => e = .returned (.string (systemV L loc)) ∧ Below w.heap.size w w' := by
  have B1 := (Below.refl w.heap.size w).alloc (Nat.le_refl _) (.cells #[srcV A L.length c, .string loc] 71)
  have K := Blk.new w 71 #[srcV A L.length c, .string loc]
  obtain ⟨sv, hsv⟩ : ∃ sv, srcV A L.length c = sv := ⟨_, rfl⟩
  have k0 := K.at_ 0 (v := srcV A L.length c) rfl
  have k1 := K.at_ 1 (v := .string loc) rfl
  have hL1 := hL.below ((Below.refl B w).alloc hB (.cells #[srcV A L.length c, .string loc] 71))
  have hle : B ≤ (w.alloc (.cells #[srcV A L.length c, .string loc] 71)).heap.size := Nat.le_trans hB B1.size
  have HS := fun (w2 : World) (h1 : Saids w2 B A L) (h2 : B ≤ w2.heap.size) => say_sys A L c B loc hn w2 h1 h2
  have H1 := at_nil numbersB
  have H2 := at_nil defaultB
  unfold sysObj at HS
  unfold systemV
  obtain ⟨r, hr⟩ : ∃ r, valueOf L loc (leftT sysP) = r := ⟨_, rfl⟩
  have hrs : ∀ t, r = some t → t.size ≤ 281474976710656 := fun t ht => by
    rw [ht] at hr
    obtain ⟨x, hx1, hx2⟩ := value_in hr
    rw [← hx2]; exact hx x hx1
  rw [hr] at HS ⊢
  clear hr hx
  rw [hsv] at K k0 hL1 HS B1 hle ⊢
  unfold numbersB defaultB at *
  clear hL hsv
  cases r with
  | none =>
    unfold valR at HS
    go_enter Tryz.func30, Tryz.ntmps30
    go_wp2_with fail
    have v0 : Vw w B A L sv loc _ := ⟨K, hL1, B1⟩
    have HSv := fun (w2 : World) (h : Vw w B A L sv loc w2) => (HS w2 h.s (Nat.le_trans hB h.b.size)).mono (fun e w' (hh : _ ∧ _) => (⟨hh.1, (h.alloc hB _).call (hh.2.mono (by simp)) hB⟩ : _ ∧ Vw w B A L sv loc w'))
    have z0 := v0.c0
    have z1 := v0.c1
    clear HS K hL1 B1 k0 k1
    go_region_held3 (fun w' => w'.cell? ⟨w.heap.size, 0, none⟩ = some sv ∧ w'.cell? ⟨w.heap.size, 1, none⟩ = some (.string loc)) (first | (with_reducible exact ⟨y30, y31⟩) | (with_reducible exact ⟨y20, y21⟩) | (with_reducible exact ⟨y10, y11⟩) | (with_reducible exact ⟨z0, z1⟩) | go_keep) ((first | (go_at_call 73; with_reducible refine (H1 _).mono ?_; rintro e y1 ⟨rfl, hc1⟩; have v1 := (by first | exact Vw.call (Vw.drew v0) hc1 hB | exact Vw.call v0 hc1 hB : Vw w B A L sv loc y1); have y10 := v1.c0; have y11 := v1.c1) | (go_at_call 73; with_reducible refine (H2 _).mono ?_; rintro e y2 ⟨rfl, hc2⟩; have v2 := Vw.call v1 hc2 hB; have y20 := v2.c0; have y21 := v2.c1) | (go_at_call 72; refine (HSv _ v2).mono ?_; rintro e y3 ⟨rfl, v3⟩; have y30 := v3.c0; have y31 := v3.c1)))
    go_wp2_with fail
    refine bodyPost_ret (v := .string latnB) ?_ rfl ⟨rfl, v3.b⟩
    simp [results, Tryz.results30, go_sem, latnB]
  | some t =>
    have HN := named_any t (hrs t rfl)
    unfold valR at HS
    dsimp only
    cases hb : namedB t with
    | true =>
      rw [hb] at HN
      go_enter Tryz.func30, Tryz.ntmps30
      go_wp2_with fail
      have v0 : Vw w B A L sv loc _ := ⟨K, hL1, B1⟩
      have HSv := fun (w2 : World) (h : Vw w B A L sv loc w2) => (HS w2 h.s (Nat.le_trans hB h.b.size)).mono (fun e w' (hh : _ ∧ _) => (⟨hh.1, (h.alloc hB _).call (hh.2.mono (by simp)) hB⟩ : _ ∧ Vw w B A L sv loc w'))
      have z0 := v0.c0
      have z1 := v0.c1
      clear HS K hL1 B1 k0 k1
      go_region_held3 (fun w' => w'.cell? ⟨w.heap.size, 0, none⟩ = some sv ∧ w'.cell? ⟨w.heap.size, 1, none⟩ = some (.string loc)) (first | (with_reducible exact ⟨y30, y31⟩) | (with_reducible exact ⟨y20, y21⟩) | (with_reducible exact ⟨y10, y11⟩) | (with_reducible exact ⟨z0, z1⟩) | go_keep) ((first | (go_at_call 73; with_reducible refine (H1 _).mono ?_; rintro e y1 ⟨rfl, hc1⟩; have v1 := (by first | exact Vw.call (Vw.drew v0) hc1 hB | exact Vw.call v0 hc1 hB : Vw w B A L sv loc y1); have y10 := v1.c0; have y11 := v1.c1) | (go_at_call 73; with_reducible refine (H2 _).mono ?_; rintro e y2 ⟨rfl, hc2⟩; have v2 := Vw.call v1 hc2 hB; have y20 := v2.c0; have y21 := v2.c1) | (go_at_call 72; refine (HSv _ v2).mono ?_; rintro e y3 ⟨rfl, v3⟩; have y30 := v3.c0; have y31 := v3.c1)))
      go_wp2_with (go_at_call 36; refine (HN _).mono ?_; rintro e w4 ⟨rfl, hb4⟩; have v4 := v3.call hb4 hB)
      refine bodyPost_ret (v := .string t) ?_ rfl ⟨rfl, v4.b⟩
      simp [results, Tryz.results30, go_sem]
    | false =>
      rw [hb] at HN
      go_enter Tryz.func30, Tryz.ntmps30
      go_wp2_with fail
      have v0 : Vw w B A L sv loc _ := ⟨K, hL1, B1⟩
      have HSv := fun (w2 : World) (h : Vw w B A L sv loc w2) => (HS w2 h.s (Nat.le_trans hB h.b.size)).mono (fun e w' (hh : _ ∧ _) => (⟨hh.1, (h.alloc hB _).call (hh.2.mono (by simp)) hB⟩ : _ ∧ Vw w B A L sv loc w'))
      have z0 := v0.c0
      have z1 := v0.c1
      clear HS K hL1 B1 k0 k1
      go_region_held3 (fun w' => w'.cell? ⟨w.heap.size, 0, none⟩ = some sv ∧ w'.cell? ⟨w.heap.size, 1, none⟩ = some (.string loc)) (first | (with_reducible exact ⟨y30, y31⟩) | (with_reducible exact ⟨y20, y21⟩) | (with_reducible exact ⟨y10, y11⟩) | (with_reducible exact ⟨z0, z1⟩) | go_keep) ((first | (go_at_call 73; with_reducible refine (H1 _).mono ?_; rintro e y1 ⟨rfl, hc1⟩; have v1 := (by first | exact Vw.call (Vw.drew v0) hc1 hB | exact Vw.call v0 hc1 hB : Vw w B A L sv loc y1); have y10 := v1.c0; have y11 := v1.c1) | (go_at_call 73; with_reducible refine (H2 _).mono ?_; rintro e y2 ⟨rfl, hc2⟩; have v2 := Vw.call v1 hc2 hB; have y20 := v2.c0; have y21 := v2.c1) | (go_at_call 72; refine (HSv _ v2).mono ?_; rintro e y3 ⟨rfl, v3⟩; have y30 := v3.c0; have y31 := v3.c1)))
      go_wp2_with (go_at_call 36; refine (HN _).mono ?_; rintro e w4 ⟨rfl, hb4⟩; have v4 := v3.call hb4 hB)
      refine bodyPost_ret (v := .string latnB) ?_ rfl ⟨rfl, v4.b⟩
      simp [results, Tryz.results30, go_sem, latnB]
end Go.Proofs.YtjmebclcmpfdmaaGreatDoor
namespace Go.Proofs.YtjmebclcmpfdmaaGreatDoor
open Go.RowKit
open Ph
def rightB (s : ByteArray) : Bool := (brk s 0).isNone
def fitB (L : List Sd) : Bool := L.all (fun x => rightB x.text) && decide (L.length ≤ 60)
theorem right_any2 (s : ByteArray) (hs : s.size ≤ 281474976710656) (b : Bool) (hb : rightB s = b) (w : World) :
    Calls Tryz.prog 64 #[.string s] w fun e w' => e = .returned (.bool b) ∧ w' = w :=
  (right_any s hs b hb w).mono fun _ _ ⟨h1, h2⟩ => ⟨h1, h2.symm⟩
theorem fit_no {L : List Sd} {i : Nat} (h : i < L.length) (hb : rightB L[i].text = false) : fitB L = false := by
  unfold fitB
  have : L.all (fun x => rightB x.text) = false := by
    rw [List.all_eq_false]
    exact ⟨L[i], List.getElem_mem h, by rw [hb]; simp⟩
  rw [this, Bool.false_and]
theorem fit_end {L : List Sd} (h : ∀ j (hj : j < L.length), rightB L[j].text = true) : fitB L = decide (L.length ≤ 60) := by
  unfold fitB
  have : L.all (fun x => rightB x.text) = true := by
    rw [List.all_eq_true]
    intro x hx
    obtain ⟨j, hj, rfl⟩ := List.getElem_of_mem hx
    exact h j hj
  rw [this, Bool.true_and]
set_option maxRecDepth 100000 in
set_option maxHeartbeats 4000000 in
theorem Fit_any (A : Option Addr) (L : List Sd) (c B : Nat) (hn : L.length ≤ 281474976710656) (hx : ∀ x ∈ L, x.text.size ≤ 281474976710656) (w : World) (hL : Saids w B A L) (hB : B ≤ w.heap.size) :
    Calls Tryz.prog 24 #[.slice A L.length c] w fun e w' => e = .returned (.bool (fitB L)) ∧ w' = w := by
  go_enter Tryz.func24, Tryz.ntmps24
  go_wp2_with fail
  go_loopw [3] (fun u wr => ∃ i : Nat, u = .int .i64 i ∧ i ≤ L.length ∧ wr = w ∧ ∀ j (hj : j < L.length), j < i → rightB L[j].text = true) (fun u _ => L.length - (intOf u).toNat)
  case atStart => exact ⟨0, rfl, by omega, rfl, fun j hj h => by omega⟩
  case round =>
    obtain ⟨i, rfl, hi, rfl, hno⟩ := hrel
    have HN := Lib.hid hno
    clear hno
    by_cases hlt : i < L.length
    · obtain ⟨ad, rfl, b0, c0, c1, c2⟩ := hL.sd hlt
      have hxx := hx L[i] (List.getElem_mem hlt)
      cases hb : rightB L[i].text with
      | true =>
        have HR := right_any2 L[i].text hxx true hb
        have HS := Lib.hid (show ∀ j (hj : j < L.length), j < i + 1 → rightB L[j].text = true from fun j hj h => by
          rcases Nat.lt_or_ge j i with g | g
          · exact HN.out j hj g
          · obtain rfl : j = i := by omega
            exact hb)
        clear hb
        generalize hxe : L[i].text = tx at *
        clear hxe
        go_wp2_with (go_at_call 64; refine (HR _).mono ?_; rintro e w3 ⟨rfl, rfl⟩)
        go_roundw
        case rel => exact ⟨i + 1, by go_num, hlt, by trivial, HS.out⟩
        case measure => simp [intOf]; omega
      | false =>
        have HR := right_any2 L[i].text hxx false hb
        have HF := Lib.hid (fit_no hlt hb)
        clear hb
        generalize hxe : L[i].text = tx at *
        clear hxe
        go_wp2_with (go_at_call 64; refine (HR _).mono ?_; rintro e w3 ⟨rfl, rfl⟩)
        refine bodyPost_ret (v := .bool false) ?_ rfl ⟨by rw [HF.out], by trivial⟩
        simp [results, Tryz.results24, go_sem]
    · have HE := Lib.hid (fit_end fun j hj => HN.out j hj (by omega))
      go_wp2_with fail
      refine bodyPost_ret (v := .bool (decide (L.length ≤ 60))) ?_ rfl ⟨by rw [HE.out], by trivial⟩
      simp [results, Tryz.results24, go_sem]
      try omega
end Go.Proofs.YtjmebclcmpfdmaaGreatDoor
namespace Go.Proofs.YtjmebclcmpfdmaaGreatDoor
open Go.RowKit
open Ph
set_option maxRecDepth 100000 in
theorem few_any (A : Option Addr) (L : List Sd) (c B : Nat) (hn : L.length ≤ 281474976710656) (hx : ∀ x ∈ L, x.text.size ≤ 281474976710656) (w : World) (hL : Saids w B A L) (hB : B ≤ w.heap.size) :
    Calls Tryz.prog 8 #[.slice A L.length c] w fun e w' => e = .returned (.bool (fitB L)) ∧ w' = w := by
  have HF := Fit_any A L c B hn hx w hL hB
  go_enter Tryz.func8, Tryz.ntmps8
  go_wp2_with (go_at_call 24; refine HF.mono ?_; rintro e w3 ⟨rfl, rfl⟩)
  refine bodyPost_ret (v := .bool (fitB L)) ?_ rfl ⟨rfl, by trivial⟩
  simp [results, Tryz.results8, go_sem]
def minusB : ByteArray := ⟨#[109, 105, 110, 117, 115, 83, 105, 103, 110]⟩
set_option maxRecDepth 100000 in
theorem Plain_minus (w : World) : Calls Tryz.prog 98 #[.string minusB] w fun e w' => e = .returned (.string ⟨#[45]⟩) ∧ w' = w := by
  unfold minusB
  go_enter Tryz.func98, Tryz.ntmps98
  go_wp2_with fail
  refine bodyPost_ret (v := .string ⟨#[45]⟩) ?_ rfl ⟨rfl, by trivial⟩
  simp [results, Tryz.results98, go_sem]
set_option maxRecDepth 100000 in
theorem plain_minus (w : World) : Calls Tryz.prog 91 #[.string minusB] w fun e w' => e = .returned (.string ⟨#[45]⟩) ∧ w' = w := by
  unfold minusB
  go_enter Tryz.func91, Tryz.ntmps91
  go_wp2_with fail
  refine bodyPost_ret (v := .string ⟨#[45]⟩) ?_ rfl ⟨rfl, by trivial⟩
  simp [results, Tryz.results91, go_sem]
end Go.Proofs.YtjmebclcmpfdmaaGreatDoor
