/-
  Plain: marks in a row, their first places; a list of marks stands in its order. No condition.
-/
import Derived.Test.YtpcgcghhddnifaaGreatDoorGf
set_option linter.unusedVariables false
namespace Go.Proofs.YtpcgcghhddnifaaGreatDoor
open Go.RowKit
open Ph
/-- a mark and what follows it, one after another, and no other mark -/
def RowM (m : UInt8) : List (List UInt8) → List UInt8 → Prop
  | [], s => m ∉ s
  | d :: ds, s => ∃ u v, s = u ++ ((m :: d) ++ v) ∧ m ∉ u ∧ RowM m ds v
theorem RowM.ahead {m : UInt8} {ds : List (List UInt8)} {s u : List UInt8} (hu : m ∉ u) (h : RowM m ds s) : RowM m ds (u ++ s) := by
  match ds, h with
  | [], h => exact fun g => (List.mem_append.1 g).elim hu h
  | d :: ds, ⟨a, b, e, ha, hb⟩ => exact ⟨u ++ a, b, by rw [e, List.append_assoc], fun g => (List.mem_append.1 g).elim hu ha, hb⟩
theorem RowM.app {m : UInt8} {es : List (List UInt8)} {t : List UInt8} (ht : RowM m es t) : ∀ {ds : List (List UInt8)} {s : List UInt8}, RowM m ds s → RowM m (ds ++ es) (s ++ t)
  | [], s, h => ht.ahead h
  | d :: ds, s, ⟨u, v, e, hu, hv⟩ => ⟨u, v ++ t, by rw [e]; simp, hu, RowM.app ht hv⟩
theorem RowM.behind {m : UInt8} {ds : List (List UInt8)} {s v : List UInt8} (hv : m ∉ v) (h : RowM m ds s) : RowM m ds (s ++ v) := by
  have := RowM.app (m := m) (es := []) (t := v) hv h
  rwa [List.append_nil] at this
theorem RowM.one {m : UInt8} (d : List UInt8) : RowM m [d] (m :: d) → True := fun _ => trivial
theorem rowM_one {m : UInt8} (d : List UInt8) : RowM m [d] (m :: d) := ⟨[], [], by simp, by simp, by simp [RowM]⟩
theorem idx_cons (b : UInt8) (l sub : List UInt8) : Lib.index (b :: l) sub = if sub.isPrefixOf (b :: l) then 0 else if Lib.index l sub == -1 then -1 else Lib.index l sub + 1 := rfl
theorem idx_skip {m : UInt8} {d r : List UInt8} : ∀ {u : List UInt8}, m ∉ u → Lib.index (u ++ r) (m :: d) = if Lib.index r (m :: d) = -1 then -1 else (u.length : Int) + Lib.index r (m :: d)
  | [], _ => by
    by_cases h : Lib.index r (m :: d) = -1
    · rw [if_pos h]; exact h
    · rw [if_neg h]; simp
  | b :: u, hu => by
    have hb : b ≠ m := fun e => hu (by simp [e])
    have hu' : m ∉ u := fun h => hu (by simp [h])
    have hp : (m :: d).isPrefixOf (b :: (u ++ r)) = false := by
      simp [List.isPrefixOf, Ne.symm hb]
    have ih := idx_skip (d := d) (r := r) hu'
    have ge := Lib.index_ge r (m :: d)
    show Lib.index (b :: (u ++ r)) (m :: d) = _
    rw [idx_cons, hp, ih]
    by_cases h : Lib.index r (m :: d) = -1
    · rw [if_pos h, if_pos h]; rfl
    · rw [if_neg h, if_neg h]
      have hne : (((u.length : Int) + Lib.index r (m :: d)) == -1) = false := by rw [beq_eq_false_iff_ne]; omega
      simp only [hne, Bool.false_eq_true, if_false, List.length_cons]
      omega
theorem idx_head {m : UInt8} (d v : List UInt8) : Lib.index ((m :: d) ++ v) (m :: d) = 0 := by
  show Lib.index (m :: (d ++ v)) (m :: d) = 0
  rw [idx_cons]
  have : (m :: d).isPrefixOf (m :: (d ++ v)) = true := by simp [List.isPrefixOf]
  rw [if_pos this]
theorem pre_ne {d e v : List UInt8} (hl : d.length = e.length) (hne : d ≠ e) : d.isPrefixOf (e ++ v) = false := by
  rw [Bool.eq_false_iff]
  intro h
  obtain ⟨t, ht⟩ := List.isPrefixOf_iff_prefix.1 h
  have := List.append_inj ht hl
  exact hne this.1
theorem idx_other {m : UInt8} {d e v : List UInt8} (hl : d.length = e.length) (hne : d ≠ e) (he : m ∉ e) : Lib.index ((m :: e) ++ v) (m :: d) = if Lib.index v (m :: d) = -1 then -1 else (e.length : Int) + 1 + Lib.index v (m :: d) := by
  have hp : (m :: d).isPrefixOf (m :: (e ++ v)) = false := by
    simp only [List.isPrefixOf, beq_self_eq_true, Bool.true_and]
    exact pre_ne hl hne
  have ih := idx_skip (d := d) (r := v) he
  have ge := Lib.index_ge v (m :: d)
  show Lib.index (m :: (e ++ v)) (m :: d) = _
  rw [idx_cons, hp, ih]
  by_cases h : Lib.index v (m :: d) = -1
  · rw [if_pos h, if_pos h]; rfl
  · rw [if_neg h, if_neg h]
    have hx : (((e.length : Int) + Lib.index v (m :: d)) == -1) = false := by rw [beq_eq_false_iff_ne]; omega
    simp only [hx, Bool.false_eq_true, if_false]
    omega
/-- in a row of unlike marks each one's first place lies behind the ones ahead -/
theorem RowM.rise {m : UInt8} {k : Nat} : ∀ {ds : List (List UInt8)} {s : List UInt8}, RowM m ds s → (∀ d ∈ ds, d.length = k ∧ m ∉ d) → ds.Nodup →
    (∀ i (hi : i < ds.length), 0 ≤ Lib.index s (m :: ds[i])) ∧ (∀ i j (hi : i < ds.length) (hj : j < ds.length), i < j → Lib.index s (m :: ds[i]) < Lib.index s (m :: ds[j]))
  | [], s, h, hd, hn => ⟨fun i hi => absurd hi (by simp), fun i j hi => absurd hi (by simp)⟩
  | d :: ds, s, ⟨u, v, e, hu, hv⟩, hd, hn => by
    obtain ⟨hdl, hdm⟩ := hd d (by simp)
    have hn' := List.nodup_cons.1 hn
    obtain ⟨ih1, ih2⟩ := RowM.rise (k := k) hv (fun x hx => hd x (by simp [hx])) hn'.2
    have h0 : Lib.index s (m :: d) = u.length := by
      rw [e, idx_skip hu, idx_head]; simp
    have hs : ∀ i (hi : i < ds.length), Lib.index s (m :: ds[i]) = (u.length : Int) + ((d.length : Int) + 1 + Lib.index v (m :: ds[i])) := fun i hi => by
      have hm : ds[i] ∈ ds := List.getElem_mem hi
      have hne : ds[i] ≠ d := fun q => hn'.1 (q ▸ hm)
      have hl : ds[i].length = d.length := by rw [(hd ds[i] (by simp [hm])).1, hdl]
      have hp := ih1 i hi
      have h1 : ¬ Lib.index v (m :: ds[i]) = -1 := by omega
      rw [e, idx_skip hu, idx_other hl hne hdm, if_neg h1, if_neg (by omega)]
    refine ⟨fun i hi => ?_, fun i j hi hj hij => ?_⟩
    · match i, hi with
      | 0, _ => show 0 ≤ Lib.index s (m :: d); rw [h0]; omega
      | i + 1, hi =>
        have hi' : i < ds.length := by simpa using hi
        show 0 ≤ Lib.index s (m :: ds[i])
        rw [hs i hi']
        have := ih1 i hi'
        omega
    · match i, j, hi, hj, hij with
      | 0, j + 1, _, hj, _ =>
        have hj' : j < ds.length := by simpa using hj
        show Lib.index s (m :: d) < Lib.index s (m :: ds[j])
        rw [h0, hs j hj']
        have := ih1 j hj'
        omega
      | i + 1, j + 1, hi, hj, hij =>
        have hi' : i < ds.length := by simpa using hi
        have hj' : j < ds.length := by simpa using hj
        show Lib.index s (m :: ds[i]) < Lib.index s (m :: ds[j])
        rw [hs i hi', hs j hj']
        have := ih2 i j hi' hj' (by omega)
        omega
/-- which bytes a text has -/
def bytesOf (s : ByteArray) : List UInt8 := s.data.toList
theorem bytes_app (a b : ByteArray) : bytesOf (a ++ b) = bytesOf a ++ bytesOf b := by simp [bytesOf, ByteArray.data_append]
theorem par_braces {s : ByteArray} {i : Nat} {r : Except Nat (List Pc)} (h : Par s i r) : ∀ l, r = .ok l → ∀ p ∈ l, p.kind ≠ 2 → (123 : UInt8) ∉ bytesOf p.text := by
  induction h with
  | fin i h => rintro l ⟨⟩ p hp; cases hp
  | opens i j n r h h1 hj hj' h2 h3 hp hr ih =>
    intro l e
    cases r with
    | error k => cases e
    | ok m =>
      simp only [pre, Except.ok.injEq] at e
      subst e
      intro p hm
      rcases List.mem_cons.1 hm with rfl | hm
      · exact fun h => absurd rfl h
      · exact ih m rfl p hm
  | noclose i h h1 h3 => rintro l ⟨⟩
  | badplace i j h h1 hj hj' h2 h3 hp => rintro l ⟨⟩
  | closes i h h1 => rintro l ⟨⟩
  | text i k r h hk hk' h1 h2 hr ih =>
    intro l e
    cases r with
    | error k => cases e
    | ok m =>
      simp only [pre, Except.ok.injEq] at e
      subst e
      intro p hm
      rcases List.mem_cons.1 hm with rfl | hm
      · intro _ hin
        have hin : (123 : UInt8) ∈ (s.extract i k).data.toList := hin
        obtain ⟨j, hj, e⟩ := List.getElem_of_mem hin
        have hz : (s.extract i k).size = k - i := by rw [ByteArray.size_extract]; omega
        have hj' : j < (s.extract i k).size := by rw [Array.length_toList] at hj; exact hj
        refine h1 (i + j) (by omega) (by omega) (by omega) (Or.inl ?_)
        have e2 : (s.extract i k)[j] = 123 := by rw [← e]; rfl
        rw [ByteArray.getElem_extract] at e2
        exact e2
      · exact ih m rfl p hm
theorem cat_mem {tell : Int → ByteArray} {b : UInt8} {l : List Pc} {p : Pc} (hp : p ∈ l) (hb : b ∈ bytesOf (txt tell p)) : b ∈ bytesOf (catT tell l) := by
  induction l with
  | nil => cases hp
  | cons q l ih =>
    show b ∈ bytesOf (txt tell q ++ catT tell l)
    rw [bytes_app, List.mem_append]
    rcases List.mem_cons.1 hp with rfl | hp
    · exact Or.inl hb
    · exact Or.inr (ih hp)
theorem cat_not {tell : Int → ByteArray} {b : UInt8} {l : List Pc} (h : ∀ p ∈ l, b ∉ bytesOf (txt tell p)) : b ∉ bytesOf (catT tell l) := by
  induction l with
  | nil => intro g; cases g
  | cons q l ih =>
    show b ∉ bytesOf (txt tell q ++ catT tell l)
    rw [bytes_app, List.mem_append]
    rintro (g | g)
    · exact h q (by simp) g
    · exact ih (fun p hp => h p (by simp [hp])) g
theorem txt_plain {t u : Int → ByteArray} {p : Pc} (h : p.kind ≠ 2) : txt t p = txt u p := by unfold txt; rw [if_neg h, if_neg h]
/-- the texts around the places have no byte that the phrase has not -/
theorem TwoP.none {s : ByteArray} {b : Bool} {l1 l2 l3 : List Pc} {p q : Pc} (h : TwoP s b l1 l2 l3 p q) {c : UInt8} (hc : c ∉ bytesOf s) : c ∉ bytesOf (kat l1) ∧ c ∉ bytesOf (kat l2) ∧ c ∉ bytesOf (kat l3) := by
  have hs := h.fine.cat
  have g : ∀ x ∈ l1 ++ p :: (l2 ++ q :: l3), x.kind ≠ 2 → c ∉ bytesOf (txt noTell x) := fun x hx hk hb => hc (by
    rw [← hs]
    exact cat_mem hx (by rw [txt_plain (u := noTell) hk]; exact hb))
  refine ⟨cat_not fun x hx => g x (by simp [hx]) (h.plain x (by simp [hx])), cat_not fun x hx => g x (by simp [hx]) (h.plain x (by simp [hx])), cat_not fun x hx => g x (by simp [hx]) (h.plain x (by simp [hx]))⟩
theorem TwoP.braces {s : ByteArray} {b : Bool} {l1 l2 l3 : List Pc} {p q : Pc} (h : TwoP s b l1 l2 l3 p q) : (123 : UInt8) ∉ bytesOf (kat l1) ∧ (123 : UInt8) ∉ bytesOf (kat l2) ∧ (123 : UInt8) ∉ bytesOf (kat l3) := by
  have g : ∀ x ∈ l1 ++ p :: (l2 ++ q :: l3), x.kind ≠ 2 → (123 : UInt8) ∉ bytesOf (txt noTell x) := fun x hx hk => by
    unfold txt
    rw [if_neg hk]
    exact par_braces h.fine.2.2 _ rfl x hx hk
  refine ⟨cat_not fun x hx => g x (by simp [hx]) (h.plain x (by simp [hx])), cat_not fun x hx => g x (by simp [hx]) (h.plain x (by simp [hx])), cat_not fun x hx => g x (by simp [hx]) (h.plain x (by simp [hx]))⟩
theorem TwoP.text {s : ByteArray} {b : Bool} {l1 l2 l3 : List Pc} {p q : Pc} (h : TwoP s b l1 l2 l3 p q) : bytesOf s = bytesOf (kat l1) ++ ((123 :: (if b then [48, 125] else [49, 125])) ++ (bytesOf (kat l2) ++ ((123 :: (if b then [49, 125] else [48, 125])) ++ bytesOf (kat l3)))) := by
  have e1 : catT tellP l1 = kat l1 := catT_plain fun z hz => h.plain z (by simp [hz])
  have e2 : catT tellP l2 = kat l2 := catT_plain fun z hz => h.plain z (by simp [hz])
  have e3 : catT tellP l3 = kat l3 := catT_plain fun z hz => h.plain z (by simp [hz])
  have hs := h.fine.cat
  rw [catT_app] at hs
  have hs : catT tellP l1 ++ (txt tellP p ++ catT tellP (l2 ++ q :: l3)) = s := hs
  rw [catT_app] at hs
  have hs : catT tellP l1 ++ (txt tellP p ++ (catT tellP l2 ++ (txt tellP q ++ catT tellP l3))) = s := hs
  rw [e1, e2, e3] at hs
  unfold txt at hs
  rw [if_pos h.kp, if_pos h.kq] at hs
  rw [← hs]
  simp only [bytes_app]
  rcases h.at_ with ⟨rfl, a, c⟩ | ⟨rfl, a, c⟩ <;> rw [a, c] <;> rfl
/-- where the first place stands ahead of the second in a phrase's text, it is the first of its places -/
theorem TwoP.ahead {s : ByteArray} {b : Bool} {l1 l2 l3 : List Pc} {p q : Pc} (h : TwoP s b l1 l2 l3 p q) (hi : Lib.index (bytesOf s) [123, 48, 125] < Lib.index (bytesOf s) [123, 49, 125]) : b = true := by
  cases b with
  | true => rfl
  | false =>
    exfalso
    obtain ⟨b1, b2, b3⟩ := h.braces
    have ht := h.text
    simp only [Bool.false_eq_true, if_false] at ht
    have hr : RowM 123 [[49, 125], [48, 125]] (bytesOf s) := ⟨_, _, ht, b1, _, _, rfl, b2, b3⟩
    have := (hr.rise (k := 2) (by decide) (by decide)).2 0 1 (by decide) (by decide) (by decide)
    have this : Lib.index (bytesOf s) [123, 49, 125] < Lib.index (bytesOf s) [123, 48, 125] := this
    omega
def tg (i : Nat) : List UInt8 := [UInt8.ofNat (48 + i), 62]
def itm (i : Nat) : ByteArray := ⟨(60 :: tg i).toArray⟩
def itms (n : Nat) : List ByteArray := (List.range n).map itm
/-- the marks from one on to another -/
def tgs (a b : Nat) : List (List UInt8) := (List.range' a (b - a)).map tg
theorem fill_row {s : ByteArray} (h : onceT s 2 = true) (hlt : (60 : UInt8) ∉ bytesOf s) (hah : Lib.index (bytesOf s) [123, 48, 125] < Lib.index (bytesOf s) [123, 49, 125]) {x y : ByteArray} {ds es : List (List UInt8)} (hx : RowM 60 ds (bytesOf x)) (hy : RowM 60 es (bytesOf y)) (he : (fillT s [x, y]).2 = 0) :
    RowM 60 (ds ++ es) (bytesOf (fillT s [x, y]).1) := by
  obtain ⟨b, l1, l2, l3, p, q, ht⟩ := two_of_once h
  obtain rfl := ht.ahead hah
  obtain ⟨n1, n2, n3⟩ := ht.none hlt
  rw [ht.fill x y he]
  simp only [if_true, bytes_app]
  exact RowM.ahead n1 (RowM.app (RowM.ahead n2 (RowM.behind n3 hy)) hx)
theorem itm_row (i : Nat) : RowM 60 [tg i] (bytesOf (itm i)) := rowM_one (tg i)
theorem getT_itms {n j : Nat} (h : j < n) : getT (itms n) j = itm j := by
  have hl : j < (itms n).length := by simp [itms, h]
  rw [getT_get hl]
  simp [itms]
theorem tgs_cons {a b : Nat} (h : a < b) : tgs a b = tg a :: tgs (a + 1) b := by
  unfold tgs
  rw [show b - a = (b - (a + 1)) + 1 by omega, List.range'_succ]
  rfl
theorem tgs_self (a : Nat) : tgs a a = [] := by unfold tgs; simp
structure Ahead (s : ByteArray) : Prop where
  once : onceT s 2 = true
  none : (60 : UInt8) ∉ bytesOf s
  ahead : Lib.index (bytesOf s) [123, 48, 125] < Lib.index (bytesOf s) [123, 49, 125]
theorem accT_row {ed mid : ByteArray} (n : Nat) (hed : Ahead ed) (hmid : Ahead mid) (h3 : 3 ≤ n) : ∀ k, k ≤ n - 3 → (accT ed mid (itms n) k).2 = 0 → RowM 60 (tgs (n - 2 - k) n) (bytesOf (accT ed mid (itms n) k).1) := by
  have hl : (itms n).length = n := by simp [itms]
  intro k
  induction k with
  | zero =>
    intro _ he
    have he' := he
    unfold accT at he' ⊢
    rw [hl, getT_itms (show n - 2 < n by omega), getT_itms (show n - 1 < n by omega)] at he' ⊢
    rw [Nat.sub_zero, tgs_cons (by omega), show n - 2 + 1 = n - 1 by omega, tgs_cons (by omega), show n - 1 + 1 = n by omega, tgs_self]
    exact fill_row hed.once hed.none hed.ahead (itm_row _) (itm_row _) he'
  | succ k ih =>
    intro hk he
    obtain ⟨h0, e⟩ := accT_ok he
    rw [e] at he ⊢
    rw [hl, getT_itms (show n - 3 - k < n by omega)] at he ⊢
    rw [show n - 2 - (k + 1) = n - 3 - k by omega, tgs_cons (by omega), show n - 3 - k + 1 = n - 2 - k by omega]
    exact fill_row hmid.once hmid.none hmid.ahead (itm_row _) (ih (by omega) h0) he
theorem listP_row {two st mid ed : ByteArray} (n : Nat) (h2 : Ahead two) (hst : Ahead st) (hed : Ahead ed) (hmid : Ahead mid) (he : (listP two st mid ed (itms n)).2 = 0) : RowM 60 (tgs 0 n) (bytesOf (listP two st mid ed (itms n)).1) := by
  have hl : (itms n).length = n := by simp [itms]
  unfold listP at he ⊢
  rw [hl] at he ⊢
  by_cases c0 : n = 0
  · subst c0
    rw [if_pos rfl]
    intro g; cases g
  rw [if_neg c0] at he ⊢
  by_cases c1 : n = 1
  · subst c1
    rw [if_pos rfl] at he ⊢
    rw [getT_itms (by decide)] at he ⊢
    rw [if_neg (by decide)]
    exact itm_row 0
  rw [if_neg c1] at he ⊢
  by_cases c2 : n = 2
  · subst c2
    rw [if_pos rfl] at he ⊢
    rw [getT_itms (by decide), getT_itms (by decide)] at he ⊢
    exact fill_row h2.once h2.none h2.ahead (itm_row 0) (itm_row 1) he
  rw [if_neg c2] at he ⊢
  split at he
  · rename_i ha
    rw [if_pos ha]
    have hr := accT_row n hed hmid (by omega) _ (Nat.le_refl _) ha
    rw [getT_itms (show 0 < n by omega)] at he ⊢
    rw [show n - 2 - (n - 3) = 1 by omega] at hr
    rw [tgs_cons (show 0 < n by omega)]
    exact fill_row hst.once hst.none hst.ahead (itm_row 0) hr he
  · rename_i ha
    exact absurd he ha
theorem tgs_get {n i : Nat} (h : i < n) : (tgs 0 n)[i]? = some (tg i) := by
  unfold tgs
  simp [h]
/-- the marks' first places rise -/
theorem listP_rise {two st mid ed : ByteArray} (n : Nat) (h5 : n ≤ 5) (h2 : Ahead two) (hst : Ahead st) (hed : Ahead ed) (hmid : Ahead mid) (he : (listP two st mid ed (itms n)).2 = 0) (i j : Nat) (hij : i < j) (hj : j < n) :
    Lib.index (bytesOf (listP two st mid ed (itms n)).1) (bytesOf (itm i)) < Lib.index (bytesOf (listP two st mid ed (itms n)).1) (bytesOf (itm j)) := by
  have hr := listP_row n h2 hst hed hmid he
  have hlen : (tgs 0 n).length = n := by simp [tgs]
  have hp : (∀ d ∈ tgs 0 n, d.length = 2 ∧ (60 : UInt8) ∉ d) ∧ (tgs 0 n).Nodup := by
    match n, h5 with
    | 0, _ => decide
    | 1, _ => decide
    | 2, _ => decide
    | 3, _ => decide
    | 4, _ => decide
    | 5, _ => decide
  have := (hr.rise hp.1 hp.2).2 i j (by omega) (by omega) hij
  have gi : (tgs 0 n)[i]'(by omega) = tg i := by have := tgs_get (n := n) (show i < n by omega); rw [List.getElem?_eq_getElem (by omega)] at this; exact Option.some.inj this
  have gj : (tgs 0 n)[j]'(by omega) = tg j := by have := tgs_get (n := n) hj; rw [List.getElem?_eq_getElem (by omega)] at this; exact Option.some.inj this
  rw [gi, gj] at this
  exact this
end Go.Proofs.YtpcgcghhddnifaaGreatDoor
