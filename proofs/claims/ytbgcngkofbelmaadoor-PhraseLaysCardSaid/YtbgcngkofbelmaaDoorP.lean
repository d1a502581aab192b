/-
  Contracts of Lay and Fill: pieces with arguments. Condition: strings.ContainsAny's contract at the pieces' texts; texts short enough to be in memory.
-/
import Derived.Test.YtbgcngkofbelmaaDoorO
namespace Go.Proofs.YtbgcngkofbelmaaDoor
open Go.RowKit
open Ph
def Texts (w : World) (B : Nat) (A : Option Addr) (xs : List ByteArray) : Prop :=
  0 < xs.length → ∃ ad : Addr, A = some ad ∧ ad.block < B ∧ ∀ j (h : j < xs.length), w.cell? (ad.add j) = some (.string xs[j])
theorem Texts.below {w w' : World} {B : Nat} {A : Option Addr} {l : List ByteArray} (h : Texts w B A l) (hb : Below B w w') : Texts w' B A l := fun hn => by
  obtain ⟨ad, e, hlt, hc⟩ := h hn
  exact ⟨ad, e, hlt, fun j hj => (hb.cell (p := ad.add j) (by rw [block_of_add]; exact hlt)).trans (hc j hj)⟩
theorem Texts.alloc {w : World} {B : Nat} {A : Option Addr} {l : List ByteArray} (h : Texts w B A l) (hB : B ≤ w.heap.size) (o : Obj) : Texts (w.alloc o) B A l := h.below ((Below.refl _ _).alloc hB o)
theorem Texts.more {w : World} {B B' : Nat} {A : Option Addr} {l : List ByteArray} (h : Texts w B A l) (hB : B ≤ B') : Texts w B' A l := fun hn => by
  obtain ⟨ad, e, hlt, hc⟩ := h hn
  exact ⟨ad, e, by omega, hc⟩
def argOf (xs : List ByteArray) (n : Int) : ByteArray := xs.getD n.toNat ⟨#[]⟩
def layP (xs : List ByteArray) (l : List Pc) : ByteArray × Int :=
  match badAt l with
  | some _ => (⟨#[]⟩, 2)
  | none =>
    match l.any (big xs.length) with
    | true => (⟨#[]⟩, 2)
    | false =>
      match putAll (argOf xs) 262144 ⟨#[]⟩ l with
      | some b => (b, 0)
      | none => (⟨#[]⟩, 3)
def layR (xs : List ByteArray) (l : List Pc) : Value := .tuple #[.string (layP xs l).1, .int .i64 (layP xs l).2]
theorem firstBad_none {l : List Pc} : ∀ n i, firstBad l i n = none → ∀ j, i ≤ j → j < i + n → okAt l j = true := by
  intro n
  induction n with
  | zero => intro i _ j h1 h2; omega
  | succ n ih =>
    intro i h j h1 h2
    rw [firstBad] at h
    by_cases c : okAt l i = true
    · rw [if_pos c] at h
      rcases Nat.lt_or_ge i j with g | g
      · exact ih (i + 1) h j (by omega) (by omega)
      · obtain rfl : i = j := by omega
        exact c
    · rw [if_neg c] at h; cases h
theorem bad_none_place {l : List Pc} (h : badAt l = none) {p : Pc} (hp : p ∈ l) (k : p.kind = 2) : 0 ≤ p.place ∧ p.place < 16 := by
  obtain ⟨i, hi, rfl⟩ := List.mem_iff_getElem.1 hp
  have := firstBad_none _ _ h i (by omega) (by omega)
  unfold okAt at this
  have e : l.getD i pz = l[i] := by simp [hi]
  rw [e] at this
  unfold mayB at this
  rw [if_neg (by omega), if_pos k] at this
  simpa using this
set_option maxRecDepth 100000 in
set_option maxHeartbeats 4000000 in
theorem clo2 (n q B : Nat) (A : Option Addr) (xs : List ByteArray) (cc : Nat) (w : World) (hq : w.cell? ⟨q, 0, none⟩ = some (.slice A xs.length cc)) (hx : Texts w B A xs) (hn : n < xs.length) (hl : xs.length ≤ 281474976710656) :
    Calls Tryd.prog 40 #[.int .i64 n, .pointer (some ⟨q, 0, none⟩)] w fun e w' => e = .returned (.string (argOf xs n)) ∧ w' = w := by
  obtain ⟨ad, rfl, hb, hc⟩ := hx (by omega)
  have c := hc n hn
  have e : argOf xs n = xs[n] := by unfold argOf; simp [hn]
  rw [e]
  clear hc hx
  have hn' : (n : Int) < xs.length := by omega
  go_enter Tryd.func40, Tryd.ntmps40
  go_wp2_with fail
  refine bodyPost_ret (v := .string xs[n]) ?_ rfl ⟨rfl, rfl⟩
  simp [results, Tryd.results40, go_sem]
theorem enters40 (args : Array Value) (w : World) : (callFunc 40 args).run Tryd.prog w = .ok (.enter 40 args) w := by
  simp [callFunc, Tryd.func40, Tryd.f40]
theorem any_big_place {l : List Pc} {m : Nat} (h : l.any (big m) = false) {p : Pc} (hp : p ∈ l) (k : p.kind = 2) : p.place < m := by
  have := List.any_eq_false.1 h p hp
  unfold big at this
  simp [k] at this
  exact this
theorem argOf_size {xs : List ByteArray} (hx : ∀ x ∈ xs, x.size ≤ 281474976710656) (n : Int) : (argOf xs n).size ≤ 281474976710656 := by
  unfold argOf
  by_cases h : n.toNat < xs.length
  · have e : xs.getD n.toNat ⟨#[]⟩ = xs[n.toNat] := by simp [h]
    rw [e]; exact hx _ (List.getElem_mem h)
  · have e : xs.getD n.toNat ⟨#[]⟩ = ⟨#[]⟩ := by simp [h]
    rw [e]; exact Nat.zero_le _
theorem told40 {l : List Pc} {xs : List ByteArray} {W : World} {q B cc : Nat} {A : Option Addr} (ht : TellsAll l) (hx : ∀ x ∈ xs, x.size ≤ 281474976710656) (h1 : badAt l = none) (h2 : l.any (big xs.length) = false)
    (hq : W.cell? ⟨q, 0, none⟩ = some (.slice A xs.length cc)) (hqs : q < W.heap.size) (hX : Texts W B A xs) (hB : B ≤ W.heap.size) (hl : xs.length ≤ 281474976710656) : ToldBy 40 #[.pointer (some ⟨q, 0, none⟩)] W (argOf xs) l := by
  intro p hp
  constructor
  · intro k wr hb
    obtain ⟨g0, _⟩ := bad_none_place h1 hp k
    have g1 := any_big_place h2 hp k
    obtain ⟨n, hn⟩ : ∃ n : Nat, p.place = n := ⟨p.place.toNat, by omega⟩
    rw [hn]
    exact clo2 n q B A xs cc wr ((hb.cell (p := ⟨q, 0, none⟩) hqs).trans hq) (hX.below (hb.mono hB)) (by omega) hl
  · unfold txt
    by_cases k : p.kind = 2
    · rw [if_pos k]; exact argOf_size hx _
    · rw [if_neg k]; exact (ht p hp).2
set_option maxRecDepth 100000 in
set_option maxHeartbeats 4000000 in
theorem lay_any (A : Option Addr) (l : List Pc) (c B : Nat) (AA : Option Addr) (xs : List ByteArray) (cc : Nat) (ht : TellsAll l) (hn : l.length ≤ 281474976710656) (hxl : xs.length ≤ 281474976710656) (hxs : ∀ x ∈ xs, x.size ≤ 281474976710656)
    (w : World) (hL : Lists w B A l) (hX : Texts w B AA xs) (hB : B ≤ w.heap.size) :
    Calls Tryd.prog 24 #[.slice A l.length c, .slice AA xs.length cc] w fun e w' => e = .returned (layR xs l) ∧ Below w.heap.size w w' := by
  have hL1 := hL.alloc hB (.cells #[.slice AA xs.length cc] 38)
  have hX1 := hX.alloc hB (.cells #[.slice AA xs.length cc] 38)
  have hQ1 := Blk.new w 38 #[.slice AA xs.length cc]
  have hb1 := (Below.refl w.heap.size w).alloc (Nat.le_refl _) (.cells #[.slice AA xs.length cc] 38)
  have HC := check_any A l c B ht hn _ hL1 (by simp; omega)
  cases hbad : badAt l with
  | some k =>
    have hR : layR xs l = .tuple #[.string ⟨#[]⟩, .int .i64 2] := by simp [layR, layP, hbad]
    rw [hbad] at HC
    rw [hR]
    simp only [faultV] at HC
    go_enter Tryd.func24, Tryd.ntmps24
    go_wp2_with (go_at_call 19; refine HC.mono ?_; rintro e w1 ⟨rfl, hb2⟩)
    go_quiet (fail)
    go_wp2_with fail
    refine bodyPost_ret (v := .tuple #[.string ⟨#[]⟩, .int .i64 2]) ?_ rfl ⟨rfl, blw_drewN ((hb1.trans (hb2.mono hb1.size)).alloc (hb1.trans (hb2.mono hb1.size)).size _) _⟩
    simp [results, Tryd.results24, go_sem]
  | none =>
    rw [hbad] at HC
    simp only [faultV] at HC
    cases hany : l.any (big xs.length) with
    | true =>
      have hR : layR xs l = .tuple #[.string ⟨#[]⟩, .int .i64 2] := by simp only [layR, layP, hbad, hany]
      rw [hR]
      go_enter Tryd.func24, Tryd.ntmps24
      go_wp2_with (go_at_call 19; refine HC.mono ?_; rintro e w1 ⟨rfl, hb2⟩)
      have hB1 := (Nat.le_trans hB hb1.size)
      have hb3 := (hb2.alloc hb2.size (.cells #[.int .i64 0, .int .i64 0] 43))
      have hQ2 := (hQ1.below hb3 hQ1.lt)
      have hL2 := hL1.below (hb3.mono hB1)
      have hX2 := hX1.below (hb3.mono hB1)
      have hb4 := hb1.trans (hb3.mono hb1.size)
      have HF := contains_func A l c B w.heap.size AA xs.length cc hn _ hL2 (Nat.le_trans hB hb4.size) (hQ2.at_ 0 rfl) hQ2.lt
      rw [hany] at HF
      refine HF.mono ?_
      rintro e w2 ⟨rfl, hb5⟩
      have hb6 := hb4.trans (hb5.mono hb4.size)
      go_wp2_with fail
      refine bodyPost_ret (v := .tuple #[.string ⟨#[]⟩, .int .i64 2]) ?_ rfl ⟨rfl, hb6⟩
      simp [results, Tryd.results24, go_sem]
    | false =>
      cases hpa : putAll (argOf xs) 262144 ⟨#[]⟩ l with
      | some b =>
        have hR : layR xs l = .tuple #[.string b, .int .i64 0] := by simp only [layR, layP, hbad, hany, hpa]
        rw [hR]
        go_enter Tryd.func24, Tryd.ntmps24
        go_wp2_with (go_at_call 19; refine HC.mono ?_; rintro e w1 ⟨rfl, hb2⟩)
        have hB1 := (Nat.le_trans hB hb1.size)
        have hb3 := (hb2.alloc hb2.size (.cells #[.int .i64 0, .int .i64 0] 43))
        have hQ2 := (hQ1.below hb3 hQ1.lt)
        have hL2 := hL1.below (hb3.mono hB1)
        have hX2 := hX1.below (hb3.mono hB1)
        have hb4 := hb1.trans (hb3.mono hb1.size)
        have HF := contains_func A l c B w.heap.size AA xs.length cc hn _ hL2 (Nat.le_trans hB hb4.size) (hQ2.at_ 0 rfl) hQ2.lt
        rw [hany] at HF
        refine HF.mono ?_
        rintro e w2 ⟨rfl, hb5⟩
        have hb6 := hb4.trans (hb5.mono hb4.size)
        have hQ3 := hQ2.below hb5 hQ2.lt
        have hT := told40 ht hxs hbad hany (hQ3.at_ 0 rfl) hQ3.lt (hX2.below (hb5.mono (Nat.le_trans hB hb4.size))) (Nat.le_trans hB hb6.size) hxl
        have HP := put_any A l c B 262144 40 _ (argOf xs) hn (Nat.le_refl _) w2 (hL2.below (hb5.mono (Nat.le_trans hB hb4.size))) (Nat.le_trans hB hb6.size) hT enters40
        rw [hpa] at HP
        simp only [putV] at HP
        clear hT
        go_wp2_with (go_at_call 34; refine HP.mono ?_; rintro e w3 ⟨rfl, hb7⟩)
        refine bodyPost_ret (v := .tuple #[.string b, .int .i64 0]) ?_ rfl ⟨rfl, hb6.trans (hb7.mono hb6.size)⟩
        simp [results, Tryd.results24, go_sem]
      | none =>
        have hR : layR xs l = .tuple #[.string ⟨#[]⟩, .int .i64 3] := by simp only [layR, layP, hbad, hany, hpa]
        rw [hR]
        go_enter Tryd.func24, Tryd.ntmps24
        go_wp2_with (go_at_call 19; refine HC.mono ?_; rintro e w1 ⟨rfl, hb2⟩)
        have hB1 := (Nat.le_trans hB hb1.size)
        have hb3 := (hb2.alloc hb2.size (.cells #[.int .i64 0, .int .i64 0] 43))
        have hQ2 := (hQ1.below hb3 hQ1.lt)
        have hL2 := hL1.below (hb3.mono hB1)
        have hX2 := hX1.below (hb3.mono hB1)
        have hb4 := hb1.trans (hb3.mono hb1.size)
        have HF := contains_func A l c B w.heap.size AA xs.length cc hn _ hL2 (Nat.le_trans hB hb4.size) (hQ2.at_ 0 rfl) hQ2.lt
        rw [hany] at HF
        refine HF.mono ?_
        rintro e w2 ⟨rfl, hb5⟩
        have hb6 := hb4.trans (hb5.mono hb4.size)
        have hQ3 := hQ2.below hb5 hQ2.lt
        have hT := told40 ht hxs hbad hany (hQ3.at_ 0 rfl) hQ3.lt (hX2.below (hb5.mono (Nat.le_trans hB hb4.size))) (Nat.le_trans hB hb6.size) hxl
        have HP := put_any A l c B 262144 40 _ (argOf xs) hn (Nat.le_refl _) w2 (hL2.below (hb5.mono (Nat.le_trans hB hb4.size))) (Nat.le_trans hB hb6.size) hT enters40
        rw [hpa] at HP
        simp only [putV] at HP
        clear hT
        go_wp2_with (go_at_call 34; refine HP.mono ?_; rintro e w3 ⟨rfl, hb7⟩)
        refine bodyPost_ret (v := .tuple #[.string ⟨#[]⟩, .int .i64 3]) ?_ rfl ⟨rfl, hb6.trans (hb7.mono hb6.size)⟩
        simp [results, Tryd.results24, go_sem]
set_option maxRecDepth 100000 in
set_option maxHeartbeats 4000000 in
theorem fill_fine {s : ByteArray} {l : List Pc} (AA : Option Addr) (xs : List ByteArray) (cc B : Nat) (hs : s.size ≤ 281474976710656) (hf : Fine s l) (ht : TellsAll l) (hxl : xs.length ≤ 281474976710656) (hxs : ∀ x ∈ xs, x.size ≤ 281474976710656)
    (w : World) (hg : Glob w) (hX : Texts w B AA xs) (hB : B ≤ w.heap.size) :
    Calls Tryd.prog 17 #[.string s, .slice AA xs.length cc] w fun e w' => e = .returned (layR xs l) ∧ Below w.heap.size w w' := by
  have HP := FineP.calls (parse_fine hs hf w hg)
  have hln := hf.len
  clear hf
  go_enter Tryd.func17, Tryd.ntmps17
  go_wp2_with (go_at_call 13; refine HP.mono ?_; rintro e w1 ⟨A, c, rfl, ho, hL, hb⟩)
  have hb2 := hb.alloc hb.size (.cells #[.int .i64 0, .int .i64 0] 26)
  have hL2 := hL.alloc (Nat.le_refl _) (.cells #[.int .i64 0, .int .i64 0] 26)
  have HL := lay_any A l c w1.heap.size AA xs cc ht (by omega) hxl hxs _ hL2 (Texts.more ((hX.below (hb2.mono hB))) (Nat.le_trans hB hb.size)) (by simp)
  unfold layR at HL
  clear hL ho hX hxs ht
  go_wp2_with (go_at_call 24; refine HL.mono ?_; rintro e w3 ⟨rfl, hb7⟩)
  refine bodyPost_ret (v := .tuple #[.string (layP xs l).1, .int .i64 (layP xs l).2]) ?_ rfl ⟨rfl, hb2.trans (hb7.mono hb2.size)⟩
  simp [results, Tryd.results17, go_sem]
set_option maxRecDepth 100000 in
set_option maxHeartbeats 4000000 in
theorem fill_wrong {s : ByteArray} {a b : Int} (hs : s.size ≤ 281474976710656) (hf : Wrong s a b) (v : Value) (w : World) (hg : Glob w) :
    Calls Tryd.prog 17 #[.string s, v] w fun e w' => e = .returned (.tuple #[.string ⟨#[]⟩, .int .i64 a]) ∧ Below w.heap.size w w' := by
  have HP := WrongP.calls (parse_wrong hs hf w hg)
  have hz := hf.nz
  have t1 : (a != 0) = true := by simpa using hz
  clear hf
  go_enter Tryd.func17, Tryd.ntmps17
  go_wp2_with (go_at_call 13; refine HP.mono ?_; rintro e w' ⟨rfl, hb⟩)
  go_quiet (fail)
  go_wp2_with fail
  refine bodyPost_ret (v := .tuple #[.string ⟨#[]⟩, .int .i64 a]) ?_ rfl ⟨rfl, blw_drewN (hb.alloc hb.size _) _⟩
  simp [results, Tryd.results17, go_sem]
end Go.Proofs.YtbgcngkofbelmaaDoor
