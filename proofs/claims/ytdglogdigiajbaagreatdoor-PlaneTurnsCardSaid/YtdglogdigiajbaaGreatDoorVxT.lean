/-
  A run told in advance, part twenty: drawn regions: one more operation is done. No condition.
-/
import Derived.Test.YtdglogdigiajbaaGreatDoorVxS
set_option linter.unusedSectionVars false
set_option linter.unusedSimpArgs false
set_option linter.unusedVariables false
namespace Go.Vx
open Go.RowKit

theorem dstIs_true {o : Option Oper} {t : Nat} (h : dstIs o t = true) : ∃ x, o = some x ∧ x.dst = some t := by
  unfold dstIs at h
  split at h
  · rename_i x
    split at h
    · rename_i d hd
      have : d = t := Nat.eq_of_beq_eq_true h
      subst this
      exact ⟨x, rfl, hd⟩
    · simp at h
  · simp at h

theorem dstIs_some {x : Oper} {t : Nat} (h : x.dst = some t) : dstIs (some x) t = true := by
  unfold dstIs
  simp [h]

theorem meet1 {all : List Oper} {x y : Oper} {t : Nat} (h : x.dst = some t) (ht : t ∈ readsOf all y) : meetX all x y = true := by
  have h1 : (readsOf all y).any (Nat.beq t) = true := List.any_eq_true.2 ⟨t, ht, by simp⟩
  unfold meetX
  simp [h, h1]

theorem meet2 {all : List Oper} {x y : Oper} {t : Nat} (h : y.dst = some t) (ht : t ∈ readsOf all x) : meetX all x y = true := by
  have h1 : (readsOf all x).any (Nat.beq t) = true := List.any_eq_true.2 ⟨t, ht, by simp⟩
  unfold meetX
  simp [h, h1]

theorem meet3 {all : List Oper} {x y : Oper} {t : Nat} (h : x.dst = some t) (h' : y.dst = some t) : meetX all x y = true := by
  unfold meetX
  simp [h, h']

theorem slot_from {all : List Oper} {D : Nat → Bool} {V : Nat → AV} {f : Fr} {t : Nat} : ∀ n, slotD all D V f t n = (f.T.get t).getD (.tup []) ∨ ∃ j, j < n ∧ D j = true ∧ dstIs all[j]? t = true ∧ slotD all D V f t n = V j
  | 0 => .inl rfl
  | n + 1 => by
    unfold slotD
    cases h : D n && dstIs all[n]? t with
    | true =>
      simp only [Bool.and_eq_true] at h
      exact .inr ⟨n, by omega, h.1, h.2, rfl⟩
    | false =>
      rcases slot_from (all := all) (D := D) (V := V) (f := f) (t := t) n with h1 | ⟨j, h1, h2, h3, h4⟩
      · exact .inl h1
      · exact .inr ⟨j, by omega, h2, h3, h4⟩

def also (i : Nat) (D : Nat → Bool) : Nat → Bool := fun j => decide (j = i) || D j

theorem also_self (i : Nat) (D : Nat → Bool) : also i D i = true := by simp [also]
theorem also_old {i j : Nat} {D : Nat → Bool} (h : D j = true) : also i D j = true := by simp [also, h]
theorem also_cases {i j : Nat} {D : Nat → Bool} (h : also i D j = true) : j = i ∨ D j = true := by simpa [also] using h
theorem also_ne {i j : Nat} {D : Nat → Bool} (h : j ≠ i) : also i D j = D j := by simp [also, h]

section
variable {E : Env} {call : CallX} {lo n0 : Nat} {all : List Oper} {bs : List Nat} {F : Nat → Fr} {S : Nat → St} {M : Nat → Met} {V : Nat → AV} {R0 : Ren} {w0 : World} {a0 : Act}
variable {D : Nat → Bool} {R : Ren} {κ : Nat} {a : Act} {w : World}
variable (C : Cn E call lo n0 all bs F S M V) (I : InvR E call lo n0 all bs F S M V R0 w0 a0 D R κ a w)
variable {i : Nat} {o : Oper} {b : Nat} (ho : all[i]? = some o) (hb : bs[i]? = some b) (hDi : D i = false) (hpre : ∀ k, Nat.testBit b k = true → D k = true)

theorem lt_of_get (ho : all[i]? = some o) : i < all.length := (List.getElem?_eq_some_iff.1 ho).1

include C I ho hb hDi hpre in
/-- What an operation reads in the slots is what was told. -/
theorem InvR.slot_read {t : Nat} (ht : t ∈ readsOf all o) : slotD all D V (F 0) t all.length = slotD all (fun _ => true) V (F 0) t i ∧ ∀ j, j < i → dstIs all[j]? t = true → D j = true := by
  have hi := lt_of_get ho
  have hbefore : ∀ j, j < i → dstIs all[j]? t = true → D j = true := by
    intro j hj hd
    obtain ⟨x, hx, hxd⟩ := dstIs_true hd
    exact hpre j (C.slots j i x o b hj hx ho hb (meet1 hxd ht))
  refine ⟨?_, hbefore⟩
  rw [slotD_cut (i := i) (by omega) (fun j h1 h2 h3 => ?_)]
  · exact slotD_congr fun j hj hd => by rw [hbefore j hj hd]
  · cases hd : dstIs all[j]? t with
    | false => rfl
    | true =>
      exfalso
      obtain ⟨x, hx, hxd⟩ := dstIs_true hd
      by_cases e : j = i
      · subst e; rw [hDi] at h3; simp at h3
      · obtain ⟨_, b', _, hb'⟩ := C.at (i := j) h2
        have := C.slots i j o x b' (by omega) ho hx hb' (meet2 hxd ht)
        rw [I.undone C hDi h3 hb'] at this
        simp at this

include C I in
/-- What the slots hold does not hang on what an operation not done yet makes. -/
theorem InvR.slot_agree (hi : i < all.length) (hDi : D i = false) (hf0 : ∀ t v, (F 0).T.get t = some v → Bnd n0 v) {R' : Ren} (hoff : Off (S i).nx (S (i + 1)).nx R R') (t : Nat) :
    conc R' (slotD all D V (F 0) t all.length) = conc R (slotD all D V (F 0) t all.length) := by
  have hag : ∀ n, n ≤ (S i).nx ∨ (S (i + 1)).nx ≤ (S i).nx → Agree n R R' := fun n hn => hoff.agree hn
  have hn0 := C.nx_n0 (j := i) (by omega)
  rcases slot_from (all := all) (D := D) (V := V) (f := F 0) (t := t) all.length with h | ⟨j, h1, h2, h3, h4⟩
  · rw [h]
    cases hg : (F 0).T.get t with
    | none => simp [conc, concL]
    | some v => exact conc_agree (hag n0 (.inl hn0)) (hf0 t v hg)
  · rw [h4]
    have hv := I.vb j h2
    by_cases hji : j < i
    · exact conc_agree (hag _ (.inl (C.mono (i := j + 1) (j := i) hji (by omega)).1)) hv.1
    · have hne : j ≠ i := fun e => by rw [e] at h2; rw [hDi] at h2; simp at h2
      by_cases hr : (S i).nx < (S (i + 1)).nx
      · obtain ⟨_, b', _, hb'⟩ := C.at (i := j) h1
        rcases hv.2 i b' (by omega) hr hb' with h5 | h5
        · rw [I.undone C hDi h2 hb'] at h5; simp at h5
        · have hm := (C.mono (i := i + 1) (j := j) (by omega) (by omega)).1
          exact conc_agreeP (hoff.agreeP (p := Own n0 (S j).nx) fun k hk => by unfold Own at hk; omega) h5
      · exact conc_agree (hag _ (.inr (by omega))) hv.1

include C I ho hb hDi in
/-- The slots behind the operation. -/
theorem InvR.slots_next (hf0 : ∀ t v, (F 0).T.get t = some v → Bnd n0 v) {R' : Ren} (hag : Off (S i).nx (S (i + 1)).nx R R') (v' : Value) (hv' : v' = conc R' (V i)) :
    (a.put o.dst v').tmps.size = (F 0).n ∧ ∀ t, t < (F 0).n → (a.put o.dst v').tmps[t]? = some (conc R' (slotD all (also i D) V (F 0) t all.length)) := by
  have hi := lt_of_get ho
  have old : ∀ t, o.dst ≠ some t → slotD all (also i D) V (F 0) t all.length = slotD all D V (F 0) t all.length := by
    intro t ht
    refine slotD_congr fun j hj hd => also_ne fun e => ?_
    subst e
    obtain ⟨x, hx, hxd⟩ := dstIs_true hd
    rw [ho] at hx
    obtain rfl := Option.some.inj hx
    exact ht hxd
  have new : ∀ t, o.dst = some t → slotD all (also i D) V (F 0) t all.length = V i := by
    intro t ht
    rw [slotD_cut (i := i + 1) (by omega) (fun j h1 h2 h3 => ?_)]
    · unfold slotD
      rw [also_self, ho, dstIs_some ht]
      rfl
    · cases hd : dstIs all[j]? t with
      | false => rfl
      | true =>
        exfalso
        obtain ⟨x, hx, hxd⟩ := dstIs_true hd
        obtain ⟨_, b', _, hb'⟩ := C.at (i := j) h2
        have h3 : D j = true := by
          rcases also_cases h3 with e | e
          · omega
          · exact e
        have := C.slots i j o x b' (by omega) ho hx hb' (meet3 ht hxd)
        rw [I.undone C hDi h3 hb'] at this
        simp at this
  cases hd : o.dst with
  | none =>
    refine ⟨I.tsz, fun t ht => ?_⟩
    rw [old t (by rw [hd]; simp), I.slot_agree C hi hDi hf0 hag t]
    exact I.tmp t ht
  | some d =>
    refine ⟨by simp [Act.put, I.tsz], fun t ht => ?_⟩
    simp only [Act.put]
    by_cases e : d = t
    · subst e
      rw [new d hd, Array.getElem?_setIfInBounds_self_of_lt (by rw [I.tsz]; exact ht), hv']
    · rw [old t (by rw [hd]; simpa using e), I.slot_agree C hi hDi hf0 hag t, Array.getElem?_setIfInBounds_ne e]
      exact I.tmp t ht

include C I ho hb hDi hpre in
/-- Behind an operation that has written nothing that was there. -/
theorem InvR.next_tame (hf0 : ∀ t v, (F 0).T.get t = some v → Bnd n0 v) (hW : ¬ Wild E call lo all bs F S M V i) {R' : Ren} {w' : World} {p r : St} (hrel : Rel R' r w') (hmv : Mv (S i).nx R p w R' r w') (hpn : p.nx = (S i).nx)
    (hp : ∀ n ob, p.get n = some ob → n < (S i).nx) (hrn : (S (i + 1)).nx = r.nx) (hgk : (∀ k, (S (i + 1)).get k = if (S i).nx ≤ k ∧ k < r.nx then r.get k else (S i).get k) ∨ ∀ k, (S (i + 1)).get k = (S i).get k)
    (hv : Bnd r.nx (V i)) (hfl : ∀ t, t < i → (S t).nx < (S (t + 1)).nx → Nat.testBit b t = true ∨ (BndP (Own n0 (S i).nx) (V i) ∧ ∀ n ob, (S i).nx ≤ n → n < r.nx → r.get n = some ob → OBndP (Own n0 (S i).nx) ob)) (v' : Value) (hv' : v' = conc R' (V i)) :
    InvR E call lo n0 all bs F S M V R0 w0 a0 (also i D) R' κ (a.put o.dst v') w' := by
  have hi := lt_of_get ho
  have hoff : Off (S i).nx (S (i + 1)).nx R R' := by
    refine ⟨fun k hk => hmv.blk k ?_, fun k hk => hmv.cap k ?_, hmv.opq⟩ <;> (rw [hpn, ← hrn]; exact hk)
  have hag : ∀ n, n ≤ (S i).nx ∨ (S (i + 1)).nx ≤ (S i).nx → Agree n R R' := fun n hn => hoff.agree hn
  have hsl := I.slots_next C ho hb hDi hf0 hoff v' hv'
  have hframe : ∀ bb, bb < w.heap.size → w'.heap[bb]? = w.heap[bb]? := fun bb hbb => hmv.frame bb hbb fun n ob h1 h2 _ => by
    have := hp n ob h2; omega
  -- what holds: as before, or new
  have split : ∀ n ob, LD all.length S (also i D) κ n ob → LD all.length S D κ n ob ∨ (κ ≤ i ∧ (S i).nx ≤ n ∧ n < (S (i + 1)).nx ∧ r.get n = some ob) := by
    intro n ob h
    rcases h with h | ⟨h1, j, h2, h3, h4, h5, h6, h7, h8⟩
    · exact .inl (.inl h)
    · rcases also_cases h3 with e | e
      · subst e
        right
        refine ⟨h4, h5, h6, ?_⟩
        rcases hgk with hgk | hgk
        · rw [hgk n, if_pos (by rw [← hrn]; exact ⟨h5, h6⟩)] at h7
          exact h7
        · exact absurd hgk h8
      · exact .inl (.inr ⟨h1, j, h2, e, h4, h5, h6, h7, h8⟩)
  have keepD : ∀ n ob, LD all.length S D κ n ob → LD all.length S (also i D) κ n ob := by
    intro n ob h
    rcases h with h | ⟨h1, j, h2, h3, h4⟩
    · exact .inl h
    · exact .inr ⟨h1, j, h2, also_old h3, h4⟩
  have oldblk : ∀ n ob, LD all.length S D κ n ob → R'.blk n = R.blk n ∧ ∀ x, ORel R ob x → ORel R' ob x := by
    intro n ob h
    have viaM : ∀ m, OBnd m ob → (m ≤ (S i).nx ∨ (S (i + 1)).nx ≤ (S i).nx) → ∀ x, ORel R ob x → ORel R' ob x := fun m h1 h2 x hx => hx.agree (hag m h2) h1
    by_cases hr : (S i).nx < (S (i + 1)).nx
    · have hκ := I.late C hi hDi hr
      rcases h with ⟨h1, h2⟩ | ⟨h1, j, h2, h3, h4, h5, h6, h7, h8⟩
      · have hm := (C.mono (i := κ) (j := i) hκ (by omega)).1
        exact ⟨hmv.blk n (.inl (by omega)), viaM (S κ).nx (I.bd κ I.kap1 n ob h2).2 (.inl hm)⟩
      · have hne : j ≠ i := fun e => by rw [e] at h3; rw [hDi] at h3; simp at h3
        have hnw : ¬ Wild E call lo all bs F S M V j := fun hW => by have := I.kap2 j hW h3; omega
        by_cases hji : j < i
        · have hm := (C.mono (i := j + 1) (j := i) hji (by omega)).1
          exact ⟨hmv.blk n (.inl (by omega)), viaM (S (j + 1)).nx (I.xb j h3 hnw h8 n ob h5 h6 h7).1 (.inl hm)⟩
        · obtain ⟨_, b', _, hb'⟩ := C.at (i := j) h2
          rcases (I.xb j h3 hnw h8 n ob h5 h6 h7).2 i b' (by omega) hr hb' with h9 | h9
          · rw [I.undone C hDi h3 hb'] at h9
            simp at h9
          · have hm := (C.mono (i := i + 1) (j := j) (by omega) (by omega)).1
            exact ⟨hoff.blk n (.inr (by omega)), fun x hx => hx.agreeP (hoff.agreeP (p := Own n0 (S j).nx) fun k hk => by have := C.nx_n0 (j := i) (by omega); unfold Own at hk; omega) h9⟩
    · have hm1 : (S (i + 1)).nx ≤ (S i).nx := by omega
      refine ⟨hmv.blk n (by omega), ?_⟩
      rcases h with ⟨h1, h2⟩ | ⟨h1, j, h2, h3, h4, h5, h6, h7, h8⟩
      · exact viaM _ (I.bd κ I.kap1 n ob h2).2 (.inr hm1)
      · have hnw : ¬ Wild E call lo all bs F S M V j := fun hW => by have := I.kap2 j hW h3; omega
        exact viaM _ (I.xb j h3 hnw h8 n ob h5 h6 h7).1 (.inr hm1)
  have oldlt : ∀ n ob, LD all.length S D κ n ob → R.blk n < w.heap.size := by
    intro n ob h
    obtain ⟨x, hx, _⟩ := I.live n ob h
    exact (Array.getElem?_eq_some_iff.1 hx).1
  have newge : ∀ n ob, (S i).nx ≤ n → r.get n = some ob → w.heap.size ≤ R'.blk n := by
    intro n ob h1 h2
    rcases Nat.lt_or_ge (R'.blk n) w.heap.size with h | h
    · obtain ⟨m, ob', g1, g2, g3⟩ := hmv.back n ob h1 h2 h
      have := hp m ob' g2
      omega
    · exact h
  have hn0 := C.nx_n0 (j := i) (by omega)
  have hloi : lo ≤ (S i).nx := Nat.le_trans C.lo_le hn0
  refine {
    down := fun j hj => ?_
    kap1 := I.kap1.imp id fun ⟨u, h1, h2, h3⟩ => ⟨u, h1, h2, also_old h3⟩
    kap2 := fun u hu hD => ?_
    bd := fun t ht => I.bd t (ht.imp id fun ⟨u, h1, h2, h3⟩ => ⟨u, h1, h2, (also_cases h3).elim (fun e => absurd (e ▸ h2) hW) id⟩)
    xb := fun j hD hnW hdiff n ob h1 h2 h3 => ?_
    vb := fun j hD => ?_
    live := fun n ob h => ?_
    inj := fun n m ob ob' h1 h2 he => ?_
    blk := fun n hn => ?_
    cap := fun n hn => ?_
    opq := hmv.opq.trans I.opq
    keep := fun n ob hn => ?_
    os := hmv.os.trans I.os
    tape := hmv.tape.trans I.tape
    output := hmv.output.trans I.output
    size := Nat.le_trans I.size hmv.size
    frame := fun bb h1 h2 => ?_
    back := fun n ob h1 h2 h3 => ?_
    tsz := hsl.1
    tmp := hsl.2
    defers := ?_ }
  · rcases also_cases hj with e | e
    · subst e
      refine ⟨hi, fun b' k hb' hk => ?_⟩
      rw [hb] at hb'
      obtain rfl := Option.some.inj hb'
      exact also_old (hpre k hk)
    · exact ⟨(I.down j e).1, fun b' k hb' hk => also_old ((I.down j e).2 b' k hb' hk)⟩
  · rcases also_cases hD with e | e
    · subst e; exact absurd hu hW
    · exact I.kap2 u hu e
  · rcases also_cases hD with e | e
    · subst e
      rcases hgk with hgk | hgk
      · rw [hgk n, if_pos (by rw [← hrn]; exact ⟨h1, h2⟩)] at h3
        refine ⟨by rw [hrn]; exact (hrel.bnd n ob h3).2, fun t b' h5 h6 hb' => ?_⟩
        rw [hb] at hb'
        obtain rfl := Option.some.inj hb'
        exact (hfl t h5 h6).imp id fun q => q.2 n ob h1 (by omega) h3
      · exact absurd hgk hdiff
    · exact I.xb j e hnW hdiff n ob h1 h2 h3
  · rcases also_cases hD with e | e
    · subst e
      refine ⟨by rw [hrn]; exact hv, fun t b' h1 h2 hb' => ?_⟩
      rw [hb] at hb'
      obtain rfl := Option.some.inj hb'
      exact (hfl t h1 h2).imp id fun q => q.1
    · exact I.vb j e
  · rcases split n ob h with h | ⟨h1, h2, h3, h4⟩
    · obtain ⟨x, hx, hr⟩ := I.live n ob h
      obtain ⟨e, hm⟩ := oldblk n ob h
      refine ⟨x, ?_, hm x hr⟩
      rw [e, hframe _ (oldlt n ob h)]
      exact hx
    · exact hrel.live n ob h4
  · rcases split n ob h1 with h1 | ⟨_, h1, _, h1'⟩ <;> rcases split m ob' h2 with h2 | ⟨_, h2, _, h2'⟩
    · rw [(oldblk n ob h1).1, (oldblk m ob' h2).1] at he
      exact I.inj n m ob ob' h1 h2 he
    · have g1 := newge m ob' h2 h2'
      have g2 := oldlt n ob h1
      rw [(oldblk n ob h1).1] at he
      omega
    · have g1 := newge n ob h1 h1'
      have g2 := oldlt m ob' h2
      rw [(oldblk m ob' h2).1] at he
      omega
    · exact hrel.inj n m ob ob' h1' h2' he
  · have hm := (C.mono (i := i + 1) (j := all.length) (by omega) (Nat.le_refl _)).1
    rw [hmv.blk n (by rw [hpn, ← hrn]; omega)]
    exact I.blk n hn
  · have hm := (C.mono (i := i + 1) (j := all.length) (by omega) (Nat.le_refl _)).1
    rw [hmv.cap n (by rw [hpn, ← hrn]; omega)]
    exact I.cap n hn
  · rw [← I.keep n ob hn]
    refine ⟨fun h => ?_, keepD n ob⟩
    rcases split n ob h with h | ⟨_, h1, _⟩
    · exact h
    · omega
  · rw [hframe bb (Nat.lt_of_lt_of_le h1 I.size)]
    exact I.frame bb h1 h2
  · rcases split n ob h2 with h | ⟨_, g1, _, g2⟩
    · rw [(oldblk n ob h).1] at h3 ⊢
      exact I.back n ob h1 h h3
    · have := newge n ob g1 g2
      have := I.size
      omega
  · rw [← I.defers]
    cases o.dst <;> rfl

end
end Go.Vx
