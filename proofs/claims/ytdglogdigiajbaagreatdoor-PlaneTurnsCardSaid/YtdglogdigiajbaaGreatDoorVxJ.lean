/-
  A run told in advance, part ten: slices of slices, maps, iterators. No condition.
-/
import Derived.Test.YtdglogdigiajbaaGreatDoorVxI
import Derived.Laws.Slices
set_option linter.unusedSectionVars false
set_option linter.unusedSimpArgs false
set_option linter.unusedVariables false
namespace Go.Vx
open Go.RowKit

theorem boundX_ok {P : Program} {R : Ren} {y d n : Nat} {x : Option AV} (h : boundX y d x = some n) (hd : d ≤ y) :
    n ≤ y ∧ (∀ v, x = some v → ∀ (code : BoundsCode) (w : World), (Instr.sliceBound (conc R v) y code).run P w = .ok n w) ∧ (x = none → n = d) := by
  unfold boundX at h
  split at h
  · obtain rfl := Option.some.inj h
    exact ⟨hd, by simp, fun _ => rfl⟩
  · rename_i v
    split at h
    · rename_i m hm
      split at h
      · rename_i hl
        have hl := Nat.le_of_ble_eq_true hl
        obtain rfl := Option.some.inj h
        obtain ⟨k, hk⟩ := intOfX_ok (R := R) hm
        refine ⟨hl, fun u hu code w => ?_, by simp⟩
        obtain rfl := Option.some.inj hu
        simp [Instr.sliceBound, hk, asIntOf, hl]
      · simp at h
    · simp at h

theorem isZeroV_ok {P : Program} {R : Ren} {x : Option AV} (h : isZeroV x = true) : ∀ v, x = some v → ∀ (y : Nat) (code : BoundsCode) (w : World), (Instr.sliceBound (conc R v) y code).run P w = .ok 0 w := by
  intro v hv y code w
  subst hv
  unfold isZeroV at h
  split at h
  · rename_i hh; simp at hh
  · rename_i k hh
    obtain rfl := Option.some.inj hh
    simp [Instr.sliceBound, conc, asIntOf]
  · simp at h

theorem optX_ok {R : Ren} {nx : Nat} {f : Fr} {a : Act} (hF : FrOk R nx f a) {x : Option Operand} {l : Option AV} (h : optX x f = some l) : x.map a.eval = l.map (conc R) := by
  unfold optX at h
  split at h
  · obtain rfl := Option.some.inj h; rfl
  · split at h
    · rename_i v hv
      obtain rfl := Option.some.inj h
      simp [(hF.ev hv).1]
    · simp at h

/-- The bounds of a slice expression, as they were told. -/
theorem bounds_ok {P : Program} {R : Ren} {len cap m h' l' : Nat} {lo hi mx : Option AV} (isS : Bool) (w : World) (hm : boundX cap cap mx = some m) (hn : (hi.isNone && mx.isSome) = false)
    (hh : boundX m len hi = some h') (hlen : len ≤ cap) (hl : boundX h' 0 lo = some l') :
    (Instr.sliceBounds isS len cap (lo.map (conc R)) (hi.map (conc R)) (mx.map (conc R))).run P w = .ok (l', h', m) w := by
  have h1 := boundX_ok (P := P) (R := R) hm (Nat.le_refl _)
  have h3 := boundX_ok (P := P) (R := R) hl (Nat.zero_le _)
  cases mx with
  | none =>
    have em := h1.2.2 rfl
    subst em
    have h2 := boundX_ok (P := P) (R := R) hh hlen
    cases hi with
    | none =>
      have eh := h2.2.2 rfl
      subst eh
      cases lo with
      | none => have el := h3.2.2 rfl; subst el; simp [Instr.sliceBounds]
      | some lo => simp [Instr.sliceBounds, h3.2.1 lo rfl]
    | some hi =>
      cases lo with
      | none => have el := h3.2.2 rfl; subst el; simp [Instr.sliceBounds, h2.2.1 hi rfl]
      | some lo => simp [Instr.sliceBounds, h2.2.1 hi rfl, h3.2.1 lo rfl]
  | some mx =>
    cases hi with
    | none => simp at hn
    | some hi =>
      have h2 : ∀ code w, (Instr.sliceBound (conc R hi) m code).run P w = .ok h' w := by
        intro code w
        unfold boundX at hh
        simp only at hh
        split at hh
        · rename_i q hq
          split at hh
          · rename_i hle
            have hle := Nat.le_of_ble_eq_true hle
            obtain rfl := Option.some.inj hh
            obtain ⟨k, hk⟩ := intOfX_ok (R := R) hq
            simp [Instr.sliceBound, hk, asIntOf, hle]
          · simp at hh
        · simp at hh
      cases lo with
      | none => have el := h3.2.2 rfl; subst el; simp [Instr.sliceBounds, h1.2.1 mx rfl, h2]
      | some lo => simp [Instr.sliceBounds, h1.2.1 mx rfl, h2, h3.2.1 lo rfl]

section
variable {E : Env} {P : Program} (hE : E.Ok P) {lo : Nat} {R : Ren} {s s' : St} {w : World} {f : Fr} {a : Act} {v : AV} (hR : Rel R s w) (hF : FrOk R s.nx f a) (hlo : lo ≤ s.nx)

theorem sliceL_ok {esz b o len cap : Nat} {l h m : Option AV} {v : AV} (hs : sliceL esz b o len cap l h m = some v) (hlen : len ≤ cap) (hcap : cap < big) (isS : Bool) (w : World) :
    ∃ l' h' m', (Instr.sliceBounds isS len cap (l.map (conc R)) (h.map (conc R)) (m.map (conc R))).run P w = .ok (l', h', m') w ∧
      conc R v = .slice (some (if m' = l' then (⟨R.blk b, o, none⟩ : Addr) else (⟨R.blk b, o, none⟩ : Addr).add (l' * esz))) (h' - l') (m' - l') ∧ (∀ n, b < n → Bnd n v) := by
  unfold sliceL at hs
  split at hs
  · simp at hs
  · rename_i m' hm
    split at hs
    · simp at hs
    · rename_i hn
      split at hs
      · simp at hs
      · rename_i h' hh
        split at hs
        · simp at hs
        · rename_i l' hl
          have h1 := bounds_ok (P := P) (R := R) isS w hm hn hh hlen hl
          have hmc := (boundX_ok (P := P) (R := R) hm (Nat.le_refl _)).1
          have hlt : m' - l' < big := by omega
          refine ⟨l', h', m', h1, ?_⟩
          split at hs
          · rename_i he
            have he : m' = l' := Nat.eq_of_beq_eq_true he
            obtain rfl := Option.some.inj hs
            have hlt' : Nat.sub m' l' < big := hlt
            refine ⟨by simp [conc, he, Ren.c]; simp [big], fun n hb => ⟨hb, .inl hlt'⟩⟩
          · rename_i he
            have he : m' ≠ l' := fun e => by rw [e] at he; simp at he
            obtain rfl := Option.some.inj hs
            have hlt' : Nat.sub m' l' < big := hlt
            refine ⟨?_, fun n hb => ⟨hb, .inl hlt'⟩⟩
            simp only [conc, he, if_false, Addr.add_mk, Ren.c]
            rw [if_pos hlt']
            rfl

/-- A name more that stands for no block. -/
theorem rel_bare {lo : Nat} {R : Ren} {s : St} {w : World} (h : Rel R s w) (hn : s.nx < lim) (b c : Nat) :
    Rel (R.name s.nx b c) { H := s.H, nx := s.nx + 1 } w ∧ Mv lo R s w (R.name s.nx b c) { H := s.H, nx := s.nx + 1 } w := by
  have hag := R.name_agree s.nx b c
  have hget : ∀ n, St.get { H := s.H, nx := s.nx + 1 } n = s.get n := fun n => rfl
  have hold : ∀ m o', s.get m = some o' → (R.name s.nx b c).blk m = R.blk m := fun m o' hm => hag.blk m (h.bnd m o' hm).1
  have off : ∀ m, m < s.nx ∨ s.nx + 1 ≤ m → m ≠ s.nx := fun m hm => by omega
  refine ⟨⟨fun n o hg => ?_, fun n m o o' h1 h2 he => ?_, fun n o hg => ?_, hn⟩, ⟨fun m hm => ?_, fun m hm => ?_, rfl, Nat.le_succ _, fun _ _ => rfl, rfl, rfl, rfl, Nat.le_refl _, fun _ _ _ => rfl, fun n o h1 h2 _ => ⟨n, o, h1, h2, (hold n o h2).symm⟩⟩⟩
  · rw [hget] at hg
    obtain ⟨x, hx, hr⟩ := h.live n o hg
    exact ⟨x, by rw [hold n o hg]; exact hx, hr.agree hag (h.bnd n o hg).2⟩
  · rw [hget] at h1 h2
    rw [hold n o h1, hold m o' h2] at he
    exact h.inj n m o o' h1 h2 he
  · rw [hget] at hg
    have := h.bnd n o hg
    exact ⟨Nat.lt_succ_of_lt this.1, this.2.mono (Nat.le_succ _)⟩
  · have := off m hm
    simp [Ren.name, this]
  · have := off m hm
    simp [Ren.name, this]

include hR in
theorem sliceW_ok {esz b n k c : Nat} {l h m : Option AV} {v : AV} {s' : St} (hs : sliceW s esz b k c l m = some (v, s')) (hk : upTo n h = some k) {o : Nat} (hg : growOk s b esz c o k = true) (w' : World) :
    ∃ l' m' R', (Instr.sliceBounds true n (R.c c) (l.map (conc R)) (h.map (conc R)) (m.map (conc R))).run P w' = .ok (l', k, m') w' ∧ o = 0 ∧
      conc R' v = .slice (some (if m' = l' then ⟨R.blk b, 0, none⟩ else ⟨R.blk b, l' * esz, none⟩)) (k - l') (m' - l') ∧ Rel R' s' w ∧ Mv lo R s w R' s' w ∧ ((b < s.nx ∧ (c < big ∨ c - big < s.nx)) → Bnd s'.nx v) := by
  unfold growOk at hg
  split at hg
  · rename_i r e cc esz' hgb
    simp only [Bool.and_eq_true] at hg
    obtain ⟨⟨⟨⟨g1, g2⟩, g3⟩, g4⟩, g5⟩ := hg
    have g1 : esz' = esz := Nat.eq_of_beq_eq_true g1
    have g2 := Nat.le_of_ble_eq_true g2
    have g3 : c = big + cc := Nat.eq_of_beq_eq_true g3
    have g4 : o = 0 := Nat.eq_of_beq_eq_true g4
    have g5 := Nat.le_of_ble_eq_true g5
    subst g1 g3 g4
    obtain ⟨x, hx, hr⟩ := hR.live b _ hgb
    have hcc : R.c (big + cc) = R.cap cc := by
      have q1 : ¬ big + cc < big := by omega
      have q2 : big + cc - big = cc := by omega
      simp only [Ren.c]
      rw [if_neg q1, q2]
    have hle : k ≤ R.cap cc := by
      cases x <;> simp only [ORel] at hr
      have h1 := hr.2.2.1
      have h2 := hr.2.2.2.1
      exact Nat.le_of_mul_le_mul_right (by omega : k * esz' ≤ R.cap cc * esz') (by omega)
    have hb : ∀ q, h = some q → (Instr.sliceBound (conc R q) (R.cap cc) .sliceAcap).run P w' = .ok k w' := by
      intro q hq
      subst hq
      have hk : intOfX q = some k := hk
      obtain ⟨j, hj⟩ := intOfX_ok (R := R) hk
      simp [Instr.sliceBound, hj, asIntOf, hle]
    have hn : h = none → n = k := by
      intro e
      subst e
      exact Option.some.inj hk
    unfold sliceW at hs
    split at hs
    · rename_i hz
      simp only [Bool.and_eq_true] at hz
      obtain ⟨hz1, hz2⟩ := hz
      have em : m = none := by simpa using hz2
      subst em
      obtain ⟨rfl, rfl⟩ := Prod.mk.inj (Option.some.inj hs)
      refine ⟨0, R.cap cc, R, ?_, rfl, by simp [conc, hcc], hR, Mv.refl _ _ _ _, fun hb => by simpa only [Bnd] using hb⟩
      rw [hcc]
      cases h with
      | none =>
        have := hn rfl
        subst this
        cases l with
        | none => simp [Instr.sliceBounds]
        | some l => simp [Instr.sliceBounds, isZeroV_ok hz1 l rfl]
      | some h =>
        cases l with
        | none => simp [Instr.sliceBounds, hb h rfl]
        | some l => simp [Instr.sliceBounds, hb h rfl, isZeroV_ok hz1 l rfl]
    · split at hs
      · split at hs
        · rename_i j hj
          unfold sliceR at hs
          split at hs
          · rename_i hq
            simp only [Bool.and_eq_true] at hq
            have q1 : s.nx < lim := Nat.le_of_ble_eq_true hq.1
            have q2 : j < k := Nat.le_of_ble_eq_true hq.2
            have h3 := boundX_ok (P := P) (R := R) hj (Nat.zero_le _)
            obtain ⟨H, nx⟩ := s
            obtain ⟨rfl, rfl⟩ := Prod.mk.inj (Option.some.inj hs)
            have hbr := rel_bare (lo := lo) hR q1 0 (R.cap cc - j)
            refine ⟨j, R.cap cc, R.name nx 0 (R.cap cc - j), ?_, rfl, ?_, hbr.1, hbr.2, fun hb => ?_⟩
            · rw [hcc]
              cases h with
              | none =>
                have := hn rfl
                subst this
                cases l with
                | none =>
                  have := h3.2.2 rfl
                  subst this
                  simp [Instr.sliceBounds]
                | some l => simp [Instr.sliceBounds, h3.2.1 l rfl]
              | some h =>
                cases l with
                | none =>
                  have := h3.2.2 rfl
                  subst this
                  simp [Instr.sliceBounds, hb h rfl]
                | some l => simp [Instr.sliceBounds, hb h rfl, h3.2.1 l rfl]
            · have hbb := (hR.bnd b _ hgb).1
              have hne : ¬ R.cap cc = j := by omega
              have e1 : (R.name nx 0 (R.cap cc - j)).blk b = R.blk b := (R.name_agree nx 0 (R.cap cc - j)).blk b hbb
              have e2 : (R.name nx 0 (R.cap cc - j)).c (Nat.add big nx) = R.cap cc - j := by
                have t1 : ¬ Nat.add big nx < big := by show ¬ big + nx < big; omega
                have t2 : Nat.add big nx - big = nx := by show big + nx - big = nx; omega
                simp only [Ren.c]
                rw [if_neg t1, t2]
                simp [Ren.name]
              simp only [conc, e1, e2, if_neg hne]
              rfl
            · simp only [Bnd]
              have t1 : Nat.add big nx - big = nx := by show big + nx - big = nx; omega
              refine ⟨?_, .inr ?_⟩
              · have h1 : b < nx := hb.1
                show b < nx + 1
                omega
              · rw [t1]; exact Nat.lt_succ_self _
          · simp at hs
        · simp at hs
      · simp at hs
  · simp at hg

theorem bytes_extract (l : List UInt8) (i j : Nat) : (⟨⟨l⟩⟩ : ByteArray).extract i j = ⟨⟨(l.drop i).take (j - i)⟩⟩ := by
  apply ByteArray.ext
  rw [ByteArray.data_extract]
  apply Array.ext'
  simp [List.extract]

include hE hR hF in
theorem slice_ok {t : TypeId} {x : Operand} {l h m : Option Operand} (hh : sliceO t x l h m E lo f s = some (v, s')) :
    Res P (do pure (.value (← Instr.sliceAt t (a.eval x) (l.map a.eval) (h.map a.eval) (m.map a.eval)))) lo R s w v s' := by
  unfold sliceO at hh
  split at hh
  · simp at hh
  · rename_i l' hl
    split at hh
    · simp at hh
    · rename_i h' hhi
      split at hh
      · simp at hh
      · rename_i m' hm
        split at hh
        · simp at hh
        · rename_i d hd
          split at hh
          · simp at hh
          · rename_i p hp
            have h1 := hF.ev hp
            rw [optX_ok hF hl, optX_ok hF hhi, optX_ok hF hm]
            unfold sliceD at hh
            split at hh
            · unfold sliceSt at hh
              split at hh
              · rename_i b
                split at hh
                · obtain ⟨h2, rfl⟩ := ret1_some hh
                  unfold sliceS at h2
                  split at h2
                  · simp at h2
                  · rename_i q hq
                    split at h2
                    · simp at h2
                    · rename_i hqb
                      have hqb := Nat.le_of_ble_eq_true hqb
                      split at h2
                      · simp at h2
                      · rename_i r hr
                        split at h2
                        · simp at h2
                        · rename_i hrb
                          have hrb := Nat.le_of_ble_eq_true hrb
                          obtain rfl := Option.some.inj h2
                          have e1 : (⟨⟨b⟩⟩ : ByteArray).size = b.length := rfl
                          have hx1 : ∀ z, h' = some z → ∀ (y : Nat) (code : BoundsCode), q ≤ y → (Instr.sliceBound (conc R z) y code).run P w = .ok q w := by
                            intro z hz y code hy
                            subst hz
                            obtain ⟨k, hk⟩ := intOfX_ok (R := R) hq
                            simp [Instr.sliceBound, hk, asIntOf, hy]
                          have hx2 : ∀ z, l' = some z → ∀ (y : Nat) (code : BoundsCode), r ≤ y → (Instr.sliceBound (conc R z) y code).run P w = .ok r w := by
                            intro z hz y code hy
                            subst hz
                            obtain ⟨k, hk⟩ := intOfX_ok (R := R) hr
                            simp [Instr.sliceBound, hk, asIntOf, hy]
                          refine res_val hR ?_ (by simp [Bnd])
                          simp only [Instr.sliceAt, Instr.slice, Sem.run_bind, run_und hE hd, Result.andThen_ok, h1.1, conc, e1]
                          cases h' with
                          | none =>
                            obtain rfl := Option.some.inj hq
                            cases l' with
                            | none =>
                              obtain rfl := Option.some.inj hr
                              simp [Instr.sliceBounds, bytes_extract]
                            | some z => simp [Instr.sliceBounds, bytes_extract, hx2 z rfl _ _ hrb]
                          | some y =>
                            cases l' with
                            | none =>
                              obtain rfl := Option.some.inj hr
                              simp [Instr.sliceBounds, bytes_extract, hx1 y rfl _ _ hqb]
                            | some z => simp [Instr.sliceBounds, bytes_extract, hx1 y rfl _ _ hqb, hx2 z rfl _ _ hrb]
                · simp at hh
              · simp at hh
            · rename_i e
              unfold sliceSl at hh
              split at hh
              · split at hh
                · simp at hh
                · rename_i esz hsz
                  split at hh
                  · rename_i hz
                    simp only [Bool.and_eq_true] at hz
                    obtain ⟨⟨z1, z2⟩, z3⟩ := hz
                    have em : m' = none := by simpa using z3
                    subst em
                    obtain ⟨rfl, rfl⟩ := Prod.mk.inj (Option.some.inj hh)
                    refine res_val hR ?_ (by simp [Bnd])
                    simp only [Instr.sliceAt, Instr.slice, Sem.run_bind, run_und hE hd, Result.andThen_ok, h1.1, conc]
                    cases h' with
                    | none =>
                      cases l' with
                      | none => simp [Instr.sliceBounds, run_size hE hsz]
                      | some y => simp [Instr.sliceBounds, run_size hE hsz, isZeroV_ok z1 y rfl]
                    | some z =>
                      cases l' with
                      | none => simp [Instr.sliceBounds, run_size hE hsz, isZeroV_ok z2 z rfl]
                      | some y => simp [Instr.sliceBounds, run_size hE hsz, isZeroV_ok z1 y rfl, isZeroV_ok z2 z rfl]
                  · simp at hh
              · rename_i b o n c
                split at hh
                · simp at hh
                · rename_i esz hsz
                  split at hh
                  · rename_i hc
                    have hc : c < big := Nat.le_of_ble_eq_true hc
                    split at hh
                    · rename_i hnc
                      have hnc := Nat.le_of_ble_eq_true hnc
                      obtain ⟨h2, rfl⟩ := ret1_some hh
                      obtain ⟨l2, h3, m2, g1, g2, g3⟩ := sliceL_ok (P := P) (R := R) h2 hnc hc true w
                      refine res_val hR ?_ (g3 _ (by have := h1.2; simp only [Bnd] at this; exact this.1))
                      have hcc : R.c c = c := by simp [Ren.c, hc]
                      simp only [Instr.sliceAt, Instr.slice, Sem.run_bind, run_und hE hd, Result.andThen_ok, h1.1, conc, hcc, g1, run_size hE hsz, g2]
                      by_cases he : m2 = l2 <;> simp [he]
                    · simp at hh
                  · split at hh
                    · simp at hh
                    · rename_i k hk
                      split at hh
                      · rename_i hg
                        obtain ⟨l2, m2, R', g1, g3, g2, g4, g5, g6⟩ := sliceW_ok (lo := lo) hR (P := P) hh hk hg w
                        subst g3
                        refine ⟨R', _, w, ?_, .inl rfl, g4, g5, g6 h1.2⟩
                        simp only [Instr.sliceAt, Instr.slice, Sem.run_bind, run_und hE hd, Result.andThen_ok, h1.1, conc, g1, run_size hE hsz, g2]
                        by_cases he : m2 = l2 <;> simp [he, Addr.add_mk]
                      · simp at hh
              · simp at hh
            · rename_i n e
              unfold sliceAr at hh
              split at hh
              · rename_i b o
                split at hh
                · rename_i esz hsz
                  split at hh
                  · rename_i hc
                    have hc : n < big := Nat.le_of_ble_eq_true hc
                    obtain ⟨h2, rfl⟩ := ret1_some hh
                    obtain ⟨l2, h3, m2, g1, g2, g3⟩ := sliceL_ok (P := P) (R := R) h2 (Nat.le_refl _) hc false w
                    refine res_val hR ?_ (g3 _ (by have := h1.2; simpa only [Bnd] using this))
                    simp only [Instr.sliceAt, Instr.sureAddr, Sem.run_bind, run_und hE hd, Result.andThen_ok, h1.1, conc, g1, run_size hE hsz, g2]
                    simp [g1, run_size hE hsz, g2]
                  · simp at hh
                · simp at hh
              · simp at hh
            · simp at hh

end
end Go.Vx
