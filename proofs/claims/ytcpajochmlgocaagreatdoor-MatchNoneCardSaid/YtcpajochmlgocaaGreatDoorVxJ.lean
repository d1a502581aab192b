/-
  A run told in advance, part ten: slices of slices, maps, iterators. No condition.
-/
import Derived.Test.YtcpajochmlgocaaGreatDoorVxI
import Derived.Laws.Slices
set_option linter.unusedSectionVars false
set_option linter.unusedSimpArgs false
set_option linter.unusedVariables false
namespace Go.Vx
open Go.RowKit

theorem boundX_ok {P : Program} {R : Ren} {y d n : Nat} {x : Option AV} (h : boundX y d x = some n) (hd : d ≤ y) :
    n ≤ y ∧ (∀ v, x = some v → ∀ (code : BoundsCode) (w : World), (Instr.sliceBound (conc R v) y code).run P w = .ok n w) ∧ (x = none → n = d) := by
  unfold boundX at h
  split at h
  · obtain rfl := Option.some.inj h
    exact ⟨hd, by simp, fun _ => rfl⟩
  · rename_i v
    split at h
    · rename_i m hm
      split at h
      · rename_i hl
        have hl := Nat.le_of_ble_eq_true hl
        obtain rfl := Option.some.inj h
        obtain ⟨k, hk⟩ := intOfX_ok (R := R) hm
        refine ⟨hl, fun u hu code w => ?_, by simp⟩
        obtain rfl := Option.some.inj hu
        simp [Instr.sliceBound, hk, asIntOf, hl]
      · simp at h
    · simp at h

theorem isZeroV_ok {P : Program} {R : Ren} {x : Option AV} (h : isZeroV x = true) : ∀ v, x = some v → ∀ (y : Nat) (code : BoundsCode) (w : World), (Instr.sliceBound (conc R v) y code).run P w = .ok 0 w := by
  intro v hv y code w
  subst hv
  unfold isZeroV at h
  split at h
  · rename_i hh; simp at hh
  · rename_i k hh
    obtain rfl := Option.some.inj hh
    simp [Instr.sliceBound, conc, asIntOf]
  · simp at h

theorem optX_ok {R : Ren} {nx : Nat} {f : Fr} {a : Act} (hF : FrOk R nx f a) {x : Option Operand} {l : Option AV} (h : optX x f = some l) : x.map a.eval = l.map (conc R) := by
  unfold optX at h
  split at h
  · obtain rfl := Option.some.inj h; rfl
  · split at h
    · rename_i v hv
      obtain rfl := Option.some.inj h
      simp [(hF.ev hv).1]
    · simp at h

/-- The bounds of a slice expression, as they were told. -/
theorem bounds_ok {P : Program} {R : Ren} {len cap m h' l' : Nat} {lo hi mx : Option AV} (isS : Bool) (w : World) (hm : boundX cap cap mx = some m) (hn : (hi.isNone && mx.isSome) = false)
    (hh : boundX m len hi = some h') (hlen : len ≤ cap) (hl : boundX h' 0 lo = some l') :
    (Instr.sliceBounds isS len cap (lo.map (conc R)) (hi.map (conc R)) (mx.map (conc R))).run P w = .ok (l', h', m) w := by
  have h1 := boundX_ok (P := P) (R := R) hm (Nat.le_refl _)
  have h3 := boundX_ok (P := P) (R := R) hl (Nat.zero_le _)
  cases mx with
  | none =>
    have em := h1.2.2 rfl
    subst em
    have h2 := boundX_ok (P := P) (R := R) hh hlen
    cases hi with
    | none =>
      have eh := h2.2.2 rfl
      subst eh
      cases lo with
      | none => have el := h3.2.2 rfl; subst el; simp [Instr.sliceBounds]
      | some lo => simp [Instr.sliceBounds, h3.2.1 lo rfl]
    | some hi =>
      cases lo with
      | none => have el := h3.2.2 rfl; subst el; simp [Instr.sliceBounds, h2.2.1 hi rfl]
      | some lo => simp [Instr.sliceBounds, h2.2.1 hi rfl, h3.2.1 lo rfl]
  | some mx =>
    cases hi with
    | none => simp at hn
    | some hi =>
      have h2 : ∀ code w, (Instr.sliceBound (conc R hi) m code).run P w = .ok h' w := by
        intro code w
        unfold boundX at hh
        simp only at hh
        split at hh
        · rename_i q hq
          split at hh
          · rename_i hle
            have hle := Nat.le_of_ble_eq_true hle
            obtain rfl := Option.some.inj hh
            obtain ⟨k, hk⟩ := intOfX_ok (R := R) hq
            simp [Instr.sliceBound, hk, asIntOf, hle]
          · simp at hh
        · simp at hh
      cases lo with
      | none => have el := h3.2.2 rfl; subst el; simp [Instr.sliceBounds, h1.2.1 mx rfl, h2]
      | some lo => simp [Instr.sliceBounds, h1.2.1 mx rfl, h2, h3.2.1 lo rfl]

section
variable {E : Env} {P : Program} (hE : E.Ok P) {lo : Nat} {R : Ren} {s s' : St} {w : World} {f : Fr} {a : Act} {v : AV} (hR : Rel R s w) (hF : FrOk R s.nx f a) (hlo : lo ≤ s.nx)

theorem sliceL_ok {esz b o len cap : Nat} {l h m : Option AV} {v : AV} (hs : sliceL esz b o len cap l h m = some v) (hlen : len ≤ cap) (hcap : cap < big) (isS : Bool) (w : World) :
    ∃ l' h' m', (Instr.sliceBounds isS len cap (l.map (conc R)) (h.map (conc R)) (m.map (conc R))).run P w = .ok (l', h', m') w ∧
      conc R v = .slice (some (if m' = l' then (⟨R.blk b, o, none⟩ : Addr) else (⟨R.blk b, o, none⟩ : Addr).add (l' * esz))) (h' - l') (m' - l') ∧ (∀ n, b < n → Bnd n v) := by
  unfold sliceL at hs
  split at hs
  · simp at hs
  · rename_i m' hm
    split at hs
    · simp at hs
    · rename_i hn
      split at hs
      · simp at hs
      · rename_i h' hh
        split at hs
        · simp at hs
        · rename_i l' hl
          have h1 := bounds_ok (P := P) (R := R) isS w hm hn hh hlen hl
          have hmc := (boundX_ok (P := P) (R := R) hm (Nat.le_refl _)).1
          have hlt : m' - l' < big := by omega
          refine ⟨l', h', m', h1, ?_⟩
          split at hs
          · rename_i he
            have he : m' = l' := Nat.eq_of_beq_eq_true he
            obtain rfl := Option.some.inj hs
            have hlt' : Nat.sub m' l' < big := hlt
            refine ⟨by simp [conc, he, Ren.c]; simp [big], fun n hb => ⟨hb, .inl hlt'⟩⟩
          · rename_i he
            have he : m' ≠ l' := fun e => by rw [e] at he; simp at he
            obtain rfl := Option.some.inj hs
            have hlt' : Nat.sub m' l' < big := hlt
            refine ⟨?_, fun n hb => ⟨hb, .inl hlt'⟩⟩
            simp only [conc, he, if_false, Addr.add_mk, Ren.c]
            rw [if_pos hlt']
            rfl

include hR in
theorem sliceG_ok {esz b n c : Nat} {l h m : Option AV} {v : AV} (hs : sliceG b n c l h m = some v) {o : Nat} (hg : growOk s b esz c o n = true) (isS : Bool) (w' : World) :
    ∃ h' m', (Instr.sliceBounds isS n (R.c c) (l.map (conc R)) (h.map (conc R)) (m.map (conc R))).run P w' = .ok (0, h', m') w' ∧
      conc R v = .slice (some ⟨R.blk b, 0, none⟩) h' m' ∧ o = 0 ∧ (∀ k, Bnd k (.slc b o n c) → Bnd k v) := by
  unfold growOk at hg
  split at hg
  · rename_i r e cc esz' hgb
    simp only [Bool.and_eq_true] at hg
    obtain ⟨⟨⟨⟨g1, g2⟩, g3⟩, g4⟩, g5⟩ := hg
    have g1 : esz' = esz := Nat.eq_of_beq_eq_true g1
    have g2 := Nat.le_of_ble_eq_true g2
    have g3 : c = big + cc := Nat.eq_of_beq_eq_true g3
    have g4 : o = 0 := Nat.eq_of_beq_eq_true g4
    have g5 := Nat.le_of_ble_eq_true g5
    subst g1 g3 g4
    obtain ⟨x, hx, hr⟩ := hR.live b _ hgb
    have hcc : R.c (big + cc) = R.cap cc := by
      have q1 : ¬ big + cc < big := by omega
      have q2 : big + cc - big = cc := by omega
      simp only [Ren.c]
      rw [if_neg q1, q2]
    have hle : n ≤ R.cap cc := by
      cases x <;> simp only [ORel] at hr
      have h1 := hr.2.2.1
      have h2 := hr.2.2.2.1
      exact Nat.le_of_mul_le_mul_right (by omega : n * esz' ≤ R.cap cc * esz') (by omega)
    unfold sliceG at hs
    split at hs
    · simp at hs
    · rename_i hz
      simp only [Bool.and_eq_true] at hz
      obtain ⟨hz1, hz2⟩ := hz
      have em : m = none := by simpa using hz2
      subst em
      split at hs
      · rename_i h' hh
        obtain rfl := Option.some.inj hs
        have h2 := boundX_ok (P := P) (R := R) hh (Nat.le_refl _)
        have hb : ∀ q, h = some q → (Instr.sliceBound (conc R q) (R.cap cc) (if isS then .sliceAcap else .sliceAlen)).run P w' = .ok h' w' := by
          intro q hq
          subst hq
          unfold boundX at hh
          simp only at hh
          split at hh
          · rename_i z hz
            split at hh
            · obtain rfl := Option.some.inj hh
              obtain ⟨k, hk⟩ := intOfX_ok (R := R) hz
              have : z ≤ R.cap cc := by omega
              simp [Instr.sliceBound, hk, asIntOf, this]
            · simp at hh
          · simp at hh
        refine ⟨h', R.cap cc, ?_, by simp [conc, hcc], rfl, fun k hk => hk⟩
        rw [hcc]
        cases h with
        | none =>
          have := h2.2.2 rfl
          subst this
          cases l with
          | none => simp [Instr.sliceBounds]
          | some l => simp [Instr.sliceBounds, isZeroV_ok hz1 l rfl]
        | some h =>
          cases l with
          | none => simp [Instr.sliceBounds, hb h rfl]
          | some l => simp [Instr.sliceBounds, hb h rfl, isZeroV_ok hz1 l rfl]
      · simp at hs
  · simp at hg

theorem bytes_extract (l : List UInt8) (i j : Nat) : (⟨⟨l⟩⟩ : ByteArray).extract i j = ⟨⟨(l.drop i).take (j - i)⟩⟩ := by
  apply ByteArray.ext
  rw [ByteArray.data_extract]
  apply Array.ext'
  simp [List.extract]

include hE hR hF in
theorem slice_ok {t : TypeId} {x : Operand} {l h m : Option Operand} (hh : sliceO t x l h m E lo f s = some (v, s')) :
    Res P (do pure (.value (← Instr.sliceAt t (a.eval x) (l.map a.eval) (h.map a.eval) (m.map a.eval)))) lo R s w v s' := by
  unfold sliceO at hh
  split at hh
  · simp at hh
  · rename_i l' hl
    split at hh
    · simp at hh
    · rename_i h' hhi
      split at hh
      · simp at hh
      · rename_i m' hm
        split at hh
        · simp at hh
        · rename_i d hd
          split at hh
          · simp at hh
          · rename_i p hp
            have h1 := hF.ev hp
            rw [optX_ok hF hl, optX_ok hF hhi, optX_ok hF hm]
            unfold sliceD at hh
            split at hh
            · unfold sliceSt at hh
              split at hh
              · rename_i b
                split at hh
                · obtain ⟨h2, rfl⟩ := ret1_some hh
                  unfold sliceS at h2
                  split at h2
                  · simp at h2
                  · rename_i q hq
                    split at h2
                    · simp at h2
                    · rename_i hqb
                      have hqb := Nat.le_of_ble_eq_true hqb
                      split at h2
                      · simp at h2
                      · rename_i r hr
                        split at h2
                        · simp at h2
                        · rename_i hrb
                          have hrb := Nat.le_of_ble_eq_true hrb
                          obtain rfl := Option.some.inj h2
                          have e1 : (⟨⟨b⟩⟩ : ByteArray).size = b.length := rfl
                          have hx1 : ∀ z, h' = some z → ∀ (y : Nat) (code : BoundsCode), q ≤ y → (Instr.sliceBound (conc R z) y code).run P w = .ok q w := by
                            intro z hz y code hy
                            subst hz
                            obtain ⟨k, hk⟩ := intOfX_ok (R := R) hq
                            simp [Instr.sliceBound, hk, asIntOf, hy]
                          have hx2 : ∀ z, l' = some z → ∀ (y : Nat) (code : BoundsCode), r ≤ y → (Instr.sliceBound (conc R z) y code).run P w = .ok r w := by
                            intro z hz y code hy
                            subst hz
                            obtain ⟨k, hk⟩ := intOfX_ok (R := R) hr
                            simp [Instr.sliceBound, hk, asIntOf, hy]
                          refine res_val hR ?_ (by simp [Bnd])
                          simp only [Instr.sliceAt, Instr.slice, Sem.run_bind, run_und hE hd, Result.andThen_ok, h1.1, conc, e1]
                          cases h' with
                          | none =>
                            obtain rfl := Option.some.inj hq
                            cases l' with
                            | none =>
                              obtain rfl := Option.some.inj hr
                              simp [Instr.sliceBounds, bytes_extract]
                            | some z => simp [Instr.sliceBounds, bytes_extract, hx2 z rfl _ _ hrb]
                          | some y =>
                            cases l' with
                            | none =>
                              obtain rfl := Option.some.inj hr
                              simp [Instr.sliceBounds, bytes_extract, hx1 y rfl _ _ hqb]
                            | some z => simp [Instr.sliceBounds, bytes_extract, hx1 y rfl _ _ hqb, hx2 z rfl _ _ hrb]
                · simp at hh
              · simp at hh
            · rename_i e
              unfold sliceSl at hh
              split at hh
              · split at hh
                · simp at hh
                · rename_i esz hsz
                  split at hh
                  · rename_i hz
                    simp only [Bool.and_eq_true] at hz
                    obtain ⟨⟨z1, z2⟩, z3⟩ := hz
                    have em : m' = none := by simpa using z3
                    subst em
                    obtain ⟨rfl, rfl⟩ := Prod.mk.inj (Option.some.inj hh)
                    refine res_val hR ?_ (by simp [Bnd])
                    simp only [Instr.sliceAt, Instr.slice, Sem.run_bind, run_und hE hd, Result.andThen_ok, h1.1, conc]
                    cases h' with
                    | none =>
                      cases l' with
                      | none => simp [Instr.sliceBounds, run_size hE hsz]
                      | some y => simp [Instr.sliceBounds, run_size hE hsz, isZeroV_ok z1 y rfl]
                    | some z =>
                      cases l' with
                      | none => simp [Instr.sliceBounds, run_size hE hsz, isZeroV_ok z2 z rfl]
                      | some y => simp [Instr.sliceBounds, run_size hE hsz, isZeroV_ok z1 y rfl, isZeroV_ok z2 z rfl]
                  · simp at hh
              · rename_i b o n c
                split at hh
                · simp at hh
                · rename_i esz hsz
                  split at hh
                  · rename_i hc
                    have hc : c < big := Nat.le_of_ble_eq_true hc
                    split at hh
                    · rename_i hnc
                      have hnc := Nat.le_of_ble_eq_true hnc
                      obtain ⟨h2, rfl⟩ := ret1_some hh
                      obtain ⟨l2, h3, m2, g1, g2, g3⟩ := sliceL_ok (P := P) (R := R) h2 hnc hc true w
                      refine res_val hR ?_ (g3 _ (by have := h1.2; simp only [Bnd] at this; exact this.1))
                      have hcc : R.c c = c := by simp [Ren.c, hc]
                      simp only [Instr.sliceAt, Instr.slice, Sem.run_bind, run_und hE hd, Result.andThen_ok, h1.1, conc, hcc, g1, run_size hE hsz, g2]
                      by_cases he : m2 = l2 <;> simp [he]
                    · simp at hh
                  · split at hh
                    · rename_i hg
                      obtain ⟨h2, rfl⟩ := ret1_some hh
                      obtain ⟨h3, m2, g1, g2, g3, g4⟩ := sliceG_ok hR (P := P) h2 hg true w
                      subst g3
                      refine res_val hR ?_ (g4 _ h1.2)
                      simp only [Instr.sliceAt, Instr.slice, Sem.run_bind, run_und hE hd, Result.andThen_ok, h1.1, conc, g1, run_size hE hsz, g2]
                      by_cases he : m2 = 0 <;> simp [he, Addr.add_mk]
                    · simp at hh
              · simp at hh
            · rename_i n e
              unfold sliceAr at hh
              split at hh
              · rename_i b o
                split at hh
                · rename_i esz hsz
                  split at hh
                  · rename_i hc
                    have hc : n < big := Nat.le_of_ble_eq_true hc
                    obtain ⟨h2, rfl⟩ := ret1_some hh
                    obtain ⟨l2, h3, m2, g1, g2, g3⟩ := sliceL_ok (P := P) (R := R) h2 (Nat.le_refl _) hc false w
                    refine res_val hR ?_ (g3 _ (by have := h1.2; simpa only [Bnd] using this))
                    simp only [Instr.sliceAt, Instr.sureAddr, Sem.run_bind, run_und hE hd, Result.andThen_ok, h1.1, conc, g1, run_size hE hsz, g2]
                    simp [g1, run_size hE hsz, g2]
                  · simp at hh
                · simp at hh
              · simp at hh
            · simp at hh

end
end Go.Vx
