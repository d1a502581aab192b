/-
  A run told in advance, part fourteen: the built-in functions as they are called; each operation. No condition.
-/
import Derived.Test.YtdglogdigiajbaaGreatDoorVxM
import Derived.Lib.UnsafeStr
set_option linter.unusedSectionVars false
set_option linter.unusedSimpArgs false
set_option linter.unusedVariables false
namespace Go.Vx
open Go.RowKit

section
variable {E : Env} {P : Program} (hE : E.Ok P) {lo : Nat} {R : Ren} {s s' : St} {w : World} {f : Fr} {a : Act} {v : AV} (hR : Rel R s w) (hF : FrOk R s.nx f a) (hlo : lo ≤ s.nx)

theorem notInt {d : TypeDesc} (h : isInt d = false) : (d matches .int _) = false := by
  cases d <;> first | rfl | (simp [isInt] at h)

theorem yesInt {d : TypeDesc} (h : isInt d = true) : (d matches .int _) = true := by
  cases d <;> first | rfl | (simp [isInt] at h)

theorem ts_two {ts : Array TypeId} {t u : TypeId} (h : ts.toList = [t, u]) : ts = #[t, u] := by
  apply Array.ext'; simpa using h

theorem cut_appendCap (need old e : Nat) (x : Nat) (h : need < 2 ^ 63) : need ≤ (Question.appendCap need old e).cut x := by
  simp only [Question.cut]; omega

theorem size_zeroCells' (z : Array Value) (n : Nat) : (Builtin.zeroCells z n).size = n * z.size := by simp [Builtin.zeroCells]

include hE hR hlo in
theorem append_cells {t u e : TypeId} {d' : TypeDesc} {x y : AV} {ty : TypeId} (ht : E.und t = some (.slice e)) (hu : E.und u = some d') (hd : isInt d' = false) (h : appCs E lo s e x y = some (v, s')) (hx : Bnd s.nx x) :
    Res P (do pure (.value (← Builtin.append_ #[t, u] ty #[conc R x, conc R y]))) lo R s w v s' := by
  unfold appCs at h
  split at h
  · rename_i esz hsz
    split at h
    · rename_i new n hnew
      obtain ⟨n1, n2, n3, n4, n5⟩ := appCells_ok hR (P := P) hnew
      obtain ⟨esz', bts, base, len, cap, z, a1, a2, a3, a4, a5, hcase⟩ := app_ok hE hR hlo h hx n3 (fun esz' he => by rw [hsz] at he; obtain rfl := Option.some.inj he; exact n4)
      rw [hsz] at a1
      obtain rfl := Option.some.inj a1
      obtain ⟨i, hi, hib⟩ := run_bytes hE (P := P) a2
      have hz := run_zero hE (P := P) R a3
      have hni := notInt hd
      have hlen : ∀ w', w' = w → (Builtin.lenOf (conc R y)).run P w' = .ok n w' := fun w' e => by subst e; exact n5 _ rfl
      rcases hcase with ⟨c1, R', w', c2, c3, c4, c5, c6⟩ | ⟨c1, c2, c3, old, c4, c5, c6⟩
      · refine ⟨R', _, w', ?_, .inl (congrArg Next.value c3.symm), c4, c5, c6⟩
        have hap : (Builtin.firstCells esz n (conc R y)).run P w = .ok ⟨concL R new⟩ w := n1 w.drawn
        simp only [Builtin.append_, Sem.run_bind, List.getElem?_toArray, List.getElem?_cons_zero, List.getElem?_cons_succ, run_und hE ht, run_und hE hu, Result.andThen_ok, a5, run_size hE hsz, Sem.run_pure]
        rw [if_neg (by cases d' <;> simp_all [isInt])]
        simp only [Sem.run_bind, hlen w rfl, Result.andThen_ok]
        rw [if_pos c1]
        simp only [Sem.run_bind]
        rw [if_pos (by cases d' <;> simp_all [isInt])]
        simp only [hap, Result.andThen_ok]
        cases base with
        | none =>
          obtain ⟨rfl⟩ : w' = w := by simpa using c2.symm
          simp
        | some b =>
          simp only [Sem.run_bind, c2, Result.andThen_ok, Sem.run_pure]
      · let q := Question.appendCap (len + n) cap e
        let c := q.cut (w.tape w.drawn q)
        have hc : len + n ≤ c := cut_appendCap _ _ _ _ (by omega)
        have hzs : (conc R z).cells.size = esz := by rw [cells_conc]; simpa using a4
        obtain ⟨R', g1, g2, g3, g4⟩ := c6 c (Builtin.zeroCells (conc R z).cells (c - (len + n))) hc (by rw [size_zeroCells', hzs])
        refine ⟨R', _, _, ?_, .inl (congrArg Next.value g1.symm), g2, g3, g4⟩
        have hap : ∀ d, (Builtin.firstCells esz n (conc R y)).run P { w with drawn := d } = .ok ⟨concL R new⟩ { w with drawn := d } := n1
        have hfo : q.forced = false := rfl
        simp only [Builtin.append_, Sem.run_bind, List.getElem?_toArray, List.getElem?_cons_zero, List.getElem?_cons_succ, run_und hE ht, run_und hE hu, Result.andThen_ok, a5, run_size hE hsz, Sem.run_pure]
        rw [if_neg (by cases d' <;> simp_all [isInt])]
        simp only [Sem.run_bind, hlen w rfl, Result.andThen_ok]
        rw [if_neg c1]
        simp only [Sem.run_bind, hi, Result.andThen_ok]
        have hmax : ¬ ((len + n : Nat) : Int) > IntKind.i64.max := by
          have : IntKind.i64.max = 9223372036854775807 := rfl
          rw [this]; omega
        rw [if_neg (fun hh => hmax hh.1)]
        simp only [Sem.run_bind, hi, Result.andThen_ok]
        rw [if_neg (by rw [hib]; omega)]
        have hold : ∀ d, (Builtin.firstCells esz len (Value.slice base len cap)).run P { w with drawn := d } = .ok old { w with drawn := d } := by rw [← a5]; exact c5
        simp only [Sem.run_bind, run_choose, show (Question.appendCap (len + n) cap e).forced = false from rfl, Bool.false_eq_true, if_false, Result.andThen_ok, hi, run_askRoom, hold]
        rw [if_pos (by cases d' <;> simp_all [isInt])]
        simp only [hap, Result.andThen_ok, hz.1, newRow, Sem.run_bind, run_newObj, Sem.run_pure]
        rfl
    · simp at h
  · simp at h


include hE hR hlo in
theorem append_zeros {t u e : TypeId} {d' : TypeDesc} {x y : AV} {n : Nat} {ty : TypeId} (ht : E.und t = some (.slice e)) (hu : E.und u = some d') (hd : isInt d' = true) (hy : intOfX y = some n) (h : appZeros E lo s e x n = some (v, s')) (hx : Bnd s.nx x) :
    Res P (do pure (.value (← Builtin.append_ #[t, u] ty #[conc R x, conc R y]))) lo R s w v s' := by
  unfold appZeros at h
  split at h
  · rename_i z0 hz0
    split at h
    · rename_i hn
      have hn := Nat.le_of_ble_eq_true hn
      split at h
      · rename_i esz hsz
        split at h
        · rename_i bts0 hbt0
          split at h
          · rename_i hc0
            simp only [Bool.and_eq_true] at hc0
            have hl0 : (cellsA z0).length = esz := Nat.eq_of_beq_eq_true hc0.1
            have hb0 := Nat.le_of_ble_eq_true hc0.2
            have hz00 := run_zero hE (P := P) R hz0
            have hnew : BndL s.nx (zerosX (cellsA z0) n) := BndL_iff.2 fun q hq => (BndL_iff.1 (cellsA_bnd hz00.2) q (zerosX_mem hq)).mono (Nat.zero_le _)
            obtain ⟨esz', bts, base, len, cap, z, a1, a2, a3, a4, a5, hcase⟩ := app_ok hE hR hlo h hx hnew (fun esz' he => by rw [hsz] at he; obtain rfl := Option.some.inj he; rw [zerosX_length, hl0])
            rw [hsz] at a1
            obtain rfl := Option.some.inj a1
            rw [hz0] at a3
            obtain rfl := Option.some.inj a3
            rw [hbt0] at a2
            obtain rfl := Option.some.inj a2
            obtain ⟨i, hi, hib⟩ := run_bytes hE (P := P) hbt0
            obtain ⟨k, hk⟩ := intOfX_ok (R := R) hy
            have hwrap : IntKind.i64.wrap (n : Int) = n := IntWalk.i64_in _ (by omega)
            have hmul : ¬ (n : Int) * (i.bytes : Int) > 2 ^ 48 := by
              rw [hib]
              have h2 : ((n * bts0 : Nat) : Int) ≤ ((1099511627776 : Nat) : Int) := Int.ofNat_le.2 hb0
              rw [Int.natCast_mul] at h2
              omega
            have hcells : Builtin.zeroCells (conc R z0).cells n = ⟨concL R (zerosX (cellsA z0) n)⟩ := by
              rw [cells_conc, ← zeros_ok (R := R) (cellsA z0) n esz hl0]
              simp [Builtin.zeroCells, hl0]
            have hap : ∀ d, (if n * esz = 0 then (pure #[] : Sem (Array Value)) else do pure (Builtin.zeroCells (← zeroValue e).cells n)).run P { w with drawn := d } = .ok ⟨concL R (zerosX (cellsA z0) n)⟩ { w with drawn := d } := by
              intro d
              split
              · rename_i h0
                have : concL R (zerosX (cellsA z0) n) = [] := by
                  apply List.eq_nil_of_length_eq_zero
                  rw [concL_length, zerosX_length, hl0]; exact h0
                rw [this]; rfl
              · simp only [Sem.run_bind, hz00.1, Result.andThen_ok, hcells, Sem.run_pure]
            rcases hcase with ⟨c1, R', w', c2, c3, c4, c5, c6⟩ | ⟨c1, c2, c3, old, c4, c5, c6⟩
            · refine ⟨R', _, w', ?_, .inl (congrArg Next.value c3.symm), c4, c5, c6⟩
              simp only [Builtin.append_, Sem.run_bind, List.getElem?_toArray, List.getElem?_cons_zero, List.getElem?_cons_succ, run_und hE ht, run_und hE hu, Result.andThen_ok, a5, run_size hE hsz, Sem.run_pure]
              rw [if_pos (by cases d' <;> simp_all [isInt])]
              simp only [Sem.run_bind, hk, asInt, asIntOf, Sem.run_pure, Result.andThen_ok, hwrap]
              rw [if_neg (by omega)]
              simp only [Sem.run_bind, hi, Result.andThen_ok]
              rw [if_neg hmul]
              simp only [Sem.run_bind, Sem.run_pure, Result.andThen_ok, Int.toNat_natCast]
              rw [if_pos c1]
              simp only [Sem.run_bind]
              rw [if_neg (by cases d' <;> simp_all [isInt])]
              have hap' := hap w.drawn
              rw [show ({ w with drawn := w.drawn } : World) = w from rfl] at hap'
              simp only [hap', Result.andThen_ok]
              cases base with
              | none =>
                obtain ⟨rfl⟩ : w' = w := by simpa using c2.symm
                simp
              | some b =>
                simp only [Sem.run_bind, c2, Result.andThen_ok, Sem.run_pure]
            · let q := Question.appendCap (len + n) cap e
              let c := q.cut (w.tape w.drawn q)
              have hc : len + n ≤ c := cut_appendCap _ _ _ _ (by omega)
              have hzs : (conc R z0).cells.size = esz := by rw [cells_conc]; simpa using a4
              obtain ⟨R', g1, g2, g3, g4⟩ := c6 c (Builtin.zeroCells (conc R z0).cells (c - (len + n))) hc (by rw [size_zeroCells', hzs])
              refine ⟨R', _, _, ?_, .inl (congrArg Next.value g1.symm), g2, g3, g4⟩
              have hfo : q.forced = false := rfl
              simp only [Builtin.append_, Sem.run_bind, List.getElem?_toArray, List.getElem?_cons_zero, List.getElem?_cons_succ, run_und hE ht, run_und hE hu, Result.andThen_ok, a5, run_size hE hsz, Sem.run_pure]
              rw [if_pos (by cases d' <;> simp_all [isInt])]
              simp only [Sem.run_bind, hk, asInt, asIntOf, Sem.run_pure, Result.andThen_ok, hwrap]
              rw [if_neg (by omega)]
              simp only [Sem.run_bind, hi, Result.andThen_ok]
              rw [if_neg hmul]
              simp only [Sem.run_bind, Sem.run_pure, Result.andThen_ok, Int.toNat_natCast]
              rw [if_neg c1]
              simp only [Sem.run_bind, hi, Result.andThen_ok]
              have hmax : ¬ ((len + n : Nat) : Int) > IntKind.i64.max := by
                have : IntKind.i64.max = 9223372036854775807 := rfl
                rw [this]; omega
              rw [if_neg (fun hh => hmax hh.1)]
              simp only [Sem.run_bind, hi, Result.andThen_ok]
              rw [if_neg (by rw [hib]; omega)]
              have hold : ∀ d, (Builtin.firstCells esz len (Value.slice base len cap)).run P { w with drawn := d } = .ok old { w with drawn := d } := by rw [← a5]; exact c5
              simp only [Sem.run_bind, run_choose, show (Question.appendCap (len + n) cap e).forced = false from rfl, Bool.false_eq_true, if_false, Result.andThen_ok, hi, run_askRoom, hold]
              rw [if_neg (by cases d' <;> simp_all [isInt])]
              have hap' := hap (w.drawn + 1)
              simp only [hap', Result.andThen_ok, hz00.1, newRow, Sem.run_bind, run_newObj, Sem.run_pure]
              rfl
          · simp at h
        · simp at h
      · simp at h
    · simp at h
  · simp at h

theorem bytesX_ok (R : Ren) : ∀ {cs : List AV} {bs : List UInt8}, bytesX cs = some bs → bs.length = cs.length ∧ ∀ (j : Nat) (x : UInt8), bs[j]? = some x → cs[j]? = some (.int .u8 x.toNat)
  | [], bs, h => by simp [bytesX] at h; subst h; simp
  | c :: cs, bs, h => by
    unfold bytesX at h
    split at h
    · rename_i he; simp at he
    · rename_i n r he
      obtain ⟨rfl, rfl⟩ := List.cons.inj he
      split at h
      · rename_i hn
        have hn := Nat.le_of_ble_eq_true hn
        split at h
        · rename_i m hm
          obtain rfl := Option.some.inj h
          obtain ⟨h1, h2⟩ := bytesX_ok R hm
          refine ⟨by simp [h1], fun j x hj => ?_⟩
          cases j with
          | zero =>
            simp only [List.getElem?_cons_zero, Option.some.injEq] at hj
            subst hj
            have : (UInt8.ofNat n).toNat = n := by simp; omega
            simp [this]
          | succ j =>
            simp only [List.getElem?_cons_succ] at hj ⊢
            exact h2 j x hj
        · simp at h
      · simp at h
    · simp at h

include hR in
theorem dataV_ok {x : AV} (h : dataV s x = some (v, s')) (hb : Bnd s.nx x) (ts : Array TypeId) (ty : TypeId) :
    s' = s ∧ Bnd s.nx v ∧ (Builtin.unsafeSliceData_ ts ty #[conc R x]).run P w = .ok (conc R v) w := by
  unfold dataV at h
  split at h
  · obtain ⟨rfl, rfl⟩ := Prod.mk.inj (Option.some.inj h)
    exact ⟨rfl, by simp [Bnd], by simpa [conc] using Lib.run_unsafeSliceData_nil (P := P) w ts ty 0 0⟩
  · rename_i b o n c
    split at h
    · rename_i hc
      have hc : c < big := Nat.le_of_ble_eq_true hc
      cases c with
      | zero => simp at h
      | succ m =>
        obtain ⟨rfl, rfl⟩ := Prod.mk.inj (Option.some.inj h)
        refine ⟨rfl, by simp only [Bnd] at hb ⊢; exact hb.1, ?_⟩
        have := Lib.run_unsafeSliceData_row (P := P) w ts ty ⟨R.blk b, o, none⟩ n (m + 1) (by omega)
        simpa [conc, Ren.c, hc] using this
    · split at h
      · rename_i ho
        have ho : o = 0 := Nat.eq_of_beq_eq_true ho
        subst ho
        split at h
        · rename_i y l e cc esz hg
          split at h
          · rename_i hq
            simp only [Bool.and_eq_true] at hq
            have q1 := Nat.le_of_ble_eq_true hq.1
            have q2 : c = big + cc := Nat.eq_of_beq_eq_true hq.2
            subst q2
            obtain ⟨rfl, rfl⟩ := Prod.mk.inj (Option.some.inj h)
            obtain ⟨z, hz, hr⟩ := hR.live b _ hg
            have hcc : R.c (big + cc) = R.cap cc := by
              have t1 : ¬ big + cc < big := by omega
              have t2 : big + cc - big = cc := by omega
              simp only [Ren.c]
              rw [if_neg t1, t2]
            have hpos : R.cap cc ≠ 0 := by
              cases z <;> simp only [ORel] at hr
              intro e0
              have h1 := hr.2.2.1
              have h2 := hr.2.2.2.1
              rw [e0] at h1
              simp at h1 h2
              subst h1
              simp at h2
            refine ⟨rfl, by simp only [Bnd] at hb ⊢; exact hb.1, ?_⟩
            have := Lib.run_unsafeSliceData_row (P := P) w ts ty ⟨R.blk b, 0, none⟩ n (R.cap cc) hpos
            simpa [conc, hcc] using this
          · simp at h
        · simp at h
      · simp at h
  · simp at h

include hE hR in
theorem strData_ok {e : TypeId} {p : AV} {n : Nat} {pt it ty : TypeId} (h : strData E lo s e p n = some (v, s')) (hp : E.und pt = some (.pointer e)) :
    ∃ w', (Builtin.unsafeString_ #[pt, it] ty #[conc R p, .int .i64 (Int.ofNat n)]).run P w = .ok (conc R v) w' ∧ Rel R s' w' ∧ Mv lo R s w R s' w' ∧ Bnd s'.nx v := by
  unfold strData at h
  split at h
  · split at h
    · obtain ⟨rfl, rfl⟩ := Prod.mk.inj (Option.some.inj h)
      refine ⟨w, ?_, hR, Mv.refl _ _ _ _, by simp [Bnd]⟩
      have := Lib.run_unsafeString_none (P := P) w pt it ty none
      rw [show ByteArray.empty = ⟨⟨[]⟩⟩ from rfl] at this
      simpa [conc] using this
    · rename_i b o
      obtain ⟨rfl, rfl⟩ := Prod.mk.inj (Option.some.inj h)
      refine ⟨w, ?_, hR, Mv.refl _ _ _ _, by simp [Bnd]⟩
      have := Lib.run_unsafeString_none (P := P) w pt it ty (some ⟨R.blk b, o, none⟩)
      rw [show ByteArray.empty = ⟨⟨[]⟩⟩ from rfl] at this
      simpa [conc] using this
    · simp at h
  · rename_i m
    split at h
    · rename_i b
      split at h
      · rename_i hc
        simp only [Bool.and_eq_true] at hc
        have hlo := Nat.le_of_ble_eq_true hc.1
        unfold strRow at h
        split at h
        · rename_i l e' k hg
          split at h
          · rename_i hq
            simp only [Bool.and_eq_true] at hq
            have q1 : e' = e := Nat.eq_of_beq_eq_true hq.1.1
            have q2 := Nat.le_of_ble_eq_true hq.1.2
            have q3 := hq.2
            subst q1
            split at h
            · rename_i hsz
              split at h
              · rename_i cs hcs
                split at h
                · rename_i bs hbs
                  rw [listK_eq, putK_eq] at h
                  obtain ⟨rfl, rfl⟩ := Prod.mk.inj (Option.some.inj h)
                  obtain ⟨t1, t2⟩ := takeN_ok hcs
                  obtain ⟨b1, b2⟩ := bytesX_ok R hbs
                  obtain ⟨j, hj, hjs⟩ := size_info hE hsz
                  have hcell : P.cellsOf e' = 1 := by simp [Program.cellsOf, hj, hjs]
                  obtain ⟨x, hx, hr⟩ := hR.live b _ hg
                  have hpre : ∃ c fz, x = .cells c e' fz ∧ l.length ≤ c.size ∧ ∀ (i : Nat) (u : AV), l[i]? = some u → c[i]? = some (conc R u) := by
                    cases k <;> cases x <;> simp only [ORel] at hr
                    · simp [writable] at q3
                    · rename_i c _ fz
                      refine ⟨c, fz, by rw [hr.1], by rw [hr.2.1]; simp, fun i u hu => ?_⟩
                      rw [hr.2.1]; simp [hu]
                    · rename_i c _ fz
                      exact ⟨c, fz, by rw [hr.1], hr.2.2.2.1, hr.2.1⟩
                  obtain ⟨c, fz, rfl, hcl, hcv⟩ := hpre
                  have hlen : bs.length = m + 1 := by rw [b1, t1]
                  have hml : m + 1 ≤ l.length := by
                    rcases Nat.lt_or_ge m l.length with h | h
                    · exact h
                    · exfalso
                      have h1 := t2 m (by omega)
                      rw [List.getElem?_eq_none h] at h1
                      have := List.getElem?_eq_none_iff.1 h1
                      omega
                  have hget : ∀ (i : Nat) (y : UInt8), bs[i]? = some y → c[i]? = some (.int .u8 y.toNat) := by
                    intro i y hy
                    have h1 := b2 i y hy
                    have hi : i < m + 1 := by have := (List.getElem?_eq_some_iff.1 hy).1; omega
                    rw [t2 i hi] at h1
                    have := hcv i _ h1
                    simpa [conc] using this
                  have hrun := Lib.run_unsafeString_row (P := P) w pt it ty e' (und_und hE hp) hcell (R.blk b) c.size (by simp [World.shape?, hx]) bs (by intro e0; rw [e0] at hlen; simp at hlen) (by omega) (by omega) (fun i y hy => by
                    simp only [Addr.add]
                    by_cases h0 : i = 0
                    · subst h0; simp [World.cell?, hx, hget 0 y hy]
                    · simp [h0, World.cell?, hx, hget i y hy])
                  rw [hlen] at hrun
                  have hfr : w.freeze ⟨R.blk b, 0, none⟩ (m + 1) = { w with heap := w.heap.set (R.blk b) (.cells c e' (if fz.1 == fz.2 then (0, 0 + (m + 1)) else (min fz.1 0, max fz.2 (0 + (m + 1))))) (hR.lt hg) } := by
                    unfold World.freeze
                    rw [if_neg (by omega)]
                    congr 1
                    apply Array.ext_getElem?
                    intro i
                    rw [Array.getElem?_modify]
                    by_cases e0 : R.blk b = i
                    · subst e0; simp [hx]
                    · rw [if_neg e0, Array.getElem?_set_ne (hR.lt hg) e0]
                  have hu := rel_upd (lo := lo) hR hg hlo hfr (o' := .row l e' .ro) (by simp only [OBnd]; exact (hR.bnd b _ hg).2.row) (by
                    simp only [ORel]
                    exact ⟨trivial, hcv⟩)
                  refine ⟨_, ?_, hu.1, hu.2, by simp [Bnd]⟩
                  simp only [conc]
                  exact hrun
                · simp at h
              · simp at h
            · simp at h
          · simp at h
        · simp at h
      · simp at h
    · simp at h

include hE hR hF hlo in
theorem builtin_ok {b : Builtin} {xs : Array Operand} {ts : Array TypeId} {ty : TypeId} {cs : Array Bool} (h : builtinO b xs ts E lo f s = some (v, s')) :
    Res P (builtin b ts ty cs (xs.map a.eval)) lo R s w v s' := by
  unfold builtinO at h
  split at h
  · rename_i l hl
    have hargs := hF.operandsA hl
    rw [hargs.1]
    have hb := hargs.2
    unfold builtinX at h
    split at h
    · -- len
      rename_i x t ht
      have ht : ts = #[t] := by apply Array.ext'; simpa using ht
      subst ht
      split at h
      · rename_i d hd
        simp only [BndL] at hb
        simp only [concL, builtin]
        unfold lenD at h
        split at h
        · obtain ⟨rfl, rfl⟩ := Prod.mk.inj (Option.some.inj h)
          exact res_val hR (by simp [Builtin.len_, run_und hE hd, conc, goInt]; rfl) (by simp [Bnd])
        · obtain ⟨rfl, rfl⟩ := Prod.mk.inj (Option.some.inj h)
          exact res_val hR (by simp [Builtin.len_, run_und hE hd, conc, goInt]) (by simp [Bnd])
        · obtain ⟨rfl, rfl⟩ := Prod.mk.inj (Option.some.inj h)
          exact res_val hR (by simp [Builtin.len_, run_und hE hd, conc, goInt]) (by simp [Bnd])
        · obtain ⟨rfl, rfl⟩ := Prod.mk.inj (Option.some.inj h)
          exact res_val hR (by simp [Builtin.len_, run_und hE hd, conc, goInt]) (by simp [Bnd])
        · obtain ⟨rfl, rfl⟩ := Prod.mk.inj (Option.some.inj h)
          exact res_val hR (by simp [Builtin.len_, run_und hE hd, conc, goInt]) (by simp [Bnd])
        · split at h
          · rename_i hg
            obtain ⟨rfl, rfl⟩ := Prod.mk.inj (Option.some.inj h)
            exact res_val hR (by simp [Builtin.len_, run_und hE hd, conc, goInt, getMap (map_block hR hg).1]) (by simp [Bnd])
          · simp at h
        · simp at h
      · simp at h
    · -- cap
      rename_i x t ht
      have ht : ts = #[t] := by apply Array.ext'; simpa using ht
      subst ht
      split at h
      · rename_i d hd
        simp only [concL, builtin]
        unfold capD at h
        split at h
        · obtain ⟨rfl, rfl⟩ := Prod.mk.inj (Option.some.inj h)
          exact res_val hR (by simp [Builtin.cap_, run_und hE hd, conc, goInt]) (by simp [Bnd])
        · split at h
          · rename_i hc
            have hc := Nat.le_of_ble_eq_true hc
            obtain ⟨rfl, rfl⟩ := Prod.mk.inj (Option.some.inj h)
            have hc : _ < big := hc
            exact res_val hR (by simp [Builtin.cap_, run_und hE hd, conc, goInt, Ren.c, hc]) (by simp [Bnd])
          · simp at h
        · simp at h
      · simp at h
    · -- min
      rename_i k q x
      simp only [concL, builtin]
      unfold minV at h
      split at h
      · split at h
        · rename_i hk
          obtain rfl := kindEq_eq.1 hk
          obtain ⟨rfl, rfl⟩ := Prod.mk.inj (Option.some.inj h)
          rename_i y _
          refine res_val hR ?_ (by simp [Bnd])
          simp only [Builtin.min_, conc, ltI_eq, List.foldlM, Builtin.min2]
          by_cases hlt : y < q <;> simp [hlt]
        · simp at h
      · simp at h
    · -- max
      rename_i k q x
      simp only [concL, builtin]
      unfold maxV at h
      split at h
      · split at h
        · rename_i hk
          obtain rfl := kindEq_eq.1 hk
          obtain ⟨rfl, rfl⟩ := Prod.mk.inj (Option.some.inj h)
          rename_i y _
          refine res_val hR ?_ (by simp [Bnd])
          simp only [Builtin.max_, conc, ltI_eq, List.foldlM, Builtin.max2]
          by_cases hlt : q < y <;> simp [hlt]
        · simp at h
      · simp at h
    · -- min of three
      rename_i k q x y
      simp only [concL, builtin]
      unfold min3V at h
      split at h
      · rename_i k' b
        split at h
        · rename_i k'' c
          split at h
          · rename_i hk
            simp only [Bool.and_eq_true] at hk
            obtain rfl := kindEq_eq.1 hk.1
            obtain rfl := kindEq_eq.1 hk.2
            obtain ⟨rfl, rfl⟩ := Prod.mk.inj (Option.some.inj h)
            refine res_val hR ?_ (by simp [Bnd])
            have hm : ∀ p r : Int, minI p r = if r < p then r else p := fun p r => by
              unfold minI
              rw [ltI_eq]
              by_cases hlt : r < p <;> simp [hlt]
            simp [Builtin.min_, conc, List.foldlM, Builtin.min2, hm]
          · simp at h
        · simp at h
      · simp at h
    · -- append
      rename_i x y t u ht
      have ht : ts = #[t, u] := ts_two ht
      subst ht
      split at h
      · rename_i d hd
        split at h
        · rename_i d' hd'
          simp only [BndL] at hb
          simp only [concL, builtin]
          unfold appD at h
          split at h
          · split at h
            · rename_i hi
              split at h
              · rename_i n hn
                exact append_zeros hE hR hlo hd hd' hi hn h hb.1
              · simp at h
            · rename_i hi
              exact append_cells hE hR hlo hd hd' hi h hb.1
          · simp at h
        · simp at h
      · simp at h
    · -- copy
      rename_i x y t us ht
      split at h
      · rename_i d hd
        simp only [BndL] at hb
        simp only [concL, builtin]
        have ht0 : ts[0]? = some t := by
          have : ts = (t :: us).toArray := by apply Array.ext'; simpa using ht
          simp [this]
        unfold copyD at h
        split at h
        · rename_i e
          split at h
          · rename_i esz hsz
            split at h
            · rename_i base len cap hsl
              obtain ⟨i1, i2, i3, i4⟩ := isSlice_ok (R := R) hsl
              have hfrom : ∀ {l : List AV} {n : Nat}, copyFrom s esz len y = some (l, n) → ∃ m, (Builtin.lenOf (conc R y)).run P w = .ok m w ∧ Nat.min m len = n ∧ (Builtin.firstCells esz n (conc R y)).run P w = .ok ⟨concL R l⟩ w ∧ BndL s.nx l := by
                intro l n hc
                unfold copyFrom at hc
                split at hc
                · obtain ⟨rfl, rfl⟩ := Prod.mk.inj (Option.some.inj hc)
                  exact ⟨0, by simp [conc, Builtin.lenOf], by simp [Nat.min], by simp [conc, Builtin.firstCells, concL], by simp [BndL]⟩
                · split at hc
                  · rename_i cs hcs
                    obtain ⟨rfl, rfl⟩ := Prod.mk.inj (Option.some.inj hc)
                    exact ⟨_, by simp only [conc, Builtin.lenOf, Sem.run_pure], rfl, by simp only [conc, Builtin.firstCells]; exact run_loadCells hR hcs, (cellsX_bnd hR hcs).1⟩
                  · simp at hc
                · rename_i z
                  split at hc
                  · obtain ⟨rfl, rfl⟩ := Prod.mk.inj (Option.some.inj hc)
                    refine ⟨z.length, by simp only [conc, Builtin.lenOf, Sem.run_pure]; rfl, rfl, ?_, byteCells_bnd _ _⟩
                    simp only [conc, Builtin.firstCells, Sem.run_pure, bytes_extract]
                    congr 1
                    have := byteCells_conc R (z.take (Nat.min z.length len))
                    unfold byteCells at this
                    rw [this]
                    apply Array.ext'
                    simp
                  · simp at hc
                · simp at hc
              cases hc : copyFrom s esz len y with
              | none => simp [hc, copyTo] at h
              | some r =>
                obtain ⟨l, n⟩ := r
                obtain ⟨m, m1, m2, m3, m4⟩ := hfrom hc
                simp only [hc, copyTo] at h
                split at h
                · obtain ⟨rfl, rfl⟩ := Prod.mk.inj (Option.some.inj h)
                  refine res_val hR ?_ (by simp [Bnd])
                  simp [Builtin.copy_, ht0, run_und hE hd, i1, m1, m2, m3, run_size hE hsz, conc, goInt]
                · rename_i b o
                  split at h
                  · rename_i s1 hst
                    obtain ⟨rfl, rfl⟩ := Prod.mk.inj (Option.some.inj h)
                    obtain ⟨w', g1, g2, g3, g4, _⟩ := run_storeX (P := P) hR hst m4
                    refine ⟨R, _, w', ?_, .inl rfl, g2, g3, by simp [Bnd]⟩
                    simp [Builtin.copy_, ht0, run_und hE hd, i1, m1, m2, m3, run_size hE hsz, conc, goInt, g1]
                  · simp at h
            · simp at h
          · simp at h
        · simp at h
      · simp at h
    · -- real
      obtain ⟨rfl, rfl⟩ := Prod.mk.inj (Option.some.inj h)
      exact res_val hR (by rfl) (by simp [Bnd])
    · -- imag
      obtain ⟨rfl, rfl⟩ := Prod.mk.inj (Option.some.inj h)
      exact res_val hR (by rfl) (by simp [Bnd])
    · -- complex
      unfold cpxV at h
      split at h
      · obtain ⟨rfl, rfl⟩ := Prod.mk.inj (Option.some.inj h)
        exact res_val hR (by rfl) (by simp [Bnd])
      · obtain ⟨rfl, rfl⟩ := Prod.mk.inj (Option.some.inj h)
        exact res_val hR (by rfl) (by simp [Bnd])
      · simp at h
    · -- unsafe.SliceData
      rename_i x _
      simp only [BndL] at hb
      obtain ⟨rfl, h2, h3⟩ := dataV_ok (P := P) hR h hb.1 ts ty
      refine res_val hR ?_ h2
      simp only [concL, builtin]
      simp [h3]
    · -- unsafe.String
      rename_i p n t it ht
      have ht : ts = #[t, it] := by apply Array.ext'; simpa using ht
      subst ht
      split at h
      · rename_i e hp
        obtain ⟨w', g1, g2, g3, g4⟩ := strData_ok (P := P) (lo := lo) (it := it) (ty := ty) hE hR h hp
        refine ⟨R, _, w', ?_, .inl rfl, g2, g3, g4⟩
        simp only [concL, conc, builtin]
        have g1' : (Builtin.unsafeString_ #[t, it] ty ⟨[conc R p, Value.int .i64 (n : Int)]⟩).run P w = .ok (conc R v) w' := g1
        simp [g1']
      · simp at h
    · simp at h
  · simp at h

end
end Go.Vx
