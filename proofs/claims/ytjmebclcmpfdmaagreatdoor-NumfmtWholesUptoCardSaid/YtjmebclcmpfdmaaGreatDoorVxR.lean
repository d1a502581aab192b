/-
  A run told in advance, part fourteen: the built-in functions as they are called; each operation. No condition.
-/
import Derived.Test.YtjmebclcmpfdmaaGreatDoorVxM
import Derived.Lib.UnsafeStr
set_option linter.unusedSectionVars false
set_option linter.unusedSimpArgs false
set_option linter.unusedVariables false
namespace Go.Vx
open Go.RowKit

section
variable {E : Env} {P : Program} (hE : E.Ok P) {lo : Nat} {R : Ren} {s s' : St} {w : World} {f : Fr} {a : Act} {v : AV} (hR : Rel R s w) (hF : FrOk R s.nx f a) (hlo : lo ≤ s.nx)

theorem notInt {d : TypeDesc} (h : isInt d = false) : (d matches .int _) = false := by
  cases d <;> first | rfl | (simp [isInt] at h)

theorem yesInt {d : TypeDesc} (h : isInt d = true) : (d matches .int _) = true := by
  cases d <;> first | rfl | (simp [isInt] at h)

theorem ts_two {ts : Array TypeId} {t u : TypeId} (h : ts.toList = [t, u]) : ts = #[t, u] := by
  apply Array.ext'; simpa using h

theorem cut_appendCap (need old e : Nat) (x : Nat) (h : need < 2 ^ 63) : need ≤ (Question.appendCap need old e).cut x := by
  simp only [Question.cut]; omega

theorem size_zeroCells' (z : Array Value) (n : Nat) : (Builtin.zeroCells z n).size = n * z.size := by simp [Builtin.zeroCells]

include hE hR hlo in
theorem append_cells {t u e : TypeId} {d' : TypeDesc} {x y : AV} {ty : TypeId} (ht : E.und t = some (.slice e)) (hu : E.und u = some d') (hd : isInt d' = false) (h : appCs E lo s e x y = some (v, s')) (hx : Bnd s.nx x) :
    Res P (do pure (.value (← Builtin.append_ #[t, u] ty #[conc R x, conc R y]))) lo R s w v s' := by
  unfold appCs at h
  split at h
  · rename_i esz hsz
    split at h
    · rename_i new n hnew
      obtain ⟨n1, n2, n3, n4, n5⟩ := appCells_ok hR (P := P) hnew
      obtain ⟨esz', bts, base, len, cap, z, a1, a2, a3, a4, a5, hcase⟩ := app_ok hE hR hlo h hx n3 (fun esz' he => by rw [hsz] at he; obtain rfl := Option.some.inj he; exact n4)
      rw [hsz] at a1
      obtain rfl := Option.some.inj a1
      obtain ⟨i, hi, hib⟩ := run_bytes hE (P := P) a2
      have hz := run_zero hE (P := P) R a3
      have hni := notInt hd
      have hlen : ∀ w', w' = w → (Builtin.lenOf (conc R y)).run P w' = .ok n w' := fun w' e => by subst e; exact n5 _ rfl
      rcases hcase with ⟨c1, R', w', c2, c3, c4, c5, c6⟩ | ⟨c1, c2, c3, old, c4, c5, c6⟩
      · refine ⟨R', _, w', ?_, .inl (congrArg Next.value c3.symm), c4, c5, c6⟩
        have hap : (Builtin.firstCells esz n (conc R y)).run P w = .ok ⟨concL R new⟩ w := n1 w.drawn
        simp only [Builtin.append_, Sem.run_bind, List.getElem?_toArray, List.getElem?_cons_zero, List.getElem?_cons_succ, run_und hE ht, run_und hE hu, Result.andThen_ok, a5, run_size hE hsz, Sem.run_pure]
        rw [if_neg (by cases d' <;> simp_all [isInt])]
        simp only [Sem.run_bind, hlen w rfl, Result.andThen_ok]
        rw [if_pos c1]
        simp only [Sem.run_bind]
        rw [if_pos (by cases d' <;> simp_all [isInt])]
        simp only [hap, Result.andThen_ok]
        cases base with
        | none =>
          obtain ⟨rfl⟩ : w' = w := by simpa using c2.symm
          simp
        | some b =>
          simp only [Sem.run_bind, c2, Result.andThen_ok, Sem.run_pure]
      · let q := Question.appendCap (len + n) cap e
        let c := q.cut (w.tape w.drawn q)
        have hc : len + n ≤ c := cut_appendCap _ _ _ _ (by omega)
        have hzs : (conc R z).cells.size = esz := by rw [cells_conc]; simpa using a4
        obtain ⟨R', g1, g2, g3, g4⟩ := c6 c (Builtin.zeroCells (conc R z).cells (c - (len + n))) hc (by rw [size_zeroCells', hzs])
        refine ⟨R', _, _, ?_, .inl (congrArg Next.value g1.symm), g2, g3, g4⟩
        have hap : ∀ d, (Builtin.firstCells esz n (conc R y)).run P { w with drawn := d } = .ok ⟨concL R new⟩ { w with drawn := d } := n1
        have hfo : q.forced = false := rfl
        simp only [Builtin.append_, Sem.run_bind, List.getElem?_toArray, List.getElem?_cons_zero, List.getElem?_cons_succ, run_und hE ht, run_und hE hu, Result.andThen_ok, a5, run_size hE hsz, Sem.run_pure]
        rw [if_neg (by cases d' <;> simp_all [isInt])]
        simp only [Sem.run_bind, hlen w rfl, Result.andThen_ok]
        rw [if_neg c1]
        simp only [Sem.run_bind, hi, Result.andThen_ok]
        have hmax : ¬ ((len + n : Nat) : Int) > IntKind.i64.max := by
          have : IntKind.i64.max = 9223372036854775807 := rfl
          rw [this]; omega
        rw [if_neg (fun hh => hmax hh.1)]
        simp only [Sem.run_bind, hi, Result.andThen_ok]
        rw [if_neg (by rw [hib]; omega)]
        have hold : ∀ d, (Builtin.firstCells esz len (Value.slice base len cap)).run P { w with drawn := d } = .ok old { w with drawn := d } := by rw [← a5]; exact c5
        simp only [Sem.run_bind, run_choose, show (Question.appendCap (len + n) cap e).forced = false from rfl, Bool.false_eq_true, if_false, Result.andThen_ok, hi, run_askRoom, hold]
        rw [if_pos (by cases d' <;> simp_all [isInt])]
        simp only [hap, Result.andThen_ok, hz.1, newRow, Sem.run_bind, run_newObj, Sem.run_pure]
        rfl
    · simp at h
  · simp at h


include hE hR hlo in
theorem append_zeros {t u e : TypeId} {d' : TypeDesc} {x y : AV} {n : Nat} {ty : TypeId} (ht : E.und t = some (.slice e)) (hu : E.und u = some d') (hd : isInt d' = true) (hy : intOfX y = some n) (h : appZeros E lo s e x n = some (v, s')) (hx : Bnd s.nx x) :
    Res P (do pure (.value (← Builtin.append_ #[t, u] ty #[conc R x, conc R y]))) lo R s w v s' := by
  unfold appZeros at h
  split at h
  · rename_i z0 hz0
    split at h
    · rename_i hn
      have hn := Nat.le_of_ble_eq_true hn
      split at h
      · rename_i esz hsz
        split at h
        · rename_i bts0 hbt0
          split at h
          · rename_i hc0
            simp only [Bool.and_eq_true] at hc0
            have hl0 : (cellsA z0).length = esz := Nat.eq_of_beq_eq_true hc0.1
            have hb0 := Nat.le_of_ble_eq_true hc0.2
            have hz00 := run_zero hE (P := P) R hz0
            have hnew : BndL s.nx (zerosX (cellsA z0) n) := BndL_iff.2 fun q hq => (BndL_iff.1 (cellsA_bnd hz00.2) q (zerosX_mem hq)).mono (Nat.zero_le _)
            obtain ⟨esz', bts, base, len, cap, z, a1, a2, a3, a4, a5, hcase⟩ := app_ok hE hR hlo h hx hnew (fun esz' he => by rw [hsz] at he; obtain rfl := Option.some.inj he; rw [zerosX_length, hl0])
            rw [hsz] at a1
            obtain rfl := Option.some.inj a1
            rw [hz0] at a3
            obtain rfl := Option.some.inj a3
            rw [hbt0] at a2
            obtain rfl := Option.some.inj a2
            obtain ⟨i, hi, hib⟩ := run_bytes hE (P := P) hbt0
            obtain ⟨k, hk⟩ := intOfX_ok (R := R) hy
            have hwrap : IntKind.i64.wrap (n : Int) = n := IntWalk.i64_in _ (by omega)
            have hmul : ¬ (n : Int) * (i.bytes : Int) > 2 ^ 48 := by
              rw [hib]
              have h2 : ((n * bts0 : Nat) : Int) ≤ ((1099511627776 : Nat) : Int) := Int.ofNat_le.2 hb0
              rw [Int.natCast_mul] at h2
              omega
            have hcells : Builtin.zeroCells (conc R z0).cells n = ⟨concL R (zerosX (cellsA z0) n)⟩ := by
              rw [cells_conc, ← zeros_ok (R := R) (cellsA z0) n esz hl0]
              simp [Builtin.zeroCells, hl0]
            have hap : ∀ d, (if n * esz = 0 then (pure #[] : Sem (Array Value)) else do pure (Builtin.zeroCells (← zeroValue e).cells n)).run P { w with drawn := d } = .ok ⟨concL R (zerosX (cellsA z0) n)⟩ { w with drawn := d } := by
              intro d
              split
              · rename_i h0
                have : concL R (zerosX (cellsA z0) n) = [] := by
                  apply List.eq_nil_of_length_eq_zero
                  rw [concL_length, zerosX_length, hl0]; exact h0
                rw [this]; rfl
              · simp only [Sem.run_bind, hz00.1, Result.andThen_ok, hcells, Sem.run_pure]
            rcases hcase with ⟨c1, R', w', c2, c3, c4, c5, c6⟩ | ⟨c1, c2, c3, old, c4, c5, c6⟩
            · refine ⟨R', _, w', ?_, .inl (congrArg Next.value c3.symm), c4, c5, c6⟩
              simp only [Builtin.append_, Sem.run_bind, List.getElem?_toArray, List.getElem?_cons_zero, List.getElem?_cons_succ, run_und hE ht, run_und hE hu, Result.andThen_ok, a5, run_size hE hsz, Sem.run_pure]
              rw [if_pos (by cases d' <;> simp_all [isInt])]
              simp only [Sem.run_bind, hk, asInt, asIntOf, Sem.run_pure, Result.andThen_ok, hwrap]
              rw [if_neg (by omega)]
              simp only [Sem.run_bind, hi, Result.andThen_ok]
              rw [if_neg hmul]
              simp only [Sem.run_bind, Sem.run_pure, Result.andThen_ok, Int.toNat_natCast]
              rw [if_pos c1]
              simp only [Sem.run_bind]
              rw [if_neg (by cases d' <;> simp_all [isInt])]
              have hap' := hap w.drawn
              rw [show ({ w with drawn := w.drawn } : World) = w from rfl] at hap'
              simp only [hap', Result.andThen_ok]
              cases base with
              | none =>
                obtain ⟨rfl⟩ : w' = w := by simpa using c2.symm
                simp
              | some b =>
                simp only [Sem.run_bind, c2, Result.andThen_ok, Sem.run_pure]
            · let q := Question.appendCap (len + n) cap e
              let c := q.cut (w.tape w.drawn q)
              have hc : len + n ≤ c := cut_appendCap _ _ _ _ (by omega)
              have hzs : (conc R z0).cells.size = esz := by rw [cells_conc]; simpa using a4
              obtain ⟨R', g1, g2, g3, g4⟩ := c6 c (Builtin.zeroCells (conc R z0).cells (c - (len + n))) hc (by rw [size_zeroCells', hzs])
              refine ⟨R', _, _, ?_, .inl (congrArg Next.value g1.symm), g2, g3, g4⟩
              have hfo : q.forced = false := rfl
              simp only [Builtin.append_, Sem.run_bind, List.getElem?_toArray, List.getElem?_cons_zero, List.getElem?_cons_succ, run_und hE ht, run_und hE hu, Result.andThen_ok, a5, run_size hE hsz, Sem.run_pure]
              rw [if_pos (by cases d' <;> simp_all [isInt])]
              simp only [Sem.run_bind, hk, asInt, asIntOf, Sem.run_pure, Result.andThen_ok, hwrap]
              rw [if_neg (by omega)]
              simp only [Sem.run_bind, hi, Result.andThen_ok]
              rw [if_neg hmul]
              simp only [Sem.run_bind, Sem.run_pure, Result.andThen_ok, Int.toNat_natCast]
              rw [if_neg c1]
              simp only [Sem.run_bind, hi, Result.andThen_ok]
              have hmax : ¬ ((len + n : Nat) : Int) > IntKind.i64.max := by
                have : IntKind.i64.max = 9223372036854775807 := rfl
                rw [this]; omega
              rw [if_neg (fun hh => hmax hh.1)]
              simp only [Sem.run_bind, hi, Result.andThen_ok]
              rw [if_neg (by rw [hib]; omega)]
              have hold : ∀ d, (Builtin.firstCells esz len (Value.slice base len cap)).run P { w with drawn := d } = .ok old { w with drawn := d } := by rw [← a5]; exact c5
              simp only [Sem.run_bind, run_choose, show (Question.appendCap (len + n) cap e).forced = false from rfl, Bool.false_eq_true, if_false, Result.andThen_ok, hi, run_askRoom, hold]
              rw [if_neg (by cases d' <;> simp_all [isInt])]
              have hap' := hap (w.drawn + 1)
              simp only [hap', Result.andThen_ok, hz00.1, newRow, Sem.run_bind, run_newObj, Sem.run_pure]
              rfl
          · simp at h
        · simp at h
      · simp at h
    · simp at h
  · simp at h

theorem bytesX_ok (R : Ren) : ∀ {cs : List AV} {bs : List UInt8}, bytesX cs = some bs → bs.length = cs.length ∧ ∀ (j : Nat) (x : UInt8), bs[j]? = some x → cs[j]? = some (.int .u8 x.toNat)
  | [], bs, h => by simp [bytesX] at h; subst h; simp
  | c :: cs, bs, h => by
    unfold bytesX at h
    split at h
    · rename_i he; simp at he
    · rename_i n r he
      obtain ⟨rfl, rfl⟩ := List.cons.inj he
      split at h
      · rename_i hn
        have hn := Nat.le_of_ble_eq_true hn
        split at h
        · rename_i m hm
          obtain rfl := Option.some.inj h
          obtain ⟨h1, h2⟩ := bytesX_ok R hm
          refine ⟨by simp [h1], fun j x hj => ?_⟩
          cases j with
          | zero =>
            simp only [List.getElem?_cons_zero, Option.some.injEq] at hj
            subst hj
            have : (UInt8.ofNat n).toNat = n := by simp; omega
            simp [this]
          | succ j =>
            simp only [List.getElem?_cons_succ] at hj ⊢
            exact h2 j x hj
        · simp at h
      · simp at h
    · simp at h

include hR in
theorem dataV_ok {x : AV} (h : dataV s x = some (v, s')) (hb : Bnd s.nx x) (ts : Array TypeId) (ty : TypeId) :
    s' = s ∧ Bnd s.nx v ∧ (Builtin.unsafeSliceData_ ts ty #[conc R x]).run P w = .ok (conc R v) w := by
  unfold dataV at h
  split at h
  · obtain ⟨rfl, rfl⟩ := Prod.mk.inj (Option.some.inj h)
    exact ⟨rfl, by simp [Bnd], by simpa [conc] using Lib.run_unsafeSliceData_nil (P := P) w ts ty 0 0⟩
  · rename_i b o n c
    split at h
    · rename_i hc
      have hc : c < big := Nat.le_of_ble_eq_true hc
      cases c with
      | zero => simp at h
      | succ m =>
        obtain ⟨rfl, rfl⟩ := Prod.mk.inj (Option.some.inj h)
        refine ⟨rfl, by simp only [Bnd] at hb ⊢; exact hb.1, ?_⟩
        have := Lib.run_unsafeSliceData_row (P := P) w ts ty ⟨R.blk b, o, none⟩ n (m + 1) (by omega)
        simpa [conc, Ren.c, hc] using this
    · split at h
      · rename_i ho
        have ho : o = 0 := Nat.eq_of_beq_eq_true ho
        subst ho
        split at h
        · rename_i y l e cc esz hg
          split at h
          · rename_i hq
            simp only [Bool.and_eq_true] at hq
            have q1 := Nat.le_of_ble_eq_true hq.1
            have q2 : c = big + cc := Nat.eq_of_beq_eq_true hq.2
            subst q2
            obtain ⟨rfl, rfl⟩ := Prod.mk.inj (Option.some.inj h)
            obtain ⟨z, hz, hr⟩ := hR.live b _ hg
            have hcc : R.c (big + cc) = R.cap cc := by
              have t1 : ¬ big + cc < big := by omega
              have t2 : big + cc - big = cc := by omega
              simp only [Ren.c]
              rw [if_neg t1, t2]
            have hpos : R.cap cc ≠ 0 := by
              cases z <;> simp only [ORel] at hr
              intro e0
              have h1 := hr.2.2.1
              have h2 := hr.2.2.2.1
              rw [e0] at h1
              simp at h1 h2
              subst h1
              simp at h2
            refine ⟨rfl, by simp only [Bnd] at hb ⊢; exact hb.1, ?_⟩
            have := Lib.run_unsafeSliceData_row (P := P) w ts ty ⟨R.blk b, 0, none⟩ n (R.cap cc) hpos
            simpa [conc, hcc] using this
          · simp at h
        · simp at h
      · simp at h
  · simp at h

include hE hR in
theorem strData_ok {e : TypeId} {p : AV} {n : Nat} {pt it ty : TypeId} (h : strData E lo s e p n = some (v, s')) (hp : E.und pt = some (.pointer e)) :
    ∃ w', (Builtin.unsafeString_ #[pt, it] ty #[conc R p, .int .i64 (Int.ofNat n)]).run P w = .ok (conc R v) w' ∧ Rel R s' w' ∧ Mv lo R s w R s' w' ∧ Bnd s'.nx v := by
  unfold strData at h
  split at h
  · split at h
    · obtain ⟨rfl, rfl⟩ := Prod.mk.inj (Option.some.inj h)
      refine ⟨w, ?_, hR, Mv.refl _ _ _ _, by simp [Bnd]⟩
      have := Lib.run_unsafeString_none (P := P) w pt it ty none
      rw [show ByteArray.empty = ⟨⟨[]⟩⟩ from rfl] at this
      simpa [conc] using this
    · rename_i b o
      obtain ⟨rfl, rfl⟩ := Prod.mk.inj (Option.some.inj h)
      refine ⟨w, ?_, hR, Mv.refl _ _ _ _, by simp [Bnd]⟩
      have := Lib.run_unsafeString_none (P := P) w pt it ty (some ⟨R.blk b, o, none⟩)
      rw [show ByteArray.empty = ⟨⟨[]⟩⟩ from rfl] at this
      simpa [conc] using this
    · simp at h
  · rename_i m
    split at h
    · rename_i b
      split at h
      · rename_i hc
        simp only [Bool.and_eq_true] at hc
        have hlo := Nat.le_of_ble_eq_true hc.1
        unfold strRow at h
        split at h
        · rename_i l e' k hg
          split at h
          · rename_i hq
            simp only [Bool.and_eq_true] at hq
            have q1 : e' = e := Nat.eq_of_beq_eq_true hq.1.1
            have q2 := Nat.le_of_ble_eq_true hq.1.2
            have q3 := hq.2
            subst q1
            split at h
            · rename_i hsz
              split at h
              · rename_i cs hcs
                split at h
                · rename_i bs hbs
                  rw [listK_eq, putK_eq] at h
                  obtain ⟨rfl, rfl⟩ := Prod.mk.inj (Option.some.inj h)
                  obtain ⟨t1, t2⟩ := takeN_ok hcs
                  obtain ⟨b1, b2⟩ := bytesX_ok R hbs
                  obtain ⟨j, hj, hjs⟩ := size_info hE hsz
                  have hcell : P.cellsOf e' = 1 := by simp [Program.cellsOf, hj, hjs]
                  obtain ⟨x, hx, hr⟩ := hR.live b _ hg
                  have hpre : ∃ c fz, x = .cells c e' fz ∧ l.length ≤ c.size ∧ ∀ (i : Nat) (u : AV), l[i]? = some u → c[i]? = some (conc R u) := by
                    cases k <;> cases x <;> simp only [ORel] at hr
                    · simp [writable] at q3
                    · rename_i c _ fz
                      refine ⟨c, fz, by rw [hr.1], by rw [hr.2.1]; simp, fun i u hu => ?_⟩
                      rw [hr.2.1]; simp [hu]
                    · rename_i c _ fz
                      exact ⟨c, fz, by rw [hr.1], hr.2.2.2.1, hr.2.1⟩
                  obtain ⟨c, fz, rfl, hcl, hcv⟩ := hpre
                  have hlen : bs.length = m + 1 := by rw [b1, t1]
                  have hml : m + 1 ≤ l.length := by
                    rcases Nat.lt_or_ge m l.length with h | h
                    · exact h
                    · exfalso
                      have h1 := t2 m (by omega)
                      rw [List.getElem?_eq_none h] at h1
                      have := List.getElem?_eq_none_iff.1 h1
                      omega
                  have hget : ∀ (i : Nat) (y : UInt8), bs[i]? = some y → c[i]? = some (.int .u8 y.toNat) := by
                    intro i y hy
                    have h1 := b2 i y hy
                    have hi : i < m + 1 := by have := (List.getElem?_eq_some_iff.1 hy).1; omega
                    rw [t2 i hi] at h1
                    have := hcv i _ h1
                    simpa [conc] using this
                  have hrun := Lib.run_unsafeString_row (P := P) w pt it ty e' (und_und hE hp) hcell (R.blk b) c.size (by simp [World.shape?, hx]) bs (by intro e0; rw [e0] at hlen; simp at hlen) (by omega) (by omega) (fun i y hy => by
                    simp only [Addr.add]
                    by_cases h0 : i = 0
                    · subst h0; simp [World.cell?, hx, hget 0 y hy]
                    · simp [h0, World.cell?, hx, hget i y hy])
                  rw [hlen] at hrun
                  have hfr : w.freeze ⟨R.blk b, 0, none⟩ (m + 1) = { w with heap := w.heap.set (R.blk b) (.cells c e' (if fz.1 == fz.2 then (0, 0 + (m + 1)) else (min fz.1 0, max fz.2 (0 + (m + 1))))) (hR.lt hg) } := by
                    unfold World.freeze
                    rw [if_neg (by omega)]
                    congr 1
                    apply Array.ext_getElem?
                    intro i
                    rw [Array.getElem?_modify]
                    by_cases e0 : R.blk b = i
                    · subst e0; simp [hx]
                    · rw [if_neg e0, Array.getElem?_set_ne (hR.lt hg) e0]
                  have hu := rel_upd (lo := lo) hR hg hlo hfr (o' := .row l e' .ro) (by simp only [OBnd]; exact (hR.bnd b _ hg).2.row) (by
                    simp only [ORel]
                    exact ⟨trivial, hcv⟩)
                  refine ⟨_, ?_, hu.1, hu.2, by simp [Bnd]⟩
                  simp only [conc]
                  exact hrun
                · simp at h
              · simp at h
            · simp at h
          · simp at h
        · simp at h
      · simp at h
    · simp at h

include hE hR hF hlo in
theorem builtin_ok {b : Builtin} {xs : Array Operand} {ts : Array TypeId} {ty : TypeId} {cs : Array Bool} (h : builtinO b xs ts E lo f s = some (v, s')) :
    Res P (builtin b ts ty cs (xs.map a.eval)) lo R s w v s' := by
  unfold builtinO at h
  split at h
  · rename_i l hl
    have hargs := hF.operandsA hl
    rw [hargs.1]
    have hb := hargs.2
    unfold builtinX at h
    split at h
    · -- len
      rename_i x t ht
      have ht : ts = #[t] := by apply Array.ext'; simpa using ht
      subst ht
      split at h
      · rename_i d hd
        simp only [BndL] at hb
        simp only [concL, builtin]
        unfold lenD at h
        split at h
        · obtain ⟨rfl, rfl⟩ := Prod.mk.inj (Option.some.inj h)
          exact res_val hR (by simp [Builtin.len_, run_und hE hd, conc, goInt]; rfl) (by simp [Bnd])
        · obtain ⟨rfl, rfl⟩ := Prod.mk.inj (Option.some.inj h)
          exact res_val hR (by simp [Builtin.len_, run_und hE hd, conc, goInt]) (by simp [Bnd])
        · obtain ⟨rfl, rfl⟩ := Prod.mk.inj (Option.some.inj h)
          exact res_val hR (by simp [Builtin.len_, run_und hE hd, conc, goInt]) (by simp [Bnd])
        · obtain ⟨rfl, rfl⟩ := Prod.mk.inj (Option.some.inj h)
          exact res_val hR (by simp [Builtin.len_, run_und hE hd, conc, goInt]) (by simp [Bnd])
        · obtain ⟨rfl, rfl⟩ := Prod.mk.inj (Option.some.inj h)
          exact res_val hR (by simp [Builtin.len_, run_und hE hd, conc, goInt]) (by simp [Bnd])
        · split at h
          · rename_i hg
            obtain ⟨rfl, rfl⟩ := Prod.mk.inj (Option.some.inj h)
            exact res_val hR (by simp [Builtin.len_, run_und hE hd, conc, goInt, getMap (map_block hR hg).1]) (by simp [Bnd])
          · simp at h
        · simp at h
      · simp at h
    · -- cap
      rename_i x t ht
      have ht : ts = #[t] := by apply Array.ext'; simpa using ht
      subst ht
      split at h
      · rename_i d hd
        simp only [concL, builtin]
        unfold capD at h
        split at h
        · obtain ⟨rfl, rfl⟩ := Prod.mk.inj (Option.some.inj h)
          exact res_val hR (by simp [Builtin.cap_, run_und hE hd, conc, goInt]) (by simp [Bnd])
        · split at h
          · rename_i hc
            have hc := Nat.le_of_ble_eq_true hc
            obtain ⟨rfl, rfl⟩ := Prod.mk.inj (Option.some.inj h)
            have hc : _ < big := hc
            exact res_val hR (by simp [Builtin.cap_, run_und hE hd, conc, goInt, Ren.c, hc]) (by simp [Bnd])
          · simp at h
        · simp at h
      · simp at h
    · -- min
      rename_i k q x
      simp only [concL, builtin]
      unfold minV at h
      split at h
      · split at h
        · rename_i hk
          obtain rfl := kindEq_eq.1 hk
          obtain ⟨rfl, rfl⟩ := Prod.mk.inj (Option.some.inj h)
          rename_i y _
          refine res_val hR ?_ (by simp [Bnd])
          simp only [Builtin.min_, conc, ltI_eq, List.foldlM, Builtin.min2]
          by_cases hlt : y < q <;> simp [hlt]
        · simp at h
      · simp at h
    · -- max
      rename_i k q x
      simp only [concL, builtin]
      unfold maxV at h
      split at h
      · split at h
        · rename_i hk
          obtain rfl := kindEq_eq.1 hk
          obtain ⟨rfl, rfl⟩ := Prod.mk.inj (Option.some.inj h)
          rename_i y _
          refine res_val hR ?_ (by simp [Bnd])
          simp only [Builtin.max_, conc, ltI_eq, List.foldlM, Builtin.max2]
          by_cases hlt : q < y <;> simp [hlt]
        · simp at h
      · simp at h
    · -- min of three
      rename_i k q x y
      simp only [concL, builtin]
      unfold min3V at h
      split at h
      · rename_i k' b
        split at h
        · rename_i k'' c
          split at h
          · rename_i hk
            simp only [Bool.and_eq_true] at hk
            obtain rfl := kindEq_eq.1 hk.1
            obtain rfl := kindEq_eq.1 hk.2
            obtain ⟨rfl, rfl⟩ := Prod.mk.inj (Option.some.inj h)
            refine res_val hR ?_ (by simp [Bnd])
            have hm : ∀ p r : Int, minI p r = if r < p then r else p := fun p r => by
              unfold minI
              rw [ltI_eq]
              by_cases hlt : r < p <;> simp [hlt]
            simp [Builtin.min_, conc, List.foldlM, Builtin.min2, hm]
          · simp at h
        · simp at h
      · simp at h
    · -- append
      rename_i x y t u ht
      have ht : ts = #[t, u] := ts_two ht
      subst ht
      split at h
      · rename_i d hd
        split at h
        · rename_i d' hd'
          simp only [BndL] at hb
          simp only [concL, builtin]
          unfold appD at h
          split at h
          · split at h
            · rename_i hi
              split at h
              · rename_i n hn
                exact append_zeros hE hR hlo hd hd' hi hn h hb.1
              · simp at h
            · rename_i hi
              exact append_cells hE hR hlo hd hd' hi h hb.1
          · simp at h
        · simp at h
      · simp at h
    · -- copy
      rename_i x y t us ht
      split at h
      · rename_i d hd
        simp only [BndL] at hb
        simp only [concL, builtin]
        have ht0 : ts[0]? = some t := by
          have : ts = (t :: us).toArray := by apply Array.ext'; simpa using ht
          simp [this]
        unfold copyD at h
        split at h
        · rename_i e
          split at h
          · rename_i esz hsz
            split at h
            · rename_i base len cap hsl
              obtain ⟨i1, i2, i3, i4⟩ := isSlice_ok (R := R) hsl
              have hfrom : ∀ {l : List AV} {n : Nat}, copyFrom s esz len y = some (l, n) → ∃ m, (Builtin.lenOf (conc R y)).run P w = .ok m w ∧ Nat.min m len = n ∧ (Builtin.firstCells esz n (conc R y)).run P w = .ok ⟨concL R l⟩ w ∧ BndL s.nx l := by
                intro l n hc
                unfold copyFrom at hc
                split at hc
                · obtain ⟨rfl, rfl⟩ := Prod.mk.inj (Option.some.inj hc)
                  exact ⟨0, by simp [conc, Builtin.lenOf], by simp [Nat.min], by simp [conc, Builtin.firstCells, concL], by simp [BndL]⟩
                · split at hc
                  · rename_i cs hcs
                    obtain ⟨rfl, rfl⟩ := Prod.mk.inj (Option.some.inj hc)
                    exact ⟨_, by simp only [conc, Builtin.lenOf, Sem.run_pure], rfl, by simp only [conc, Builtin.firstCells]; exact run_loadCells hR hcs, (cellsX_bnd hR hcs).1⟩
                  · simp at hc
                · rename_i z
                  split at hc
                  · obtain ⟨rfl, rfl⟩ := Prod.mk.inj (Option.some.inj hc)
                    refine ⟨z.length, by simp only [conc, Builtin.lenOf, Sem.run_pure]; rfl, rfl, ?_, byteCells_bnd _ _⟩
                    simp only [conc, Builtin.firstCells, Sem.run_pure, bytes_extract]
                    congr 1
                    have := byteCells_conc R (z.take (Nat.min z.length len))
                    unfold byteCells at this
                    rw [this]
                    apply Array.ext'
                    simp
                  · simp at hc
                · simp at hc
              cases hc : copyFrom s esz len y with
              | none => simp [hc, copyTo] at h
              | some r =>
                obtain ⟨l, n⟩ := r
                obtain ⟨m, m1, m2, m3, m4⟩ := hfrom hc
                simp only [hc, copyTo] at h
                split at h
                · obtain ⟨rfl, rfl⟩ := Prod.mk.inj (Option.some.inj h)
                  refine res_val hR ?_ (by simp [Bnd])
                  simp [Builtin.copy_, ht0, run_und hE hd, i1, m1, m2, m3, run_size hE hsz, conc, goInt]
                · rename_i b o
                  split at h
                  · rename_i s1 hst
                    obtain ⟨rfl, rfl⟩ := Prod.mk.inj (Option.some.inj h)
                    obtain ⟨w', g1, g2, g3, g4, _⟩ := run_storeX (P := P) hR hst m4
                    refine ⟨R, _, w', ?_, .inl rfl, g2, g3, by simp [Bnd]⟩
                    simp [Builtin.copy_, ht0, run_und hE hd, i1, m1, m2, m3, run_size hE hsz, conc, goInt, g1]
                  · simp at h
            · simp at h
          · simp at h
        · simp at h
      · simp at h
    · -- real
      obtain ⟨rfl, rfl⟩ := Prod.mk.inj (Option.some.inj h)
      exact res_val hR (by rfl) (by simp [Bnd])
    · -- imag
      obtain ⟨rfl, rfl⟩ := Prod.mk.inj (Option.some.inj h)
      exact res_val hR (by rfl) (by simp [Bnd])
    · -- complex
      unfold cpxV at h
      split at h
      · obtain ⟨rfl, rfl⟩ := Prod.mk.inj (Option.some.inj h)
        exact res_val hR (by rfl) (by simp [Bnd])
      · obtain ⟨rfl, rfl⟩ := Prod.mk.inj (Option.some.inj h)
        exact res_val hR (by rfl) (by simp [Bnd])
      · simp at h
    · -- unsafe.SliceData
      rename_i x _
      simp only [BndL] at hb
      obtain ⟨rfl, h2, h3⟩ := dataV_ok (P := P) hR h hb.1 ts ty
      refine res_val hR ?_ h2
      simp only [concL, builtin]
      simp [h3]
    · -- unsafe.String
      rename_i p n t it ht
      have ht : ts = #[t, it] := by apply Array.ext'; simpa using ht
      subst ht
      split at h
      · rename_i e hp
        obtain ⟨w', g1, g2, g3, g4⟩ := strData_ok (P := P) (lo := lo) (it := it) (ty := ty) hE hR h hp
        refine ⟨R, _, w', ?_, .inl rfl, g2, g3, g4⟩
        simp only [concL, conc, builtin]
        have g1' : (Builtin.unsafeString_ #[t, it] ty ⟨[conc R p, Value.int .i64 (n : Int)]⟩).run P w = .ok (conc R v) w' := g1
        simp [g1']
      · simp at h
    · simp at h
  · simp at h

end
end Go.Vx
set_option linter.unusedSectionVars false
set_option linter.unusedSimpArgs false
set_option linter.unusedVariables false
namespace Go.Vx
open Go.RowKit

section
variable {E : Env} {P : Program} (hE : E.Ok P) {lo : Nat} {R : Ren} {s s' : St} {w : World} {f : Fr} {a : Act} {v : AV} (hR : Rel R s w) (hF : FrOk R s.nx f a) (hlo : lo ≤ s.nx)

include hE hR hF hlo in
theorem opX_ok {o : Oper} (h : opX o.op E lo f s = some (v, s')) : Res P (execOp a.eval o) lo R s w v s' := by
  obtain ⟨dst, op, ty, pos, after, guard⟩ := o
  cases op
  case move x => exact move_ok (E := E) hR hF h
  case assign x => exact move_ok (E := E) hR hF h
  case pick c x y => exact pick_ok (E := E) hR hF h
  case alloc t => exact alloc_ok (f := f) hE hR hlo h
  case box t x => exact box_ok (E := E) hR hF hlo h
  case build t ps => exact build_ok hE hR hF h
  case buildSlice t n ps => exact buildSlice_ok hE hR hF hlo h
  case load t x => exact load_ok hE hR hF h
  case store t x y => exact store_ok hE hR hF h
  case nilCheck x =>
    refine nilCheck_ok (E := E) hR hF h _ fun u hu => ⟨fun b e => ?_, fun t y e => ?_, fun n fi ca e => ?_⟩ <;> (subst e; simp only [execOp, hu])
  case binOp op t x y u => exact bin_ok hE hR hF h
  case unOp op t x => exact un_ok (E := E) hR hF h
  case convert t u x => exact conv_ok hE hR hF hlo h
  case makeInterface t x => exact iface_ok hE hR hF h
  case makeFunc g x c => exact makeFunc_ok (E := E) hR hF h
  case makeMap t r => exact makeMap_ok hE hR hF hlo h
  case makeSlice t l c => exact makeSlice_ok hE hR hF hlo h
  case slice t x l hh m => exact slice_ok hE hR hF h
  case fieldAddr t x i => exact fieldAddr_ok hE hR hF h
  case field t x i => exact field_ok hE hR hF h
  case indexAddr t x i => exact indexAddr_ok hE hR hF h
  case index t x i => exact index_ok hE hR hF h
  case lookup t x k ok => exact lookup_ok hE hR hF h
  case mapUpdate t x k y => exact mapUpdate_ok hE hR hF h
  case insert t x k y => exact mapUpdate_ok hE hR hF h
  case range t x => exact range_ok hE hR hF hlo h
  case next x isS => exact next_ok (E := E) hR hF h
  case typeAssert x u t ok => exact assert_ok hE hR hF h
  case extract x i => exact extract_ok (E := E) hR hF h
  case call c =>
    have h : callO c E lo f s = some (v, s') := h
    cases hc : c.callee with
    | builtin b =>
      unfold callO at h
      rw [hc] at h
      have := builtin_ok hE hR hF hlo (ty := ty) (cs := c.args.map fun | .const _ => true | _ => false) h
      obtain ⟨R', n, w', h1, h2⟩ := this
      refine ⟨R', n, w', ?_, h2⟩
      simp only [execOp, resolve, hc, Sem.run_bind, Sem.run_pure, Result.andThen_ok, invoke]
      exact h1
    | value y => unfold callO at h; rw [hc] at h; simp [noneX] at h
    | invoke y m => unfold callO at h; rw [hc] at h; simp [noneX] at h
  all_goals (simp [opX, noneX] at h)

/-- What a call must do in a fitting world. -/
def CallOk (P : Program) (E : Env) (call : CallX) : Prop :=
  ∀ lo f args s v s' R w, call lo f args s = some (v, s') → Rel R s w → BndL s.nx args → lo ≤ s.nx → (∀ g, g < E.G → R.blk g = g ∧ g < s.nx) →
    ∀ (o : Oper) (a : Act) (K : Act → World → Prop) (Q : Exit → Act → World → Prop), (∀ R' w', Rel R' s' w' → Mv lo R s w R' s' w' → Bnd s'.nx v → K (a.put o.dst (conc R' v)) w') →
      o.upon P a K Q ((callFunc f ⟨concL R args⟩).run P w)

theorem Res.upon {o : Oper} {sem : Sem Next} (h : Res P sem lo R s w v s') (K : Act → World → Prop) (Q : Exit → Act → World → Prop)
    (hK : ∀ R' w', Rel R' s' w' → Mv lo R s w R' s' w' → Bnd s'.nx v → K (a.put o.dst (conc R' v)) w') : o.upon P a K Q (sem.run P w) := by
  obtain ⟨R', n, w', h1, h2, h3, h4, h5⟩ := h
  rw [h1]
  rcases h2 with rfl | ⟨rfl, h2⟩
  · exact hK R' w' h3 h4 h5
  · have := hK R' w' h3 h4 h5
    rw [h2] at this
    exact this

include hE hR hF hlo in
theorem stepX_up {call : CallX} (hcall : CallOk P E call) (hG : f.G = E.G) {o : Oper} (h : stepX o.op E call lo f s = some (v, s')) (a1 : Act) (K : Act → World → Prop) (Q : Exit → Act → World → Prop)
    (hK : ∀ R' w', Rel R' s' w' → Mv lo R s w R' s' w' → Bnd s'.nx v → K (a1.put o.dst (conc R' v)) w') : o.upon P a1 K Q ((execOp a.eval o).run P w) := by
  unfold stepX at h
  split at h
  · rename_i op c hop
    unfold stepC at h
    split at h
    · rename_i b hc
      have h' : opX o.op E lo f s = some (v, s') := by
        rw [hop]
        show callO c E lo f s = _
        unfold callO
        rw [hc]; exact h
      exact (opX_ok hE hR hF hlo h').upon K Q hK
    · rename_i hc
      unfold callT at h
      split at h
      · rename_i g xs ht
        rw [avL_eq] at h
        unfold targetX at ht
        split at ht
        · rename_i y hy
          cases hev : evX y f with
          | none => simp [hev, targetV] at ht
          | some u =>
            cases hops : operandsX c.args.toList f with
            | none => cases u <;> simp [hev, hops, targetV] at ht
            | some l =>
              cases u <;> simp only [hev, hops, targetV] at ht <;> try (simp at ht; done)
              rename_i g' x k
              obtain ⟨rfl, rfl⟩ := Prod.mk.inj (Option.some.inj ht)
              have h1 := hF.ev hev
              have h2 := hF.operandsA hops
              have hb : BndL s.nx (x ++ l ++ k) := BndL_iff.2 fun q hq => by
                have hx := h1.2
                simp only [Bnd] at hx
                rcases List.mem_append.1 hq with hq | hq
                · rcases List.mem_append.1 hq with hq | hq
                  · exact BndL_iff.1 hx.1 q hq
                  · exact BndL_iff.1 h2.2 q hq
                · exact BndL_iff.1 hx.2 q hq
              have := hcall lo g' _ s v s' R w h hR hb hlo (fun g hg => hF.glob g (by rw [hG]; exact hg)) o a1 K Q hK
              have hexec : (execOp a.eval o).run P w = (callFunc g' ⟨concL R (x ++ l ++ k)⟩).run P w := by
                obtain ⟨dst, op', ty, pos, after, guard⟩ := o
                simp only at hop
                subst hop
                simp only [execOp, resolve, hy, h1.1, conc, Deferred.ofValue, h2.1, Sem.run_bind, Sem.run_pure, Result.andThen_ok, invoke]
                congr 2
                apply Array.ext'
                simp [concL_append]
              rw [hexec]
              exact this
        · rename_i y m hy
          unfold targetM at ht
          split at ht
          · rename_i t u hev
            unfold targetN at ht
            split at ht
            · rename_i g2 hm
              split at ht
              · rename_i l hops
                obtain ⟨rfl, rfl⟩ := Prod.mk.inj (Option.some.inj ht)
                have h1 := hF.ev hev
                have h2 := hF.operandsA hops
                have hbu : Bnd s.nx u := by have hx := h1.2; simpa only [Bnd] using hx
                have hb : BndL s.nx (u :: l) := ⟨hbu, h2.2⟩
                have := hcall lo g2 _ s v s' R w h hR hb hlo (fun g hg => hF.glob g (by rw [hG]; exact hg)) o a1 K Q hK
                have hexec : (execOp a.eval o).run P w = (callFunc g2 ⟨concL R (u :: l)⟩).run P w := by
                  obtain ⟨dst, op', ty, pos, after, guard⟩ := o
                  simp only at hop
                  subst hop
                  have e1 : a.eval y = .iface t (conc R u) := h1.1
                  have e2 : (#[Value.iface t (conc R u)] ++ (⟨concL R l⟩ : Array Value))[0]? = some (Value.iface t (conc R u)) := by
                    rw [Array.getElem?_append_left (by simp)]; rfl
                  have e3 : (#[Value.iface t (conc R u)] ++ (⟨concL R l⟩ : Array Value)).extract 1 (#[Value.iface t (conc R u)] ++ (⟨concL R l⟩ : Array Value)).size = (⟨concL R l⟩ : Array Value) := by
                    apply Array.ext'
                    simp only [Array.toList_extract, Array.toList_append]
                    simp
                    rw [← concL_length R l, List.take_length]
                  simp only [execOp, resolve, hy, e1, h2.1, Sem.run_bind, Sem.run_pure, Result.andThen_ok, invoke, e2, e3, callMethod, run_program, hE.mth t m g2 hm]
                  congr 2
                  apply Array.ext'
                  simp [concL]
                rw [hexec]
                exact this
              · simp at ht
            · simp at ht
          · simp at ht
        · simp at ht
      · simp at h
  · exact (opX_ok hE hR hF hlo h).upon K Q hK

include hE hR hF hlo in
theorem stepX_ok {call : CallX} (hcall : CallOk P E call) (hG : f.G = E.G) {o : Oper} (h : stepX o.op E call lo f s = some (v, s')) (K : Act → World → Prop) (Q : Exit → Act → World → Prop)
    (hK : ∀ R' w', Rel R' s' w' → Mv lo R s w R' s' w' → Bnd s'.nx v → K (a.put o.dst (conc R' v)) w') : o.wp P a w K Q :=
  stepX_up hE hR hF hlo hcall hG h a K Q hK

theorem FrOk.mono {R R' : Ren} {nx nx' : Nat} {f : Fr} {a : Act} (h : FrOk R nx f a) (hag : Agree nx R R') (hn : nx ≤ nx') : FrOk R' nx' f a := by
  refine ⟨h.size, fun t ht => ?_, h.out, fun t v hv => (h.bnd t v hv).mono hn, fun g hg => ?_, h.le⟩
  · rw [h.tmp t ht]
    congr 1
    have hb : Bnd nx ((f.T.get t).getD (.tup [])) := by
      cases hg : f.T.get t with
      | none => simp [Bnd, BndL]
      | some v => exact h.bnd t v hg
    exact (conc_agree hag hb).symm
  · have := h.glob g hg
    exact ⟨by rw [hag.blk g this.2]; exact this.1, by omega⟩

/-- A slot is written. -/
theorem FrOk.put {β : Type} {R : Ren} {nx : Nat} {f : Fr} {a : Act} {d : Option Tmp} {v : AV} {k : Fr → Option β} {r : β} (h : FrOk R nx f a) (hp : putX d v f k = some r) (hb : Bnd nx v) :
    ∃ f', k f' = some r ∧ FrOk R nx f' (a.put d (conc R v)) ∧ f'.G = f.G ∧ f'.n = f.n := by
  unfold putX at hp
  split at hp
  · exact ⟨f, hp, h, rfl, rfl⟩
  · rename_i d
    split at hp
    · rename_i hd
      have hd : d < f.n := Nat.le_of_ble_eq_true hd
      obtain ⟨T, n, G⟩ := f
      simp only [Tr.setK_eq] at hp
      have hle := h.le
      have hset : ∀ m, (Tr.set 11 T d (some v)).get m = if m = d then some v else T.get m := fun m => Tr.get_set 11 T d m (some v) (by
        have h1 : (d : Nat) < n := hd
        have h2 : n ≤ 1024 := hle
        exact Nat.lt_of_le_of_lt (show (d : Nat) + 1 ≤ 1024 from Nat.succ_le_of_lt (Nat.lt_of_lt_of_le h1 h2)) (by decide))
      refine ⟨_, hp, ⟨?_, fun t ht => ?_, fun t ht => ?_, fun t u hu => ?_, h.glob, h.le⟩, rfl, rfl⟩
      · simp [Act.put, h.size]
      · simp only [Act.put, hset]
        by_cases e : t = d
        · subst e
          have := h.size
          simp only at this hd
          rw [Array.getElem?_setIfInBounds_self_of_lt (by rw [this]; exact hd)]
          simp
        · rw [Array.getElem?_setIfInBounds_ne (fun e' => e e'.symm), if_neg e]
          exact h.tmp t ht
      · simp only [hset]
        have : t ≠ d := fun e => by subst e; exact Nat.lt_irrefl _ (Nat.lt_of_lt_of_le hd ht)
        rw [if_neg this]
        exact h.out t ht
      · simp only [hset] at hu
        split at hu
        · obtain rfl := Option.some.inj hu; exact hb
        · exact h.bnd t u hu
    · simp at hp

theorem eqB_eq (a b : Bool) : eqB a b = (a == b) := by cases a <;> cases b <;> rfl

theorem want_ok {R : Ren} {nx : Nat} {f : Fr} {a : Act} (h : FrOk R nx f a) (ops : Array Oper) (o : Oper) : wantX f ops.toList o = Region.wanted o (yielded ops a.tmps) := by
  unfold wantX Region.wanted
  cases o.guard with
  | none => rfl
  | some g =>
    obtain ⟨j, want⟩ := g
    have hy : yieldO f ops.toList[j]? = yielded ops a.tmps j := by
      unfold yieldO yielded
      have e : ops.toList[j]? = ops[j]? := by simp
      rw [e]
      cases ops[j]? with
      | none => rfl
      | some q =>
        simp only [Option.bind_some]
        cases q.dst with
        | none => rfl
        | some d =>
          simp only [Option.bind_some]
          by_cases hd : d < f.n
          · rw [h.tmp d hd]
            cases hg : f.T.get d with
            | none => simp [conc]
            | some u =>
              cases u <;> simp [conc]
              rename_i i
              have := R.cell i
              cases hc : R.opq i <;> simp [hc, isCell] at this ⊢
          · rw [h.out d (Nat.le_of_not_lt hd)]
            have : a.tmps[d]? = none := by rw [Array.getElem?_eq_none_iff, h.size]; exact Nat.le_of_not_lt hd
            rw [this]
    show wantJ f ops.toList j want = (yielded ops a.tmps j == some want)
    unfold wantJ
    rw [hy]
    generalize yielded ops a.tmps j = q
    cases q <;> simp [eqB_eq]

include hE in
theorem opsX_ok {call : CallX} (hcall : CallOk P E call) {ops : Array Oper} {lo : Nat} {Q : Exit → Act → World → Prop} {f' : Fr} {s' : St} : ∀ (l : List Oper) (i : Nat) (f : Fr) (s : St) (a : Act) (w : World) (R : Ren),
    ops.toList.drop i = l → opsX l E call lo ops.toList f s = some (f', s') → Rel R s w → FrOk R s.nx f a → f.G = E.G → lo ≤ s.nx →
    (∀ R' a' w', Rel R' s' w' → Mv lo R s w R' s' w' → FrOk R' s'.nx f' a' → f'.G = E.G → a'.defers = a.defers → Q .normal a' w') →
    wpOps P ops Q (List.range' i l.length) a w
  | [], i, f, s, a, w, R, hl, h, hR, hF, hG, hlo, hQ => by
    obtain ⟨rfl, rfl⟩ := Prod.mk.inj (Option.some.inj (show some (f, s) = some (f', s') from h))
    simp only [List.length_nil, List.range'_zero, wpOps]
    exact hQ R a w hR (Mv.refl _ _ _ _) hF hG rfl
  | o :: l, i, f, s, a, w, R, hl, h, hR, hF, hG, hlo, hQ => by
    have ho : ops[i]? = some o := by
      have : ops.toList[i]? = some o := by rw [← List.head?_drop, hl]; rfl
      simpa using this
    have hl' : ops.toList.drop (i + 1) = l := by
      have := congrArg (List.drop 1) hl
      rw [List.drop_drop] at this; simpa using this
    have h : (Bool.rec (motive := fun _ => Option (Fr × St)) (putX o.dst (.tup []) f fun f => opsX l E call lo ops.toList f s)
      (forced (stepX o.op E call lo f s) fun v s => putX o.dst v f fun f => opsX l E call lo ops.toList f s) (wantX f ops.toList o)) = some (f', s') := h
    rw [want_ok hF] at h
    simp only [List.length_cons, List.range'_succ, wpOps, ho]
    cases hw : Region.wanted o (yielded ops a.tmps) with
    | false =>
      rw [hw] at h
      have h : putX o.dst (.tup []) f (fun f => opsX l E call lo ops.toList f s) = some (f', s') := h
      simp only [Bool.false_eq_true, if_false]
      obtain ⟨f1, h1, h2, h3, _⟩ := hF.put h (by simp [Bnd, BndL])
      have hu : conc R (.tup []) = undef := by simp [conc, concL, undef]
      rw [hu] at h2
      refine opsX_ok hcall l (i + 1) f1 s _ w R hl' h1 hR h2 (h3.trans hG) hlo fun R' a' w' g1 g2 g3 g4 g5 => hQ R' a' w' g1 g2 g3 g4 (g5.trans ?_)
      cases o.dst <;> rfl
    | true =>
      rw [hw] at h
      have h : forced (stepX o.op E call lo f s) (fun v s => putX o.dst v f fun f => opsX l E call lo ops.toList f s) = some (f', s') := h
      simp only [if_true]
      left
      cases hs : stepX o.op E call lo f s with
      | none => simp [hs, forced] at h
      | some r =>
        obtain ⟨v, s1⟩ := r
        simp only [hs, forced, avK_eq] at h
        refine stepX_ok hE hR hF hlo hcall hG hs _ _ fun R' w' g1 g2 g3 => ?_
        have hF' := hF.mono g2.agree g2.nx
        obtain ⟨f1, h1, h2, h3, _⟩ := hF'.put h g3
        refine opsX_ok hcall l (i + 1) f1 s1 _ w' R' hl' h1 g1 h2 (h3.trans hG) (Nat.le_trans hlo g2.nx) fun R2 a2 w2 k1 k2 k3 k4 k5 => hQ R2 a2 w2 k1 (g2.trans k2) k3 k4 (k5.trans ?_)
        cases o.dst <;> rfl

end
end Go.Vx
set_option linter.unusedSectionVars false
set_option linter.unusedSimpArgs false
set_option linter.unusedVariables false
namespace Go.Vx
open Go.RowKit

theorem mergeN_get {β : Type} : ∀ (k : Nat) (r H : Tr AO) (n : Nat) (f : Tr AO → β), n + k ≤ lim → ∃ H', mergeN k r H n f = f H' ∧ ∀ m, Tr.get H' m = if n ≤ m ∧ m < n + k then Tr.get r m else Tr.get H m
  | 0, r, H, n, f, _ => ⟨H, rfl, fun m => by rw [if_neg (by omega)]⟩
  | k + 1, r, H, n, f, hn => by
    have e : mergeN (k + 1) r H n f = Tr.setK 21 H n (Tr.get r n) fun H => mergeN k r H (Nat.succ n) f := rfl
    rw [e, Tr.setK_eq]
    obtain ⟨H', h1, h2⟩ := mergeN_get k r (Tr.set 21 H n (Tr.get r n)) (Nat.succ n) f (by omega)
    refine ⟨H', h1, fun m => ?_⟩
    rw [h2 m, Tr.get_set 21 H n m _ (by unfold lim at hn; omega)]
    by_cases c1 : n + 1 ≤ m ∧ m < n + 1 + k
    · rw [if_pos c1, if_pos (by omega)]
    · rw [if_neg c1]
      by_cases c2 : m = n
      · subst c2; rw [if_pos rfl, if_pos (by omega)]
      · rw [if_neg c2, if_neg (by omega)]

theorem mergeK_get {β : Type} (s r : St) (f : St → β) (h1 : s.nx ≤ r.nx) (h2 : r.nx ≤ lim) : ∃ q : St, mergeK s r f = f q ∧ q.nx = r.nx ∧ ∀ m, q.get m = if s.nx ≤ m ∧ m < r.nx then r.get m else s.get m := by
  obtain ⟨H', g1, g2⟩ := mergeN_get (Nat.sub r.nx s.nx) r.H s.H s.nx (fun H => natK r.nx fun n => f ⟨H, n⟩) (by have : Nat.sub r.nx s.nx = r.nx - s.nx := rfl; omega)
  refine ⟨⟨H', r.nx⟩, ?_, rfl, fun m => ?_⟩
  · unfold mergeK; rw [g1, natK_eq]
  · have : s.nx + Nat.sub r.nx s.nx = r.nx := by have : Nat.sub r.nx s.nx = r.nx - s.nx := rfl; omega
    show Tr.get H' m = _
    rw [g2 m, this]; rfl

theorem restrK_get {β : Type} : ∀ (l : List Nat) (S T : Tr AV) (f : Tr AV → β), (∀ t ∈ l, (∃ v, Tr.get S t = some v) → t < 1024) → ∃ T', restrK l S T f = f T' ∧ ∀ m, Tr.get T' m = if m ∈ l then (match Tr.get S m with | some v => some v | none => Tr.get T m) else Tr.get T m
  | [], S, T, f, _ => ⟨T, rfl, fun m => by simp⟩
  | t :: l, S, T, f, h => by
    have e : restrK (t :: l) S T f = Option.rec (motive := fun _ => β) (restrK l S T f) (fun v => Tr.setK 11 T t (some v) fun T => restrK l S T f) (Tr.get S t) := rfl
    have hl : ∀ t ∈ l, (∃ v, Tr.get S t = some v) → t < 1024 := fun t ht => h t (List.mem_cons_of_mem _ ht)
    cases hg : Tr.get S t with
    | none =>
      rw [hg] at e
      obtain ⟨T', g1, g2⟩ := restrK_get l S T f hl
      refine ⟨T', by rw [e]; exact g1, fun m => ?_⟩
      rw [g2 m]
      by_cases hm : m ∈ l
      · simp [hm]
      · by_cases e2 : m = t
        · subst e2; simp [hm, hg]
        · simp [hm, e2]
    | some v =>
      rw [hg] at e
      have e : restrK (t :: l) S T f = Tr.setK 11 T t (some v) fun T => restrK l S T f := e
      have ht := h t (by simp) ⟨v, hg⟩
      rw [Tr.setK_eq] at e
      obtain ⟨T', g1, g2⟩ := restrK_get l S (Tr.set 11 T t (some v)) f hl
      refine ⟨T', by rw [e]; exact g1, fun m => ?_⟩
      have hset := Tr.get_set 11 T t m (some v) (by omega)
      rw [g2 m, hset]
      by_cases e2 : m = t
      · subst e2
        by_cases hm : m ∈ l <;> simp [hm, hg]
      · by_cases hm : m ∈ l <;> simp [hm, e2]

/-- How one operation of a drawn region was told. -/
inductive Told (E : Env) (call : CallX) (lo n0 : Nat) (b i : Nat) (o : Op) (m : Met) (f : Fr) (s : St) (v : AV) (s' : St) (m' : Met) : Prop
  | free (r : St) (h : stepX o E call s.nx f ⟨.e, s.nx⟩ = some (v, r)) (hn : s.nx ≤ r.nx) (hl : r.nx ≤ lim) (hf : floatOk n0 b m.rm v s r = true) (hs : s'.nx = r.nx)
      (hg : ∀ k, s'.get k = if s.nx ≤ k ∧ k < r.nx then r.get k else s.get k) (hm : m' = ⟨mark m.rm i s r, m.tm, m.wm, m.rl, m.wl⟩)
  | read0 (r : St) (h : stepX o E call s.nx f ⟨.e, s.nx⟩ = some (v, r)) (hn : r.nx = s.nx) (hf : floatOk n0 b m.rm v s r = true) (hs : s' = s) (hm : m' = m)
  | read (c : Nat) (ob : AO) (r : St) (hc : s.get c = some ob) (h : stepX o E call s.nx f ⟨Tr.set 21 .e c (some ob), s.nx⟩ = some (v, r)) (hn : r.nx = s.nx) (hf : floatOk n0 b m.rm v s r = true)
      (hr : readOk b c m.wl = true) (hcl : c < lim) (hc0 : c < n0 ∨ (Nat.land m.rm b = m.rm ∧ c < s.nx)) (hs : s' = s) (hm : m' = ⟨m.rm, m.tm, m.wm, (i, c) :: m.rl, m.wl⟩)
  | tame (r : St) (hrm : Nat.land m.rm b = m.rm) (hwm : Nat.land m.wm b = m.wm) (h : stepX o E call s.nx f s = some (v, r)) (hn : s.nx ≤ r.nx) (hl : r.nx ≤ lim) (hs : s'.nx = r.nx)
      (hg : (∀ k, s'.get k = if s.nx ≤ k ∧ k < r.nx then r.get k else s.get k) ∨ (∀ k, s'.get k = s.get k)) (hm : m' = ⟨mark m.rm i s r, Nat.lor m.tm (Nat.shiftLeft 1 i), m.wm, m.rl, m.wl⟩)
  | wild (w : Option Nat) (hrm : Nat.land m.rm b = m.rm) (hwm : Nat.land m.wm b = m.wm) (htm : Nat.land m.tm b = m.tm) (hw : writeOk b w m.rl = true) (h : stepX o E call lo f s = some (v, s'))
      (hk : ∀ c, w = some c → ∃ x, kindX o = .touch (some x) ∧ blockOf (evX x f) = some c) (hn : s.nx ≤ s'.nx) (hl : s'.nx ≤ lim)
      (hm : m' = ⟨mark m.rm i s s', Nat.lor m.tm (Nat.shiftLeft 1 i), Nat.lor m.wm (Nat.shiftLeft 1 i), m.rl, (i, w) :: m.wl⟩)

theorem okNx_ok {s r : St} (h : okNx s r = true) : s.nx ≤ r.nx ∧ r.nx ≤ lim := by
  unfold okNx at h
  simp only [Bool.and_eq_true] at h
  exact ⟨Nat.le_of_ble_eq_true h.1, Nat.le_of_ble_eq_true h.2⟩

theorem drawO_told {E : Env} {call : CallX} {lo n0 b i : Nat} {o : Op} {m : Met} {f : Fr} {s : St} {k : DrawK} {r : Fr × St} (h : drawO (kindX o) o E call lo n0 b i m f s k = some r) :
    ∃ m' v s', k m' v s' = some r ∧ Told E call lo n0 b i o m f s v s' m' := by
  have wild : ∀ {w : Option Nat} (hk : ∀ c, w = some c → ∃ x, kindX o = .touch (some x) ∧ blockOf (evX x f) = some c), Nat.land m.rm b = m.rm → Nat.land m.wm b = m.wm →
      wildX (stepX o E call lo f s) w b i m s k = some r → ∃ m' v s', k m' v s' = some r ∧ Told E call lo n0 b i o m f s v s' m' := by
    intro w hk h1 h2 h
    unfold wildX at h
    split at h
    · simp at h
    · rename_i hc
      simp only [Bool.and_eq_true] at hc
      split at h
      · simp at h
      · rename_i v s' hs
        split at h
        · rename_i hn
          have := okNx_ok hn
          exact ⟨_, v, s', h, .wild w h1 h2 (Nat.eq_of_beq_eq_true hc.1) hc.2 hs hk this.1 this.2 rfl⟩
        · simp at h
  have touch : ∀ {w : Option Nat} (hk : ∀ c, w = some c → ∃ x, kindX o = .touch (some x) ∧ blockOf (evX x f) = some c), touchX o w E call lo b i m f s k = some r → ∃ m' v s', k m' v s' = some r ∧ Told E call lo n0 b i o m f s v s' m' := by
    intro w hk h
    unfold touchX at h
    split at h
    · simp at h
    · rename_i hc
      simp only [Bool.and_eq_true] at hc
      have h1 := Nat.eq_of_beq_eq_true hc.1
      have h2 := Nat.eq_of_beq_eq_true hc.2
      unfold tameX at h
      split at h
      · rename_i v q hs
        split at h
        · rename_i hn
          have hnx := okNx_ok hn
          split at h
          · obtain ⟨H, nx⟩ := s
            simp only [natK_eq] at h
            exact ⟨_, v, _, h, .tame q h1 h2 hs hnx.1 hnx.2 rfl (.inr fun k => rfl) rfl⟩
          · obtain ⟨q', g1, g2, g3⟩ := mergeK_get s q (fun q' => k ⟨mark m.rm i s q, Nat.lor m.tm (Nat.shiftLeft 1 i), m.wm, m.rl, m.wl⟩ v q') hnx.1 hnx.2
            rw [g1] at h
            exact ⟨_, v, q', h, .tame q h1 h2 hs hnx.1 hnx.2 g2 (.inl g3) rfl⟩
        · simp at h
      · exact wild hk h1 h2 h
  have free : ∀ {q : Option (AV × St)}, stepX o E call s.nx f ⟨.e, s.nx⟩ = q → freeX q n0 b i m s k = some r → ∃ m' v s', k m' v s' = some r ∧ Told E call lo n0 b i o m f s v s' m' := by
    intro q hq h
    unfold freeX at h
    split at h
    · rename_i v q'
      split at h
      · rename_i hc
        simp only [Bool.and_eq_true] at hc
        have hnx := okNx_ok hc.1
        obtain ⟨q2, g1, g2, g3⟩ := mergeK_get s q' (k ⟨mark m.rm i s q', m.tm, m.wm, m.rl, m.wl⟩ v) hnx.1 hnx.2
        have h : mergeK s q' (k ⟨mark m.rm i s q', m.tm, m.wm, m.rl, m.wl⟩ v) = some r := h
        exact ⟨_, v, q2, by rw [← g1]; exact h, .free q' hq hnx.1 hnx.2 hc.2 g2 g3 rfl⟩
      · simp at h
    · simp at h
  have read : ∀ {x : Operand}, readX o x E call n0 b i m f s k = some r → ∃ m' v s', k m' v s' = some r ∧ Told E call lo n0 b i o m f s v s' m' := by
    intro x h
    unfold readX at h
    split at h
    · unfold sameNx at h
      split at h
      · rename_i v q hs
        split at h
        · rename_i hc
          simp only [Bool.and_eq_true] at hc
          exact ⟨m, v, s, h, .read0 q hs (Nat.eq_of_beq_eq_true hc.1) hc.2 rfl rfl⟩
        · simp at h
      · simp at h
    · rename_i c hc
      split at h
      · simp at h
      · rename_i hck
        simp only [Bool.and_eq_true, Bool.or_eq_true] at hck
        obtain ⟨⟨k1, k2⟩, k3⟩ := hck
        unfold oneBlock at h
        split at h
        · rename_i ob hob
          obtain ⟨H, nx⟩ := s
          simp only [Tr.setK_eq] at h
          unfold sameNx at h
          split at h
          · rename_i v q hs
            split at h
            · rename_i hc2
              simp only [Bool.and_eq_true] at hc2
              refine ⟨_, v, _, h, .read c ob q hob hs (Nat.eq_of_beq_eq_true hc2.1) hc2.2 k1 (Nat.le_of_ble_eq_true k2) ?_ rfl rfl⟩
              rcases k3 with k3 | k3
              · exact .inl (Nat.le_of_ble_eq_true k3)
              · exact .inr ⟨Nat.eq_of_beq_eq_true k3.1, Nat.le_of_ble_eq_true k3.2⟩
            · simp at h
          · simp at h
        · simp at h
  unfold drawO at h
  split at h
  · exact free rfl h
  · rename_i x hx
    split at h
    · rename_i q hq
      exact free hq h
    · split at h
      · rename_i v q hq
        split at h
        · exact read h
        · exact touch (w := none) (fun c hc => by simp at hc) h
      · simp at h
  · rename_i x hx
    exact read h
  · rename_i x hx
    refine touch (fun c hc => ?_) h
    unfold touchW at hc
    split at hc
    · rename_i y
      exact ⟨y, by assumption, hc⟩
    · simp at hc

/-- The frame of what an operation reads. -/
structure Restr (all : List Oper) (o : Oper) (f g : Fr) : Prop where
  n : g.n = f.n
  G : g.G = f.G
  get : ∀ t, g.T.get t = if t ∈ readsOf all o then f.T.get t else none

/-- One step of a drawn region, in the order of the text. -/
structure StepD (E : Env) (call : CallX) (lo n0 : Nat) (all : List Oper) (i : Nat) (o : Oper) (b : Nat) (F : Fr) (S : St) (M : Met) (V : AV) (F' : Fr) (S' : St) (M' : Met) : Prop where
  put : putX o.dst V F some = some F'
  alt : ∃ g, Restr all o F g ∧ ((wantX g all o = false ∧ V = .tup [] ∧ S' = S ∧ M' = M) ∨ (wantX g all o = true ∧ Told E call lo n0 b i o.op M g S V S' M'))

theorem putX_some {β : Type} {d : Option Tmp} {v : AV} {f : Fr} {k : Fr → Option β} {r : β} (h : putX d v f k = some r) : ∃ f', putX d v f some = some f' ∧ k f' = some r := by
  unfold putX at *
  cases d with
  | none => exact ⟨f, rfl, h⟩
  | some d =>
    simp only at *
    split at h
    · obtain ⟨T, n, G⟩ := f
      simp only [Tr.setK_eq] at *
      exact ⟨_, rfl, h⟩
    · simp at h

def Traced (E : Env) (call : CallX) (lo n0 : Nat) (all : List Oper) (r : Fr × St) (l : List (Oper × Nat)) (i : Nat) (m : Met) (f : Fr) (s : St) : Prop :=
  ∃ (F : Nat → Fr) (S : Nat → St) (M : Nat → Met) (V : Nat → AV), F 0 = f ∧ S 0 = s ∧ M 0 = m ∧ F l.length = r.1 ∧ S l.length = r.2 ∧
    ∀ j o b, l[j]? = some (o, b) → StepD E call lo n0 all (i + j) o b (F j) (S j) (M j) (V j) (F (j + 1)) (S (j + 1)) (M (j + 1))

theorem drawN_trace {E : Env} {call : CallX} {lo n0 : Nat} {all : List Oper} {r : Fr × St} : ∀ (l : List (Oper × Nat)) (i : Nat) (m : Met) (f : Fr) (s : St), drawN l E call lo n0 all i m f s = some r → (∀ t, f.n ≤ t → f.T.get t = none) → f.n ≤ 1024 →
    Traced E call lo n0 all r l i m f s
  | [], i, m, f, s, h, _, _ => by
    obtain rfl := Option.some.inj (show some (f, s) = some r from h)
    exact ⟨fun _ => f, fun _ => s, fun _ => m, fun _ => .tup [], rfl, rfl, rfl, rfl, rfl, by simp⟩
  | (o, b) :: l, i, m, f, s, h, hout, hle => by
    have h : (restrK (readsOf all o) f.T .e fun T =>
      Bool.rec (motive := fun _ => Option (Fr × St)) (putX o.dst (.tup []) f fun f => drawN l E call lo n0 all (Nat.succ i) m f s)
        (drawO (kindX o.op) o.op E call lo n0 b i m ⟨T, f.n, f.G⟩ s fun m v s => avK v fun v => putX o.dst v f fun f => drawN l E call lo n0 all (Nat.succ i) m f s)
        (wantX ⟨T, f.n, f.G⟩ all o)) = some r := h
    obtain ⟨T, g1, g2⟩ := restrK_get (readsOf all o) f.T .e (fun T =>
      Bool.rec (motive := fun _ => Option (Fr × St)) (putX o.dst (.tup []) f fun f => drawN l E call lo n0 all (Nat.succ i) m f s)
        (drawO (kindX o.op) o.op E call lo n0 b i m ⟨T, f.n, f.G⟩ s fun m v s => avK v fun v => putX o.dst v f fun f => drawN l E call lo n0 all (Nat.succ i) m f s)
        (wantX ⟨T, f.n, f.G⟩ all o)) (fun t _ hv => by
          obtain ⟨v, hv⟩ := hv
          rcases Nat.lt_or_ge t f.n with h | h
          · omega
          · rw [hout t h] at hv; simp at hv)
    rw [g1] at h
    have hre : Restr all o f ⟨T, f.n, f.G⟩ := ⟨rfl, rfl, fun t => by
      show Tr.get T t = _
      rw [g2 t]
      split
      · cases Tr.get f.T t <;> rfl
      · rfl⟩
    have fin : ∀ (v : AV) (f1 : Fr) (s1 : St) (m1 : Met), putX o.dst v f some = some f1 → drawN l E call lo n0 all (Nat.succ i) m1 f1 s1 = some r →
        ((wantX ⟨T, f.n, f.G⟩ all o = false ∧ v = .tup [] ∧ s1 = s ∧ m1 = m) ∨ (wantX ⟨T, f.n, f.G⟩ all o = true ∧ Told E call lo n0 b i o.op m ⟨T, f.n, f.G⟩ s v s1 m1)) → Traced E call lo n0 all r ((o, b) :: l) i m f s := by
      intro v f1 s1 m1 hp hd ht
      have hf1 : (∀ t, f1.n ≤ t → f1.T.get t = none) ∧ f1.n = f.n := by
        unfold putX at hp
        split at hp
        · obtain rfl := Option.some.inj hp; exact ⟨hout, rfl⟩
        · rename_i d _
          split at hp
          · rename_i hdn
            have hdn : (d : Nat) < f.n := Nat.le_of_ble_eq_true hdn
            obtain ⟨T0, n, G⟩ := f
            simp only [Tr.setK_eq] at hp
            obtain rfl := Option.some.inj hp
            refine ⟨fun t ht => ?_, rfl⟩
            show (Tr.set 11 T0 d (some v)).get t = none
            have hd' : (d : Nat) + 1 ≤ 1024 := Nat.succ_le_of_lt (Nat.lt_of_lt_of_le hdn hle)
            rw [Tr.get_set 11 T0 d t (some v) (Nat.lt_of_le_of_lt hd' (by decide))]
            rw [if_neg (fun e => by subst e; exact Nat.lt_irrefl _ (Nat.lt_of_lt_of_le hdn ht))]
            exact hout t ht
          · simp at hp
      obtain ⟨F, S, M, V, h1, h2, h3, h4, h5, h6⟩ := drawN_trace l (Nat.succ i) m1 f1 s1 hd hf1.1 (by rw [hf1.2]; exact hle)
      refine ⟨fun j => if j = 0 then f else F (j - 1), fun j => if j = 0 then s else S (j - 1), fun j => if j = 0 then m else M (j - 1), fun j => if j = 0 then v else V (j - 1), rfl, rfl, rfl, h4, h5, ?_⟩
      intro j o' b' hj
      cases j with
      | zero =>
        obtain ⟨rfl, rfl⟩ := Prod.mk.inj (Option.some.inj hj)
        simp only [h1, h2, h3, Nat.add_zero, if_true, Nat.zero_add, Nat.one_ne_zero, if_false, Nat.sub_self]
        exact ⟨hp, ⟨T, f.n, f.G⟩, hre, ht⟩
      | succ j =>
        have := h6 j o' b' (by simpa using hj)
        have e : i + (j + 1) = Nat.succ i + j := by omega
        rw [e]
        simpa using this
    cases hw : wantX ⟨T, f.n, f.G⟩ all o with
    | false =>
      rw [hw] at h
      have h : putX o.dst (.tup []) f (fun f => drawN l E call lo n0 all (Nat.succ i) m f s) = some r := h
      obtain ⟨f1, k1, k2⟩ := putX_some h
      exact fin (.tup []) f1 s m k1 k2 (.inl ⟨hw, rfl, rfl, rfl⟩)
    | true =>
      rw [hw] at h
      have h : drawO (kindX o.op) o.op E call lo n0 b i m ⟨T, f.n, f.G⟩ s (fun m v s => avK v fun v => putX o.dst v f fun f => drawN l E call lo n0 all (Nat.succ i) m f s) = some r := h
      obtain ⟨m', v, s', k1, k2⟩ := drawO_told h
      rw [avK_eq] at k1
      obtain ⟨f1, k3, k4⟩ := putX_some k1
      exact fin v f1 s' m' k3 k4 (.inr ⟨hw, k2⟩)

end Go.Vx
set_option linter.unusedSectionVars false
set_option linter.unusedSimpArgs false
set_option linter.unusedVariables false
namespace Go.Vx
open Go.RowKit

theorem maskOf_ok {bs : List Nat} {i : Nat} : ∀ {es : List Edge} {m : Nat}, maskOf bs i es = some m →
    (∀ k, Nat.testBit m k = true → ∃ e ∈ es, Region.binds .any e = true ∧ e.on < i ∧ (k = e.on ∨ ∃ b, bs[e.on]? = some b ∧ Nat.testBit b k = true)) ∧
    (∀ e ∈ es, Region.binds .any e = true → e.on < i)
  | [], m, h => by
    obtain rfl := Option.some.inj (show some 0 = some m from h)
    exact ⟨fun k hk => by simp at hk, by simp⟩
  | e :: es, m, h => by
    unfold maskOf at h
    split at h
    · simp at h
    · rename_i m' hm'
      have ih := maskOf_ok hm'
      split at h
      · rename_i hb
        obtain rfl := Option.some.inj h
        refine ⟨fun k hk => ?_, fun e' he' hb' => ?_⟩
        · obtain ⟨e', h1, h2⟩ := ih.1 k hk
          exact ⟨e', List.mem_cons_of_mem _ h1, h2⟩
        · rcases List.mem_cons.1 he' with rfl | he'
          · rw [hb] at hb'; simp at hb'
          · exact ih.2 e' he' hb'
      · rename_i hb
        split at h
        · rename_i hlt
          have hlt := Nat.le_of_ble_eq_true hlt
          split at h
          · rename_i b hbs
            obtain rfl := Option.some.inj h
            refine ⟨fun k hk => ?_, fun e' he' hb' => ?_⟩
            · have hk : (m' ||| ((1 <<< e.on) ||| b)).testBit k = true := hk
              simp only [Nat.testBit_or, Bool.or_eq_true] at hk
              rcases hk with hk | hk | hk
              · obtain ⟨e', h1, h2⟩ := ih.1 k hk
                exact ⟨e', List.mem_cons_of_mem _ h1, h2⟩
              · refine ⟨e, by simp, hb, hlt, .inl ?_⟩
                rw [Nat.one_shiftLeft, Nat.testBit_two_pow] at hk
                simpa using (of_decide_eq_true hk).symm
              · exact ⟨e, by simp, hb, hlt, .inr ⟨b, hbs, hk⟩⟩
            · rcases List.mem_cons.1 he' with rfl | he'
              · exact hlt
              · exact ih.2 e' he' hb'
          · simp at h
        · simp at h

/-- What the plan says of each operation. -/
structure Before (all : List Oper) (bs : List Nat) : Prop where
  mask : ∀ (i : Nat) (o : Oper) (b : Nat), all[i]? = some o → bs[i]? = some b →
    (∀ k, Nat.testBit b k = true → ∃ e ∈ o.after.toList, Region.binds .any e = true ∧ e.on < i ∧ (k = e.on ∨ ∃ b', bs[e.on]? = some b' ∧ Nat.testBit b' k = true)) ∧
    (∀ e ∈ o.after.toList, Region.binds .any e = true → e.on < i)

theorem befores_ok (all : List Oper) : ∀ (l : List Oper) (i : Nat) (bs r : List Nat), befores l i bs = some r → bs.length = i → all.drop i = l →
    (∀ (j : Nat) (o : Oper) (b : Nat), j < i → all[j]? = some o → bs[j]? = some b →
      (∀ k, Nat.testBit b k = true → ∃ e ∈ o.after.toList, Region.binds .any e = true ∧ e.on < j ∧ (k = e.on ∨ ∃ b', bs[e.on]? = some b' ∧ Nat.testBit b' k = true)) ∧ (∀ e ∈ o.after.toList, Region.binds .any e = true → e.on < j)) →
    r.length = i + l.length ∧ (∀ j, j < i → r[j]? = bs[j]?) ∧ Before all r
  | [], i, bs, r, h, hl, hd, hp => by
    obtain rfl := Option.some.inj (show some bs = some r from h)
    have hall : all.length ≤ i := by
      have := congrArg List.length hd
      simp at this; omega
    refine ⟨by simp [hl], fun _ _ => rfl, ⟨fun j o b ho hb => hp j o b ?_ ho hb⟩⟩
    have := (List.getElem?_eq_some_iff.1 ho).1; omega
  | o :: l, i, bs, r, h, hl, hd, hp => by
    unfold befores at h
    split at h
    · rename_i m hm
      have ho : all[i]? = some o := by rw [← List.head?_drop, hd]; rfl
      have hd' : all.drop (i + 1) = l := by
        have := congrArg (List.drop 1) hd
        rw [List.drop_drop] at this; simpa using this
      have hmk := maskOf_ok hm
      have hget : ∀ j, j < i → (bs ++ [m])[j]? = bs[j]? := fun j hj => List.getElem?_append_left (by omega)
      have := befores_ok all l (Nat.succ i) (bs ++ [m]) r h (by simp [hl]) hd' (fun j o' b hj ho' hb => by
        by_cases e : j = i
        · subst e
          rw [ho] at ho'
          obtain rfl := Option.some.inj ho'
          rw [List.getElem?_append_right (by omega), hl, Nat.sub_self] at hb
          obtain rfl := Option.some.inj (show some m = some b from hb)
          refine ⟨fun k hk => ?_, hmk.2⟩
          obtain ⟨e, h1, h2, h3, h4⟩ := hmk.1 k hk
          exact ⟨e, h1, h2, h3, h4.imp id fun ⟨b', q1, q2⟩ => ⟨b', by rw [hget _ h3]; exact q1, q2⟩⟩
        · have hj' : j < i := by omega
          rw [hget j hj'] at hb
          have := hp j o' b hj' ho' hb
          refine ⟨fun k hk => ?_, this.2⟩
          obtain ⟨e, h1, h2, h3, h4⟩ := this.1 k hk
          exact ⟨e, h1, h2, h3, h4.imp id fun ⟨b', q1, q2⟩ => ⟨b', by rw [hget _ (by omega)]; exact q1, q2⟩⟩)
      refine ⟨by rw [this.1]; simp; omega, fun j hj => ?_, this.2.2⟩
      rw [this.2.1 j (by omega), hget j hj]
    · simp at h

theorem plan_ok {all : List Oper} {bs : List Nat} (h : plan all = some bs) : Before all bs ∧ bs.length = all.length ∧
    (∀ (i j : Nat) (x y : Oper) (b : Nat), i < j → all[i]? = some x → all[j]? = some y → bs[j]? = some b → meetX all x y = true → Nat.testBit b i = true) := by
  unfold plan at h
  split at h
  · rename_i r hr
    split at h
    · rename_i hc
      obtain rfl := Option.some.inj h
      simp only [Bool.and_eq_true] at hc
      have := befores_ok all all 0 [] r hr rfl rfl (by intro j o b hj; omega)
      refine ⟨this.2.2, Nat.eq_of_beq_eq_true hc.2, fun i j x y b hij hx hy hb hm => ?_⟩
      have hs := hc.1
      unfold slotsOk at hs
      have hj : j < all.length := (List.getElem?_eq_some_iff.1 hy).1
      have := List.all_eq_true.1 (List.all_eq_true.1 hs j (List.mem_range.2 hj)) i (List.mem_range.2 hij)
      simp only [hx, hy, hb, hm, Bool.not_true, Bool.false_or] at this
      exact this
    · simp at h
  · simp at h

/-- The slot that an operation writes. -/
def dstIs (o : Option Oper) (t : Nat) : Bool := match o with
  | some o => match o.dst with
    | some d => Nat.beq d t
    | none => false
  | none => false

/-- What a slot holds where the operations of D are done: the last one's value. -/
noncomputable def slotD (all : List Oper) (D : Nat → Bool) (V : Nat → AV) (f : Fr) (t : Nat) : Nat → AV
  | 0 => (f.T.get t).getD (.tup [])
  | i + 1 => match D i && dstIs all[i]? t with
    | true => V i
    | false => slotD all D V f t i

theorem slotD_congr {all : List Oper} {D D' : Nat → Bool} {V : Nat → AV} {f : Fr} {t : Nat} : ∀ {n : Nat}, (∀ i, i < n → dstIs all[i]? t = true → D i = D' i) → slotD all D V f t n = slotD all D' V f t n
  | 0, _ => rfl
  | n + 1, h => by
    have ih := slotD_congr (V := V) (f := f) (n := n) fun i hi => h i (by omega)
    unfold slotD
    cases hd : dstIs all[n]? t with
    | false => simp [ih]
    | true => rw [h n (by omega) hd, ih]

theorem slotD_cut {all : List Oper} {D : Nat → Bool} {V : Nat → AV} {f : Fr} {t i : Nat} : ∀ {n : Nat}, i ≤ n → (∀ j, i ≤ j → j < n → D j = true → dstIs all[j]? t = false) → slotD all D V f t n = slotD all D V f t i
  | 0, hi, _ => by have : i = 0 := by omega
                   subst this; rfl
  | n + 1, hi, h => by
    by_cases e : i = n + 1
    · subst e; rfl
    · have ih := slotD_cut (V := V) (f := f) (n := n) (by omega : i ≤ n) fun j h1 h2 h3 => h j h1 (by omega) h3
      rw [← ih]
      conv => lhs; unfold slotD
      cases hD : D n with
      | false => simp
      | true => rw [h n (by omega) (by omega) hD]; simp

theorem putX_get {d : Option Tmp} {v : AV} {F F' : Fr} (h : putX d v F some = some F') (hle : F.n ≤ 1024) : F'.n = F.n ∧ F'.G = F.G ∧ (∀ t, F'.T.get t = if d = some t then some v else F.T.get t) ∧ (∀ t, d = some t → t < F.n) := by
  unfold putX at h
  split at h
  · obtain rfl := Option.some.inj h
    exact ⟨rfl, rfl, fun t => by simp, by simp⟩
  · rename_i d
    split at h
    · rename_i hdn
      have hdn : (d : Nat) < F.n := Nat.le_of_ble_eq_true hdn
      obtain ⟨T0, n, G⟩ := F
      simp only [Tr.setK_eq] at h
      obtain rfl := Option.some.inj h
      refine ⟨rfl, rfl, fun t => ?_, fun t ht => by obtain rfl := Option.some.inj ht; exact hdn⟩
      show (Tr.set 11 T0 d (some v)).get t = _
      have hd' : (d : Nat) + 1 ≤ 1024 := Nat.succ_le_of_lt (Nat.lt_of_lt_of_le hdn hle)
      rw [Tr.get_set 11 T0 d t (some v) (Nat.lt_of_le_of_lt hd' (by decide))]
      by_cases e : t = d
      · subst e; simp
      · rw [if_neg e, if_neg (fun e' => e (Option.some.inj e').symm)]
    · simp at h

end Go.Vx
set_option linter.unusedSectionVars false
set_option linter.unusedSimpArgs false
set_option linter.unusedVariables false
namespace Go.Vx
open Go.RowKit

/-- The trace of a drawn region. -/
structure Cn (E : Env) (call : CallX) (lo n0 : Nat) (all : List Oper) (bs : List Nat) (F : Nat → Fr) (S : Nat → St) (M : Nat → Met) (V : Nat → AV) : Prop where
  step : ∀ i o b, all[i]? = some o → bs[i]? = some b → StepD E call lo n0 all i o b (F i) (S i) (M i) (V i) (F (i + 1)) (S (i + 1)) (M (i + 1))
  s0 : (S 0).nx = n0
  m0 : M 0 = ⟨0, 0, 0, [], []⟩
  f0 : (F 0).n ≤ 1024
  out : ∀ t, (F 0).n ≤ t → (F 0).T.get t = none
  bef : Before all bs
  len : bs.length = all.length
  slots : ∀ (i j : Nat) (x y : Oper) (b : Nat), i < j → all[i]? = some x → all[j]? = some y → bs[j]? = some b → meetX all x y = true → Nat.testBit b i = true
  lo_le : lo ≤ n0
  limit : n0 ≤ lim

section
variable {E : Env} {call : CallX} {lo n0 : Nat} {all : List Oper} {bs : List Nat} {F : Nat → Fr} {S : Nat → St} {M : Nat → Met} {V : Nat → AV}

/-- The operation i writes what was there. -/
def Wild (E : Env) (call : CallX) (lo : Nat) (all : List Oper) (bs : List Nat) (F : Nat → Fr) (S : Nat → St) (M : Nat → Met) (V : Nat → AV) (i : Nat) : Prop :=
  ∃ o b g w, all[i]? = some o ∧ bs[i]? = some b ∧ Restr all o (F i) g ∧ wantX g all o = true ∧ Nat.land (M i).rm b = (M i).rm ∧ Nat.land (M i).wm b = (M i).wm ∧ Nat.land (M i).tm b = (M i).tm ∧ writeOk b w (M i).rl = true ∧
    stepX o.op E call lo g (S i) = some (V i, S (i + 1)) ∧ (∀ c, w = some c → ∃ x, kindX o.op = .touch (some x) ∧ blockOf (evX x g) = some c) ∧ (S i).nx ≤ (S (i + 1)).nx ∧ (S (i + 1)).nx ≤ lim ∧
    M (i + 1) = ⟨mark (M i).rm i (S i) (S (i + 1)), Nat.lor (M i).tm (Nat.shiftLeft 1 i), Nat.lor (M i).wm (Nat.shiftLeft 1 i), (M i).rl, (i, w) :: (M i).wl⟩

theorem land_sub {m b k : Nat} (h : Nat.land m b = m) (hk : Nat.testBit m k = true) : Nat.testBit b k = true := by
  have : (m &&& b).testBit k = m.testBit k := by rw [show m &&& b = m from h]
  rw [Nat.testBit_and, hk] at this
  simpa using this

theorem lor_bit (m i : Nat) : Nat.testBit (Nat.lor m (Nat.shiftLeft 1 i)) i = true := by
  show (m ||| (1 <<< i)).testBit i = true
  rw [Nat.testBit_or, Nat.one_shiftLeft, Nat.testBit_two_pow]
  simp

theorem lor_keep {m k : Nat} (i : Nat) (h : Nat.testBit m k = true) : Nat.testBit (Nat.lor m (Nat.shiftLeft 1 i)) k = true := by
  show (m ||| (1 <<< i)).testBit k = true
  rw [Nat.testBit_or, h]; rfl

theorem mark_keep {m k i : Nat} {s r : St} (h : Nat.testBit m k = true) : Nat.testBit (mark m i s r) k = true := by
  unfold mark; split
  · exact h
  · exact lor_keep i h

theorem mark_bit {m i : Nat} {s r : St} (h : s.nx < r.nx) : Nat.testBit (mark m i s r) i = true := by
  unfold mark
  rw [show Nat.ble r.nx s.nx = false by rw [← Bool.not_eq_true, Nat.ble_eq]; omega]
  exact lor_bit m i

theorem mark_same {m i : Nat} {s r : St} (h : r.nx = s.nx) : mark m i s r = m := by
  unfold mark
  rw [show Nat.ble r.nx s.nx = true by rw [Nat.ble_eq]; omega]

variable (C : Cn E call lo n0 all bs F S M V)
include C

theorem Cn.at {i : Nat} (hi : i < all.length) : ∃ o b, all[i]? = some o ∧ bs[i]? = some b :=
  ⟨all[i], bs[i]'(by rw [C.len]; exact hi), List.getElem?_eq_getElem hi, List.getElem?_eq_getElem (by rw [C.len]; exact hi)⟩

/-- A step that is not wild. -/
theorem Cn.tame {i : Nat} (hi : i < all.length) (hw : ¬ Wild E call lo all bs F S M V i) : (S i).nx ≤ (S (i + 1)).nx ∧ ((S i).nx ≤ lim → (S (i + 1)).nx ≤ lim) ∧ (∀ k, ¬ ((S i).nx ≤ k ∧ k < (S (i + 1)).nx) → (S (i + 1)).get k = (S i).get k) ∧
    (∀ k, Nat.testBit (M i).rm k = true → Nat.testBit (M (i + 1)).rm k = true) ∧ (∀ k, Nat.testBit (M i).tm k = true → Nat.testBit (M (i + 1)).tm k = true) ∧ (∀ k, Nat.testBit (M i).wm k = true → Nat.testBit (M (i + 1)).wm k = true) ∧
    (∀ p, p ∈ (M i).rl → p ∈ (M (i + 1)).rl) ∧ (∀ p, p ∈ (M i).wl → p ∈ (M (i + 1)).wl) ∧ ((S i).nx < (S (i + 1)).nx → Nat.testBit (M (i + 1)).rm i = true) := by
  obtain ⟨o, b, ho, hb⟩ := C.at hi
  obtain ⟨hp, g, hg, halt⟩ := C.step i o b ho hb
  rcases halt with ⟨_, _, h1, h2⟩ | ⟨hwant, ht⟩
  · rw [h1, h2]
    exact ⟨Nat.le_refl _, id, fun _ _ => rfl, fun _ h => h, fun _ h => h, fun _ h => h, fun _ h => h, fun _ h => h, fun h => absurd h (Nat.lt_irrefl _)⟩
  · cases ht with
    | free r h hn hl hf hs hgk hm =>
      refine ⟨by omega, fun _ => by omega, fun k hk => ?_, ?_⟩
      · rw [hgk k, if_neg (by rw [← hs]; exact hk)]
      · rw [hm]
        exact ⟨fun k hk => mark_keep hk, fun _ h => h, fun _ h => h, fun _ h => h, fun _ h => h, fun hlt => mark_bit (by omega)⟩
    | read0 r h hn hf hs hm =>
      rw [hs, hm]
      exact ⟨Nat.le_refl _, id, fun _ _ => rfl, fun _ h => h, fun _ h => h, fun _ h => h, fun _ h => h, fun _ h => h, fun h => absurd h (Nat.lt_irrefl _)⟩
    | read c ob r hc h hn hf hr hcl hc0 hs hm =>
      rw [hs, hm]
      exact ⟨Nat.le_refl _, id, fun _ _ => rfl, fun _ h => h, fun _ h => h, fun _ h => h, fun _ h => List.mem_cons_of_mem _ h, fun _ h => h, fun h => absurd h (Nat.lt_irrefl _)⟩
    | tame r hrm hwm h hn hl hs hgk hm =>
      refine ⟨by omega, fun _ => by omega, fun k hk => ?_, ?_⟩
      · rcases hgk with hgk | hgk
        · rw [hgk k, if_neg (by rw [← hs]; exact hk)]
        · exact hgk k
      · rw [hm]
        exact ⟨fun k hk => mark_keep hk, fun k hk => lor_keep i hk, fun _ h => h, fun _ h => h, fun _ h => h, fun hlt => mark_bit (by omega)⟩
    | wild w hrm hwm htm hwo h hk hn hl hm => exact absurd ⟨o, b, g, w, ho, hb, hg, hwant, hrm, hwm, htm, hwo, h, hk, hn, hl, hm⟩ hw

theorem Cn.wildM {i : Nat} (hw : Wild E call lo all bs F S M V i) : (S i).nx ≤ (S (i + 1)).nx ∧ (S (i + 1)).nx ≤ lim ∧
    (∀ k, Nat.testBit (M i).rm k = true → Nat.testBit (M (i + 1)).rm k = true) ∧ (∀ k, Nat.testBit (M i).tm k = true → Nat.testBit (M (i + 1)).tm k = true) ∧ (∀ k, Nat.testBit (M i).wm k = true → Nat.testBit (M (i + 1)).wm k = true) ∧
    (∀ p, p ∈ (M i).rl → p ∈ (M (i + 1)).rl) ∧ (∀ p, p ∈ (M i).wl → p ∈ (M (i + 1)).wl) ∧ ((S i).nx < (S (i + 1)).nx → Nat.testBit (M (i + 1)).rm i = true) ∧ Nat.testBit (M (i + 1)).tm i = true ∧ Nat.testBit (M (i + 1)).wm i = true := by
  obtain ⟨o, b, g, w, ho, hb, hg, hwant, hrm, hwm, htm, hwo, h, hk, hn, hl, hm⟩ := hw
  rw [hm]
  exact ⟨hn, hl, fun k hk => mark_keep hk, fun k hk => lor_keep i hk, fun k hk => lor_keep i hk, fun _ h => h, fun _ h => List.mem_cons_of_mem _ h, fun hlt => mark_bit hlt, lor_bit _ _, lor_bit _ _⟩

/-- What grows from step to step. -/
theorem Cn.up {i : Nat} (hi : i < all.length) : (S i).nx ≤ (S (i + 1)).nx ∧ ((S i).nx ≤ lim → (S (i + 1)).nx ≤ lim) ∧ (∀ k, Nat.testBit (M i).rm k = true → Nat.testBit (M (i + 1)).rm k = true) ∧ (∀ k, Nat.testBit (M i).tm k = true → Nat.testBit (M (i + 1)).tm k = true) ∧
    (∀ k, Nat.testBit (M i).wm k = true → Nat.testBit (M (i + 1)).wm k = true) ∧ (∀ p, p ∈ (M i).rl → p ∈ (M (i + 1)).rl) ∧ (∀ p, p ∈ (M i).wl → p ∈ (M (i + 1)).wl) ∧ ((S i).nx < (S (i + 1)).nx → Nat.testBit (M (i + 1)).rm i = true) := by
  by_cases hw : Wild E call lo all bs F S M V i
  · have := C.wildM hw
    exact ⟨this.1, fun _ => this.2.1, this.2.2.1, this.2.2.2.1, this.2.2.2.2.1, this.2.2.2.2.2.1, this.2.2.2.2.2.2.1, this.2.2.2.2.2.2.2.1⟩
  · have := C.tame hi hw
    exact ⟨this.1, this.2.1, this.2.2.2.1, this.2.2.2.2.1, this.2.2.2.2.2.1, this.2.2.2.2.2.2.1, this.2.2.2.2.2.2.2.1, this.2.2.2.2.2.2.2.2⟩

theorem Cn.mono {i : Nat} : ∀ {j : Nat}, i ≤ j → j ≤ all.length → (S i).nx ≤ (S j).nx ∧ (∀ k, Nat.testBit (M i).rm k = true → Nat.testBit (M j).rm k = true) ∧ (∀ k, Nat.testBit (M i).tm k = true → Nat.testBit (M j).tm k = true) ∧
    (∀ k, Nat.testBit (M i).wm k = true → Nat.testBit (M j).wm k = true) ∧ (∀ p, p ∈ (M i).rl → p ∈ (M j).rl) ∧ (∀ p, p ∈ (M i).wl → p ∈ (M j).wl)
  | 0, hi, _ => by
    have : i = 0 := by omega
    subst this
    exact ⟨Nat.le_refl _, fun _ h => h, fun _ h => h, fun _ h => h, fun _ h => h, fun _ h => h⟩
  | j + 1, hi, hj => by
    by_cases e : i = j + 1
    · subst e
      exact ⟨Nat.le_refl _, fun _ h => h, fun _ h => h, fun _ h => h, fun _ h => h, fun _ h => h⟩
    · have ih := Cn.mono (i := i) (j := j) (by omega) (by omega)
      have u := C.up (i := j) (by omega)
      exact ⟨Nat.le_trans ih.1 u.1, fun k h => u.2.2.1 k (ih.2.1 k h), fun k h => u.2.2.2.1 k (ih.2.2.1 k h), fun k h => u.2.2.2.2.1 k (ih.2.2.2.1 k h), fun p h => u.2.2.2.2.2.1 p (ih.2.2.2.2.1 p h), fun p h => u.2.2.2.2.2.2.1 p (ih.2.2.2.2.2 p h)⟩

theorem Cn.nx_lim : ∀ {j : Nat}, j ≤ all.length → (S j).nx ≤ lim
  | 0, _ => by rw [C.s0]; exact C.limit
  | j + 1, hj => (C.up (i := j) (by omega)).2.1 (Cn.nx_lim (by omega))

theorem Cn.nx_n0 {j : Nat} (hj : j ≤ all.length) : n0 ≤ (S j).nx := by
  have := (C.mono (Nat.zero_le j) hj).1
  rw [C.s0] at this; exact this

/-- An operation that has made names is marked. -/
theorem Cn.marked {t i : Nat} (ht : t < i) (hi : i ≤ all.length) (hlt : (S t).nx < (S (t + 1)).nx) : Nat.testBit (M i).rm t = true :=
  (C.mono (i := t + 1) ht hi).2.1 t ((C.up (by omega)).2.2.2.2.2.2.2 hlt)

theorem Cn.wilded {t i : Nat} (ht : t < i) (hi : i ≤ all.length) (hw : Wild E call lo all bs F S M V t) : Nat.testBit (M i).wm t = true ∧ Nat.testBit (M i).tm t = true :=
  ⟨(C.mono (i := t + 1) ht hi).2.2.2.1 t (C.wildM hw).2.2.2.2.2.2.2.2.2, (C.mono (i := t + 1) ht hi).2.2.1 t (C.wildM hw).2.2.2.2.2.2.2.2.1⟩

/-- The slots in the order of the text. -/
theorem Cn.frames : ∀ {i : Nat}, i ≤ all.length → (F i).n = (F 0).n ∧ (F i).G = (F 0).G ∧ (∀ t, (F 0).n ≤ t → (F i).T.get t = none) ∧ (∀ t, ((F i).T.get t).getD (.tup []) = slotD all (fun _ => true) V (F 0) t i)
  | 0, _ => ⟨rfl, rfl, C.out, fun _ => rfl⟩
  | i + 1, hi => by
    obtain ⟨h1, h2, h3, h4⟩ := Cn.frames (i := i) (by omega)
    obtain ⟨o, b, ho, hb⟩ := C.at (i := i) (by omega)
    obtain ⟨hp, _⟩ := C.step i o b ho hb
    obtain ⟨p1, p2, p3, p4⟩ := putX_get hp (by rw [h1]; exact C.f0)
    refine ⟨p1.trans h1, p2.trans h2, fun t ht => ?_, fun t => ?_⟩
    · rw [p3 t]
      split
      · rename_i hd
        have := p4 t hd
        rw [h1] at this
        exact absurd (Nat.lt_of_lt_of_le this ht) (Nat.lt_irrefl _)
      · exact h3 t ht
    · rw [p3 t]
      unfold slotD
      have hd : dstIs all[i]? t = decide (o.dst = some t) := by
        rw [ho]
        unfold dstIs
        cases hdst : o.dst with
        | none => simp [hdst]
        | some d =>
          simp only [hdst, Option.some.injEq]
          rw [Bool.eq_iff_iff, Nat.beq_eq, decide_eq_true_eq]
      rw [hd]
      by_cases e : o.dst = some t
      · simp [e]
      · simp [e, h4 t]

/-- Nothing wild between: what the heap is. -/
theorem Cn.chain {κ : Nat} (hbd : ∀ n o, (S κ).get n = some o → n < (S κ).nx) : ∀ {i : Nat}, κ ≤ i → i ≤ all.length → (∀ t, κ ≤ t → t < i → ¬ Wild E call lo all bs F S M V t) →
    (∀ n, n < (S κ).nx → (S i).get n = (S κ).get n) ∧ (∀ n o, (S i).get n = some o → n < (S i).nx) ∧
    (∀ n o, (S i).get n = some o → (S κ).nx ≤ n → ∃ j, κ ≤ j ∧ j < i ∧ (S j).nx ≤ n ∧ n < (S (j + 1)).nx ∧ (S (j + 1)).get n = some o ∧ ¬ ∀ k, (S (j + 1)).get k = (S j).get k)
  | 0, h1, _, _ => by
    have : κ = 0 := by omega
    subst this
    exact ⟨fun _ _ => rfl, hbd, fun n o h h' => absurd (hbd n o h) (by omega)⟩
  | i + 1, h1, h2, hnw => by
    by_cases e : κ = i + 1
    · subst e
      exact ⟨fun _ _ => rfl, hbd, fun n o h h' => absurd (hbd n o h) (by omega)⟩
    · obtain ⟨c1, c2, c3⟩ := Cn.chain hbd (i := i) (by omega) (by omega) fun t h1 h2 => hnw t h1 (by omega)
      have ht := C.tame (i := i) (by omega) (hnw i (by omega) (by omega))
      have hmono := (C.mono (i := κ) (j := i) (by omega) (by omega)).1
      refine ⟨fun n hn => ?_, fun n o hn => ?_, fun n o hn hk => ?_⟩
      · rw [ht.2.2.1 n (by omega)]
        exact c1 n hn
      · by_cases hr : (S i).nx ≤ n ∧ n < (S (i + 1)).nx
        · exact hr.2
        · rw [ht.2.2.1 n hr] at hn
          have := c2 n o hn
          have := ht.1
          omega
      · by_cases hr : (S i).nx ≤ n ∧ n < (S (i + 1)).nx
        · by_cases hs : ∀ k, (S (i + 1)).get k = (S i).get k
          · rw [hs n] at hn
            have := c2 n o hn
            omega
          · exact ⟨i, by omega, by omega, hr.1, hr.2, hn, hs⟩
        · rw [ht.2.2.1 n hr] at hn
          obtain ⟨j, j1, j2, j3⟩ := c3 n o hn hk
          exact ⟨j, j1, by omega, j3⟩

end
end Go.Vx
