/-
  A run told in advance, part eleven: maps, and iterators over strings and empty maps. No condition.
-/
import Derived.Test.YtdglogdigiajbaaGreatDoorVxJ
import Derived.WideKeyRuns
set_option linter.unusedSectionVars false
set_option linter.unusedSimpArgs false
set_option linter.unusedVariables false
namespace Go.Vx
open Go.RowKit

/-- A value of a scalar kind. -/
def skV : SK → AV → Prop
  | .s, .str _ => True
  | .i, .int _ _ => True
  | .b, .bool _ => True
  | _, _ => False

theorem scalarEq_form {k : SK} {a b : AV} {r : Bool} (h : scalarEq k a b = some r) : skV k a := by
  unfold scalarEq at h
  split at h <;> first | trivial | (simp at h)

theorem scalarEq_true {k : SK} {a b : AV} (h : scalarEq k a b = some true) : a = b := by
  unfold scalarEq at h
  split at h
  · split at h
    · rename_i hk
      obtain rfl := kindEq_eq.1 hk
      rw [Option.some.injEq, eqI_eq] at h
      rw [eq_of_beq h]
    · simp at h
  · rw [Option.some.injEq, eqS_eq] at h
    rw [eq_of_beq h]
  · rename_i p q
    cases p <;> cases q <;> simp at h <;> rfl
  · simp at h

/-- A key of a kind. -/
def keyV : KD → AV → Prop
  | .one k, a => skV k a
  | .many l, .agg a => a.length = l.length ∧ ∀ (i : Nat) (k : SK) (x : AV), l[i]? = some k → a[i]? = some x → skV k x
  | _, _ => False

theorem scalarsEq_form : ∀ {l : List SK} {a b : List AV} {r : Bool}, scalarsEq l a b = some r → ∀ (i : Nat) (k : SK) (x : AV), l[i]? = some k → a[i]? = some x → skV k x
  | [], a, b, r, h, i, k, x, hk, _ => by simp at hk
  | k :: l, [], b, r, h, i, _, x, _, hx => by simp at hx
  | k :: l, y :: a, [], r, h, i, _, x, _, hx => by simp [scalarsEq] at h
  | k :: l, y :: a, z :: b, r, h, i, kk, x, hk, hx => by
    simp only [scalarsEq] at h
    split at h
    · rename_i he
      cases i with
      | zero => simp at hk hx; subst hk hx; exact scalarEq_form he
      | succ i => exact scalarsEq_form h i kk x (by simpa using hk) (by simpa using hx)
    · rename_i he
      split at h
      · rename_i q hq
        cases i with
        | zero => simp at hk hx; subst hk hx; exact scalarEq_form he
        | succ i => exact scalarsEq_form hq i kk x (by simpa using hk) (by simpa using hx)
      · simp at h
    · simp at h

theorem scalarsEq_true : ∀ {l : List SK} {a b : List AV}, scalarsEq l a b = some true → a = b
  | [], [], [], _ => rfl
  | [], [], _ :: _, h => by simp [scalarsEq] at h
  | [], _ :: _, _, h => by simp [scalarsEq] at h
  | _ :: _, [], _, h => by simp [scalarsEq] at h
  | _ :: _, _ :: _, [], h => by simp [scalarsEq] at h
  | k :: l, x :: a, y :: b, h => by
    simp only [scalarsEq] at h
    split at h
    · rename_i he
      rw [scalarEq_true he, scalarsEq_true h]
    · split at h <;> simp at h
    · simp at h

theorem keyEq_form {d : KD} {a b : AV} {r : Bool} (h : keyEq d a b = some r) : keyV d a := by
  unfold keyEq at h
  split at h
  · exact scalarEq_form h
  · exact ⟨(scalarsEq_length h).1, scalarsEq_form h⟩
  · simp at h

theorem keyEq_true {d : KD} {a b : AV} (h : keyEq d a b = some true) : a = b := by
  unfold keyEq at h
  split at h
  · exact scalarEq_true h
  · rw [scalarsEq_true h]
  · simp at h

theorem sameBits_scalar {R : Ren} {k : SK} {a : AV} (h : skV k a) (n : Nat) : Instr.sameBits n (conc R a) (conc R a) = true := by
  cases k <;> cases a <;> simp [skV] at h <;> simp [conc, Instr.sameBits, beq_toListBytes]

theorem sameBits_key {R : Ren} {d : KD} {a : AV} (h : keyV d a) (n : Nat) : Instr.sameBits (n + 1) (conc R a) (conc R a) = true := by
  cases d with
  | one k => exact sameBits_scalar h _
  | many l =>
    cases a <;> simp only [keyV] at h
    rename_i a
    simp only [conc, Instr.sameBits, beq_self_eq_true, Bool.true_and, List.all_eq_true]
    intro p hp
    obtain ⟨i, hi, rfl⟩ := List.getElem_of_mem hp
    simp only [List.getElem_zip]
    have hi' : i < a.length := by simpa using hi
    have e : (concL R a)[i]'(by simpa using hi') = conc R a[i] := by simp [concL_map]
    simp only [e]
    exact sameBits_scalar (h.2 i (l[i]'(by omega)) a[i] (List.getElem?_eq_getElem _) (List.getElem?_eq_getElem _)) n

section
variable {E : Env} {P : Program} (hE : E.Ok P) {lo : Nat} {R : Ren} {s s' : St} {w : World} {f : Fr} {a : Act} {v : AV} (hR : Rel R s w) (hF : FrOk R s.nx f a) (hlo : lo ≤ s.nx)

theorem checkKey_scalar {k : SK} {d : TypeDesc} {t : TypeId} {x : AV} (hd : P.underlying t = some d) (hk : skD k d) (hx : skV k x) (em : Bool) (n : Nat) (w : World) : (Instr.checkKey em (n + 1) t (conc R x)).run P w = .ok () w := by
  unfold Instr.checkKey
  cases k <;> cases d <;> simp [skD] at hk <;> cases x <;> simp [skV] at hx <;> simp [underlying, hd, conc]

theorem checkFields_ok (em : Bool) (n : Nat) (A : List AV) : ∀ (fs : List Field) (l : List SK) (i : Nat),
    fs.map (·.offset) = List.range' i l.length → (∀ (j : Nat) (f : Field) (k : SK), fs[j]? = some f → l[j]? = some k → ∃ d, P.underlying f.type = some d ∧ skD k d) →
    (∀ (j : Nat) (k : SK), l[j]? = some k → ∃ x, A[i + j]? = some x ∧ skV k x) → ∀ w,
    (forIn fs PUnit.unit (fun f (_ : PUnit) => (if f.name ≠ "_" then (do let a ← part f.type ⟨concL R A⟩ f.offset; Instr.checkKey em (n + 1) f.type a; pure (ForInStep.yield PUnit.unit)) else pure (ForInStep.yield PUnit.unit) : Sem (ForInStep PUnit)))).run P w = .ok PUnit.unit w
  | [], l, i, _, _, _, w => by simp
  | f :: fs, [], i, ho, _, _, w => by simp at ho
  | f :: fs, k :: l, i, ho, hf, hx, w => by
    simp only [List.map_cons, List.length_cons, List.range'_succ, List.cons.injEq] at ho
    obtain ⟨ho1, ho2⟩ := ho
    obtain ⟨d, hd, hk⟩ := hf 0 f k rfl rfl
    obtain ⟨x, hx1, hx2⟩ := hx 0 k rfl
    have ih := checkFields_ok em n A fs l (i + 1) ho2 (fun j g kk hj hl => hf (j + 1) g kk (by simpa using hj) (by simpa using hl)) (fun j kk hl => by
      obtain ⟨y, h1, h2⟩ := hx (j + 1) kk (by simpa using hl)
      exact ⟨y, by rw [← h1]; congr 1; omega, h2⟩) w
    simp only [List.forIn_cons, Sem.run_bind]
    have hx1 : A[i]? = some x := hx1
    have h1 := run_part1 hd hk (⟨concL R A⟩ : Array Value) i (conc R x) (by simp [hx1]) w
    split
    · simp only [Sem.run_bind, ho1, h1, Result.andThen_ok, checkKey_scalar hd hk hx2, Sem.run_pure]
      exact ih
    · simp only [Sem.run_pure, Result.andThen_ok]
      exact ih

include hE in
theorem checkKey_ok {t : TypeId} {d : KD} {k : AV} (hd : keyD E t = some d) (hk : keyV d k) (em : Bool) (w : World) : (Instr.checkKey em 10000 t (conc R k)).run P w = .ok () w := by
  unfold keyD at hd
  split at hd
  · rename_i x hx
    have hty := hE.ty t x hx
    split at hd
    · rename_i kk hxd
      obtain rfl := Option.some.inj hd
      exact checkKey_scalar (k := .i) hty.2.1 (by rw [hxd]; trivial) hk em 9999 w
    · rename_i hxd
      obtain rfl := Option.some.inj hd
      exact checkKey_scalar (k := .s) hty.2.1 (by rw [hxd]; trivial) hk em 9999 w
    · rename_i fs l hxd hsk
      obtain rfl := Option.some.inj hd
      have hok := hty.2.2 l hsk
      obtain ⟨fs', hfs, h1, h2, h3⟩ := hok.st
      rw [hxd] at hfs
      obtain rfl := TypeDesc.struct.inj hfs
      cases k <;> simp only [keyV] at hk
      rename_i A
      have hu : P.underlying t = some (.struct fs) := by rw [hty.2.1, hxd]
      have := checkFields_ok (P := P) (R := R) em 9998 A fs.toList l 0 (by rw [h1, List.range_eq_range']) h3 (fun j kk hj => by
        have hj' : j < A.length := by have := (List.getElem?_eq_some_iff.1 hj).1; omega
        refine ⟨A[j], by rw [Nat.zero_add]; exact List.getElem?_eq_getElem hj', hk.2 j kk A[j] hj (List.getElem?_eq_getElem hj')⟩) w
      show (Instr.checkKey em (9999 + 1) t (conc R (.agg A))).run P w = _
      unfold Instr.checkKey
      simp only [Sem.run_bind, underlying, run_program, Result.andThen_ok, hu, Sem.run_pure, conc]
      rw [← Array.forIn_toList]
      exact (congrArg (fun r => Result.andThen r fun _ w' => Result.ok () w') this).trans rfl
    · simp at hd
  · simp at hd

/-- A search through the entries, step by step. -/
structure Search (P : Program) (R : Ren) (w : World) (d : KD) (k : AV) (G : List MapEntry → Nat → Sem (Option (Nat × Value))) : Prop where
  nil : ∀ i, (G [] i).run P w = .ok none w
  cons : ∀ e es i b, keyEq d k e.1 = some b → (G (entryC R e :: es) i).run P w = if b = true then .ok (some (i, conc R e.2.1)) w else (G es (i + 1)).run P w

theorem Search.find {d : KD} {k : AV} {G : List MapEntry → Nat → Sem (Option (Nat × Value))} (hG : Search P R w d k G) : ∀ {es : List (AV × AV × Nat)} {r : Option AV}, findX d k es = some r →
    ∀ i, ∃ j, (G (es.map (entryC R)) i).run P w = .ok (r.map fun v => (j, conc R v)) w
  | [], r, h, i => by
    unfold findX at h
    split at h
    · obtain rfl := Option.some.inj h
      exact ⟨0, hG.nil i⟩
    · simp at h
  | e :: es, r, h, i => by
    unfold findX at h
    split at h
    · rename_i he
      obtain rfl := Option.some.inj h
      exact ⟨i, by rw [List.map_cons, hG.cons e _ i true he]; simp⟩
    · rename_i he
      obtain ⟨j, hj⟩ := hG.find h (i + 1)
      exact ⟨j, by rw [List.map_cons, hG.cons e _ i false he]; simpa using hj⟩
    · simp at h

theorem findX_form {d : KD} {k : AV} {es : List (AV × AV × Nat)} {r : Option AV} (h : findX d k es = some r) : keyV d k := by
  cases es with
  | nil =>
    unfold findX at h
    split at h
    · rename_i b hb; exact keyEq_form hb
    · simp at h
  | cons e es =>
    unfold findX at h
    split at h
    · rename_i he; exact keyEq_form he
    · rename_i he; exact keyEq_form he
    · simp at h

theorem updX_form {d : KD} {k v : AV} {clk : Nat} {es : List (AV × AV × Nat)} {r : List (AV × AV × Nat) × Bool} (h : updX d k v clk es = some r) : keyV d k := by
  cases es with
  | nil =>
    unfold updX at h
    split at h
    · rename_i b hb; exact keyEq_form hb
    · simp at h
  | cons e es =>
    unfold updX at h
    split at h
    · rename_i he; exact keyEq_form he
    · rename_i he; exact keyEq_form he
    · simp at h

theorem Search.upd {d : KD} {k v : AV} {clk : Nat} {G : List MapEntry → Nat → Sem (Option (Nat × Value))} (hG : Search P R w d k G) : ∀ {es es' : List (AV × AV × Nat)} {n : Bool}, updX d k v clk es = some (es', n) →
    (n = true → es' = es ++ [(k, v, clk)] ∧ ∀ i, (G (es.map (entryC R)) i).run P w = .ok none w) ∧
    (n = false → ∃ j e, es[j]? = some e ∧ e.1 = k ∧ es' = es.set j (k, v, e.2.2) ∧ ∀ i, ∃ u, (G (es.map (entryC R)) i).run P w = .ok (some (i + j, u)) w)
  | [], es', n, h => by
    unfold updX at h
    split at h
    · obtain ⟨rfl, rfl⟩ := Prod.mk.inj (Option.some.inj h)
      exact ⟨fun _ => ⟨rfl, fun i => hG.nil i⟩, by simp⟩
    · simp at h
  | e :: es, es', n, h => by
    unfold updX at h
    split at h
    · rename_i he
      obtain ⟨rfl, rfl⟩ := Prod.mk.inj (Option.some.inj h)
      refine ⟨by simp, fun _ => ⟨0, e, rfl, (keyEq_true he).symm, rfl, fun i => ⟨conc R e.2.1, ?_⟩⟩⟩
      rw [List.map_cons, hG.cons e _ i true he]
      simp
    · rename_i he
      obtain ⟨⟨l, m⟩, hl, hlm⟩ := Option.map_eq_some_iff.1 h
      obtain ⟨rfl, rfl⟩ := Prod.mk.inj hlm
      have ih := hG.upd hl
      refine ⟨fun hn => ?_, fun hn => ?_⟩
      · obtain ⟨h1, h2⟩ := ih.1 hn
        refine ⟨by rw [h1]; rfl, fun i => ?_⟩
        rw [List.map_cons, hG.cons e _ i false he]
        simpa using h2 (i + 1)
      · obtain ⟨j, e', h1, h2, h3, h4⟩ := ih.2 hn
        refine ⟨j + 1, e', by simpa using h1, h2, by rw [h3]; rfl, fun i => ?_⟩
        obtain ⟨u, hu⟩ := h4 (i + 1)
        refine ⟨u, ?_⟩
        rw [List.map_cons, hG.cons e _ i false he]
        have : i + 1 + j = i + (j + 1) := by omega
        rw [this] at hu
        simpa using hu
    · simp at h

include hE in
theorem search_ok {t : TypeId} {d : KD} {k : AV} (hd : keyD E t = some d) (hk : keyV d k) (w : World) : ∃ G, Search P R w d k G ∧ ∀ es r, (G es 0).run P w = .ok r w → (Instr.findKey t (conc R k) es).run P w = .ok r w := by
  unfold keyD at hd
  split at hd
  · rename_i x hx
    have hty := hE.ty t x hx
    have one : ∀ (sk : SK), d = .one sk → skD sk x.d → sk ≠ .b → ∃ G, Search P R w d k G ∧ ∀ es r, (G es 0).run P w = .ok r w → (Instr.findKey t (conc R k) es).run P w = .ok r w := by
      intro sk hdd hsd hnb
      subst hdd
      refine ⟨fun es i => match Instr.findNow x.d (conc R k) es i with | some r => pure r | none => stuck "", ⟨fun i => by simp [Instr.findNow], fun e es i b hb => ?_⟩, fun es r hr => ?_⟩
      · obtain ⟨ek, ev⟩ := e
        have : Instr.sameNow x.d (conc R k) (conc R ek) = some b := by
          have hb2 : scalarEq sk k ek = some b := hb
          clear hb
          unfold scalarEq at hb2
          split at hb2
          · split at hb2
            · rename_i hkk
              obtain rfl := kindEq_eq.1 hkk
              obtain rfl := Option.some.inj hb2
              cases hxd : x.d <;> rw [hxd] at hsd <;> simp [skD] at hsd
              simp [Instr.sameNow, conc, eqI_eq]
            · simp at hb2
          · obtain rfl := Option.some.inj hb2
            cases hxd : x.d <;> rw [hxd] at hsd <;> simp [skD] at hsd
            simp only [Instr.sameNow, conc, beq_toListBytes, bytes_toList, eqS_eq]
          · exact absurd rfl hnb
          · simp at hb2
        have hkey : (entryC R (ek, ev)).key = conc R ek := rfl
        cases b
        · simp only [Instr.findNow, hkey, this]
          simp
        · simp [Instr.findNow, hkey, this, entryC]
      · simp only [Instr.findKey, Sem.run_bind, underlying, run_program, Result.andThen_ok, hty.2.1, Sem.run_pure]
        simp only at hr
        cases hfn : Instr.findNow x.d (conc R k) es 0 with
        | some q => rw [hfn] at hr; exact hr
        | none => rw [hfn] at hr; simp at hr
    split at hd
    · rename_i kk hxd
      obtain rfl := Option.some.inj hd
      exact one .i rfl (by rw [hxd]; trivial) (by simp)
    · rename_i hxd
      obtain rfl := Option.some.inj hd
      exact one .s rfl (by rw [hxd]; trivial) (by simp)
    · rename_i fs l hxd hsk
      obtain rfl := Option.some.inj hd
      have hok := hty.2.2 l hsk
      have hu : P.underlying t = some (.struct fs) := by rw [hty.2.1, hxd]
      refine ⟨fun es i => Instr.findAsking t (conc R k) es i, ⟨fun i => by simp [Instr.findAsking], fun e es i b hb => ?_⟩, fun es r hr => ?_⟩
      · cases k <;> simp only [keyV] at hk
        rename_i A
        obtain ⟨ek, ev⟩ := e
        cases ek <;> simp only [keyEq] at hb <;> first
          | (simp at hb; done)
          | skip
        rename_i B
        have := structEq_ok (P := P) (R := R) hty.2.1 hok hb 9998 w
        have hkey : (entryC R (.agg B, ev)).key = .agg ⟨concL R B⟩ := rfl
        simp only [Instr.findAsking, Sem.run_bind, hkey, Op.equal, conc]
        rw [show Op.maxDepth = 9998 + 2 from rfl, this]
        cases b <;> simp [entryC]
      · rw [run_findKey_eq w (by rw [hu]) (conc R k) es]
        exact hr
    · simp at hd
  · simp at hd

end
end Go.Vx
