/-
  A run told in advance, part five: arithmetic, comparisons, strings. No condition.
-/
import Derived.Test.YtdglogdigiajbaaGreatDoorVxD
import Derived.Laws.StructEq
set_option linter.unusedSectionVars false
set_option linter.unusedSimpArgs false
set_option linter.unusedVariables false
namespace Go.Vx
open Go.RowKit

theorem pureRun_ok {α : Type} {P : Program} : ∀ {x : Sem α} {a : α}, pureRun x = some a → ∀ w, x.run P w = .ok a w
  | .pure b, a, h, w => by simp [pureRun] at h; simp [h]
  | .mark m k, a, h, w => by simp only [pureRun] at h; simp only [Sem.run]; exact pureRun_ok h w
  | .load _ _ _, _, h, _ | .store _ _ _ _, _, h, _ | .new _ _, _, h, _ | .shape _ _, _, h, _ | .freeze _ _ _, _, h, _ | .frozen _ _, _, h, _ | .getObj _ _, _, h, _
  | .setObj _ _ _, _, h, _ | .choose _ _, _, h, _ | .sys _ _, _, h, _ | .program _, _, h, _ | .halt _, _, h, _ => by simp [pureRun] at h

theorem runV_ok {P : Program} {x : Sem Value} {v : AV} (R : Ren) (h : runV x = some v) : (∀ w, x.run P w = .ok (conc R v) w) ∧ Bnd 0 v := by
  unfold runV at h
  split at h
  · rename_i u hu
    have := quote_ok R h
    exact ⟨fun w => by rw [this.1]; exact pureRun_ok hu w, this.2⟩
  · simp at h

theorem kindEq_eq {a b : IntKind} : kindEq a b = true ↔ a = b := by cases a <;> cases b <;> simp [kindEq]

theorem wrap_signed (n a b : Int) (hb : b = 2 * a) (h1 : -a ≤ n) (h2 : n < a) : (if n % b ≥ a then n % b - b else n % b) = n := by
  by_cases h : 0 ≤ n
  · rw [Int.emod_eq_of_lt h (by omega), if_neg (by omega)]
  · have e : n % b = n + b := by
      rw [← Int.add_emod_right, Int.emod_eq_of_lt (by omega) (by omega)]
    rw [e, if_pos (by omega)]
    omega

theorem fits_wrap {k : IntKind} {n : Int} (h : fits k n = true) : k.wrap n = n := by
  have hs : ∀ (q : Nat), (if (true && decide (n % (2 ^ (q + 1) : Int) ≥ (2 ^ q : Int))) = true then n % (2 ^ (q + 1) : Int) - (2 ^ (q + 1) : Int) else n % (2 ^ (q + 1) : Int)) = (if n % (2 ^ (q + 1) : Int) ≥ (2 ^ q : Int) then n % (2 ^ (q + 1) : Int) - (2 ^ (q + 1) : Int) else n % (2 ^ (q + 1) : Int)) := by
    intro q
    by_cases hq : n % (2 ^ (q + 1) : Int) ≥ (2 ^ q : Int) <;> simp [hq]
  have hu : ∀ (q : Nat), (if (false && decide (n % (2 ^ (q + 1) : Int) ≥ (2 ^ q : Int))) = true then n % (2 ^ (q + 1) : Int) - (2 ^ (q + 1) : Int) else n % (2 ^ (q + 1) : Int)) = n % (2 ^ (q + 1) : Int) := by
    intro q
    rfl
  cases k
  case i64 =>
    show (if (true && decide (n % (2 ^ (63 + 1) : Int) ≥ (2 ^ 63 : Int))) = true then n % (2 ^ (63 + 1) : Int) - (2 ^ (63 + 1) : Int) else n % (2 ^ (63 + 1) : Int)) = n
    rw [hs]
    refine wrap_signed n _ _ (by rfl) ?_ ?_ <;> cases n <;> simp only [fits] at h <;> have h := Nat.le_of_ble_eq_true h <;> simp only [Int.ofNat_eq_natCast, Int.negSucc_eq] <;> omega
  case i32 =>
    show (if (true && decide (n % (2 ^ (31 + 1) : Int) ≥ (2 ^ 31 : Int))) = true then n % (2 ^ (31 + 1) : Int) - (2 ^ (31 + 1) : Int) else n % (2 ^ (31 + 1) : Int)) = n
    rw [hs]
    refine wrap_signed n _ _ (by rfl) ?_ ?_ <;> cases n <;> simp only [fits] at h <;> have h := Nat.le_of_ble_eq_true h <;> simp only [Int.ofNat_eq_natCast, Int.negSucc_eq] <;> omega
  case u8 =>
    show (if (false && decide (n % (2 ^ (7 + 1) : Int) ≥ (2 ^ 7 : Int))) = true then n % (2 ^ (7 + 1) : Int) - (2 ^ (7 + 1) : Int) else n % (2 ^ (7 + 1) : Int)) = n
    rw [hu]
    cases n <;> simp only [fits] at h
    · have h := Nat.le_of_ble_eq_true h
      exact Int.emod_eq_of_lt (by simp) (by simp only [Int.ofNat_eq_natCast]; omega)
    · exact absurd h (by simp)
  case u32 =>
    show (if (false && decide (n % (2 ^ (31 + 1) : Int) ≥ (2 ^ 31 : Int))) = true then n % (2 ^ (31 + 1) : Int) - (2 ^ (31 + 1) : Int) else n % (2 ^ (31 + 1) : Int)) = n
    rw [hu]
    cases n <;> simp only [fits] at h
    · have h := Nat.le_of_ble_eq_true h
      exact Int.emod_eq_of_lt (by simp) (by simp only [Int.ofNat_eq_natCast]; omega)
    · exact absurd h (by simp)
  case u64 =>
    show (if (false && decide (n % (2 ^ (63 + 1) : Int) ≥ (2 ^ 63 : Int))) = true then n % (2 ^ (63 + 1) : Int) - (2 ^ (63 + 1) : Int) else n % (2 ^ (63 + 1) : Int)) = n
    rw [hu]
    cases n <;> simp only [fits] at h
    · have h := Nat.le_of_ble_eq_true h
      exact Int.emod_eq_of_lt (by simp) (by simp only [Int.ofNat_eq_natCast]; omega)
    · exact absurd h (by simp)
  all_goals (cases n <;> simp [fits] at h)

theorem wrapF_eq (k : IntKind) (n : Int) : wrapF k n = k.wrap n := by
  unfold wrapF
  split
  · rename_i h; rw [fits_wrap h]
  · rfl

theorem eqI_eq (a b : Int) : eqI a b = (a == b) := by
  cases a <;> cases b <;> simp only [eqI] <;> rw [Bool.eq_iff_iff] <;> simp only [Nat.beq_eq, beq_iff_eq, Int.ofNat_eq_natCast, Int.negSucc_eq, Bool.false_eq_true, false_iff] <;> omega

theorem ltI_eq (a b : Int) : ltI a b = decide (a < b) := by
  cases a <;> cases b <;> simp only [ltI] <;> rw [Bool.eq_iff_iff] <;> simp only [Nat.ble_eq, decide_eq_true_eq, Int.ofNat_eq_natCast, Int.negSucc_eq, Bool.false_eq_true, false_iff, true_iff] <;> omega

theorem eqS_eq : ∀ (a b : List UInt8), eqS a b = (a == b)
  | [], [] => rfl
  | [], _ :: _ => rfl
  | _ :: _, [] => rfl
  | a :: x, b :: y => by
    simp only [eqS]
    by_cases h : a = b
    · subst h
      rw [show Nat.beq a.toNat a.toNat = true by simp]
      simp only [eqS_eq x y]
      simp
    · have : Nat.beq a.toNat b.toNat = false := by
        rw [← Bool.not_eq_true, Nat.beq_eq]
        exact fun e => h (UInt8.toNat_inj.1 e)
      rw [this]
      simp [h]

theorem ltS_eq : ∀ (a b : List UInt8), ltS a b = Op.bytesLess a b
  | [], [] => rfl
  | [], _ :: _ => rfl
  | _ :: _, [] => rfl
  | a :: x, b :: y => by
    simp only [ltS, Op.bytesLess]
    by_cases h1 : a.toNat < b.toNat
    · rw [show Nat.ble (Nat.succ a.toNat) b.toNat = true by rw [Nat.ble_eq]; omega]
      simp [UInt8.lt_iff_toNat_lt, h1]
    · rw [show Nat.ble (Nat.succ a.toNat) b.toNat = false by rw [← Bool.not_eq_true, Nat.ble_eq]; omega]
      by_cases h2 : a = b
      · subst h2
        rw [show Nat.beq a.toNat a.toNat = true by simp]
        simp [ltS_eq x y]
      · have : Nat.beq a.toNat b.toNat = false := by
          rw [← Bool.not_eq_true, Nat.beq_eq]
          exact fun e => h2 (UInt8.toNat_inj.1 e)
        rw [this]
        simp [UInt8.lt_iff_toNat_lt, h1, h2]

theorem less_total : ∀ (a b : List UInt8), (Op.bytesLess a b || a == b) = !Op.bytesLess b a
  | [], [] => rfl
  | [], _ :: _ => rfl
  | _ :: _, [] => rfl
  | a :: x, b :: y => by
    have ih := less_total x y
    simp only [Op.bytesLess]
    by_cases h1 : a.toNat < b.toNat
    · have h3 : ¬ b.toNat < a.toNat := by omega
      have h4 : b ≠ a := fun e => by subst e; omega
      simp [UInt8.lt_iff_toNat_lt, h1, h3, h4]
    · by_cases h2 : b.toNat < a.toNat
      · have h4 : a ≠ b := fun e => by subst e; omega
        simp [UInt8.lt_iff_toNat_lt, h1, h2, h4]
      · have h5 : a = b := UInt8.toNat_inj.1 (by omega)
        subst h5
        simp only [UInt8.lt_irrefl, decide_false, beq_self_eq_true, Bool.true_and, Bool.false_or]
        rw [← ih]
        simp

theorem bytes_toList (a : List UInt8) : (⟨⟨a⟩⟩ : ByteArray).toList = a := by rw [ByteArray.toList_eq]

theorem bytes_append (a b : List UInt8) : (⟨⟨a⟩⟩ : ByteArray) ++ ⟨⟨b⟩⟩ = ⟨⟨a ++ b⟩⟩ := by
  apply ByteArray.ext
  simp [ByteArray.data_append]

theorem binI_ok {P : Program} {op : BinOp} {k : IntKind} {a b : Int} {v : AV} (R : Ren) (ho : op ≠ .shl ∧ op ≠ .shr) (h : binI op k a b = some v) (t : TypeId) (x y : Operand) (w : World) :
    (do eqGuard op t x y (.int k a) (.int k b); binOp op t (.int k a) (.int k b) : Sem Value).run P w = .ok (conc R v) w ∧ Bnd 0 v := by
  have hg : (eqGuard op t x y (.int k a) (.int k b)).run P w = .ok () w := by
    cases op <;> simp [eqGuard]
  simp only [Sem.run_bind, hg, Result.andThen_ok]
  cases op <;> simp only [binI] at h
  case shl => exact absurd rfl ho.1
  case shr => exact absurd rfl ho.2
  case quo => have := runV_ok (P := P) R h; exact ⟨by simpa [binOp] using this.1 w, this.2⟩
  case rem => have := runV_ok (P := P) R h; exact ⟨by simpa [binOp] using this.1 w, this.2⟩
  case and => have := runV_ok (P := P) R h; exact ⟨by simpa [binOp] using this.1 w, this.2⟩
  case or => have := runV_ok (P := P) R h; exact ⟨by simpa [binOp] using this.1 w, this.2⟩
  case xor => have := runV_ok (P := P) R h; exact ⟨by simpa [binOp] using this.1 w, this.2⟩
  case andNot => have := runV_ok (P := P) R h; exact ⟨by simpa [binOp] using this.1 w, this.2⟩
  all_goals (obtain rfl := Option.some.inj h; refine ⟨?_, by simp [Bnd]⟩; simp [binOp, Op.intArith, Op.intCmp, conc, wrapF_eq, eqI_eq, ltI_eq])
  · rfl
  all_goals first
    | (rw [Bool.eq_iff_iff]; simp)
    | skip

theorem binS_ok {P : Program} {op : BinOp} {a b : List UInt8} {v : AV} (R : Ren) (h : binS op a b = some v) (t : TypeId) (x y : Operand) (w : World) :
    (do eqGuard op t x y (.string ⟨⟨a⟩⟩) (.string ⟨⟨b⟩⟩); binOp op t (.string ⟨⟨a⟩⟩) (.string ⟨⟨b⟩⟩) : Sem Value).run P w = .ok (conc R v) w ∧ Bnd 0 v := by
  have hg : (eqGuard op t x y (.string ⟨⟨a⟩⟩) (.string ⟨⟨b⟩⟩)).run P w = .ok () w := by
    cases op <;> simp [eqGuard]
  simp only [Sem.run_bind, hg, Result.andThen_ok]
  have ht := less_total a b
  have ht' := less_total b a
  cases op <;> simp only [binS] at h
  case add =>
    split at h
    · rename_i hl
      have hl := Nat.le_of_ble_eq_true hl
      obtain rfl := Option.some.inj h
      refine ⟨?_, by simp [Bnd]⟩
      simp only [binOp, Op.stringOp]
      rw [if_neg]
      · simp [conc, bytes_append]
      · simp [ByteArray.size, IntKind.max, IntKind.signed, IntKind.bits]; omega
    · simp at h
  all_goals first
    | (simp at h; done)
    | (obtain rfl := Option.some.inj h; refine ⟨?_, by simp [Bnd]⟩; simp only [binOp, Op.stringOp, bytes_toList, conc, eqS_eq, ltS_eq, Sem.run_pure] <;> first | rfl | (rw [ht]; done) | (rw [ht]; simp; done) | (congr 2; rw [ht]; simp; done))

theorem scalarEq_ok {P : Program} {k : SK} {a b : AV} {r : Bool} {R : Ren} (h : scalarEq k a b = some r) {t : TypeId} {d : TypeDesc} (hd : P.underlying t = some d) (hk : skD k d) (n : Nat) (w : World) :
    (Op.equalIn (n + 1) t (conc R a) (conc R b)).run P w = .ok r w := by
  unfold scalarEq at h
  split at h
  · split at h
    · rename_i hkk
      obtain rfl := Option.some.inj h
      obtain rfl := kindEq_eq.1 hkk
      cases d <;> simp [skD] at hk
      rw [conc, conc, run_equalIn_int w n t _ _ _ _ hd, eqI_eq]
    · simp at h
  · obtain rfl := Option.some.inj h
    cases d <;> simp [skD] at hk
    rw [conc, conc, run_equalIn_string w n t _ _ hd, bytes_toList, bytes_toList, eqS_eq]
  · obtain rfl := Option.some.inj h
    cases d <;> simp [skD] at hk
    rw [conc, conc, run_equalIn_bool w n t _ _ hd]
    rename_i p q
    cases p <;> cases q <;> rfl
  · simp at h

theorem scalarsEq_length : ∀ {l : List SK} {a b : List AV} {r : Bool}, scalarsEq l a b = some r → a.length = l.length ∧ b.length = l.length
  | [], [], [], r, _ => by simp
  | [], [], _ :: _, r, h => by simp [scalarsEq] at h
  | [], _ :: _, _, r, h => by simp [scalarsEq] at h
  | _ :: _, [], _, r, h => by simp [scalarsEq] at h
  | _ :: _, _ :: _, [], r, h => by simp [scalarsEq] at h
  | k :: l, x :: a, y :: b, r, h => by
    simp only [scalarsEq] at h
    split at h
    · have := scalarsEq_length h; simp [this]
    · split at h
      · rename_i hq
        have := scalarsEq_length hq; simp [this]
      · simp at h
    · simp at h

/-- A part of one cell. -/
theorem run_part1 {P : Program} {t : TypeId} {d : TypeDesc} {k : SK} (hd : P.underlying t = some d) (hk : skD k d) (cs : Array Value) (i : Nat) (v : Value) (hv : cs[i]? = some v) (w : World) :
    (part t cs i).run P w = .ok v w := by
  cases k <;> cases d <;> simp [skD] at hk <;> simp [part, isAgg, underlying, hd, hv]

theorem eqFields_ok {P : Program} {R : Ren} (n : Nat) (A B : List AV) : ∀ (fs : List Field) (l : List SK) (i : Nat) (a b : List AV) (r : Bool),
    fs.map (·.offset) = List.range' i l.length → (∀ f ∈ fs, f.name ≠ "_") → (∀ (j : Nat) (f : Field) (k : SK), fs[j]? = some f → l[j]? = some k → ∃ d, P.underlying f.type = some d ∧ skD k d) →
    A.drop i = a → B.drop i = b → scalarsEq l a b = some r → ∀ w, (Op.eqFields (n + 1) ⟨concL R A⟩ ⟨concL R B⟩ fs).run P w = .ok r w
  | [], l, i, a, b, r, ho, _, _, ha, hb, h, w => by
    have : l = [] := by
      have := congrArg List.length ho
      simp at this
      exact List.length_eq_zero_iff.1 this.symm
    subst this
    have := scalarsEq_length h
    cases a <;> cases b <;> simp at this
    simp [scalarsEq] at h
    simp [Op.eqFields, h]
  | f :: fs, [], i, a, b, r, ho, _, _, _, _, _, w => by simp at ho
  | f :: fs, k :: l, i, a, b, r, ho, hn, hf, ha, hb, h, w => by
    simp only [List.map_cons, List.length_cons, List.range'_succ, List.cons.injEq] at ho
    obtain ⟨ho1, ho2⟩ := ho
    obtain ⟨d, hd, hk⟩ := hf 0 f k rfl rfl
    cases a with
    | nil => cases b <;> simp [scalarsEq] at h
    | cons x a =>
      cases b with
      | nil => simp [scalarsEq] at h
      | cons y b =>
        have hx : A[i]? = some x := by rw [← List.head?_drop, ha]; rfl
        have hy : B[i]? = some y := by rw [← List.head?_drop, hb]; rfl
        have ha' : A.drop (i + 1) = a := by
          have := congrArg (List.drop 1) ha
          rw [List.drop_drop] at this; simpa using this
        have hb' : B.drop (i + 1) = b := by
          have := congrArg (List.drop 1) hb
          rw [List.drop_drop] at this; simpa using this
        have h1 := run_part1 hd hk (⟨concL R A⟩ : Array Value) i (conc R x) (by simp [hx]) w
        have h2 := run_part1 hd hk (⟨concL R B⟩ : Array Value) i (conc R y) (by simp [hy]) w
        have hname : f.name ≠ "_" := hn f (by simp)
        simp only [scalarsEq] at h
        simp only [Op.eqFields, if_pos hname, Sem.run_bind, ho1, h1, h2, Result.andThen_ok]
        split at h
        · rename_i he
          rw [scalarEq_ok he hd hk n w]
          simp only [Result.andThen_ok, Bool.not_true, Bool.false_eq_true, if_false]
          exact eqFields_ok n A B fs l (i + 1) a b r ho2 (fun g hg => hn g (by simp [hg])) (fun j g kk hj hl => hf (j + 1) g kk (by simpa using hj) (by simpa using hl)) ha' hb' h w
        · rename_i he
          rw [scalarEq_ok he hd hk n w]
          split at h
          · simp at h; simp [h]
          · simp at h
        · simp at h

theorem structEq_ok {P : Program} {R : Ren} {t : TypeId} {d : TypeDesc} {l : List SK} (hd : P.underlying t = some d) (hs : SkOk P t d l) {a b : List AV} {r : Bool} (h : scalarsEq l a b = some r) (n : Nat) (w : World) :
    (Op.equalIn (n + 2) t (.agg ⟨concL R a⟩) (.agg ⟨concL R b⟩)).run P w = .ok r w := by
  obtain ⟨fs, rfl, h1, h2, h3⟩ := hs.st
  have hf : P.fieldsOf t = fs := by simp [Program.fieldsOf, hd]
  rw [run_equalIn_struct w (n + 1) t _ _ (by rw [hf]; exact hd) hs.own, hf]
  exact eqFields_ok n a b fs.toList l 0 a b r (by rw [h1, List.range_eq_range']) h2 h3 (by simp) (by simp) h w

end Go.Vx
