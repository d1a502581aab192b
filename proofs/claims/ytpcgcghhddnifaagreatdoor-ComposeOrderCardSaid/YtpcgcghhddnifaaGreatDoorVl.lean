/-
  numfmt.rules holds a range over a function; numfmt.Plural where wakes asks it. No condition.
-/
import Derived.Test.YtpcgcghhddnifaaGreatDoorVi
import Derived.Test.YtpcgcghhddnifaaGreatDoorIt
import Derived.KernelRfl
namespace Go.Proofs.YtpcgcghhddnifaaGreatDoor
open Go.Vx
set_option maxRecDepth 1000000
def rng : FuncId → Option Bool := fun f => match Nat.beq f 248 with
  | true => some false
  | false => match Nat.beq f 55 with
    | true => some true
    | false => none
theorem rng_ok : ∀ gf b, rng gf = some b → IterOk Tryz.prog gf b := by
  intro gf b h
  unfold rng at h
  split at h
  · rename_i e
    obtain rfl := Nat.eq_of_beq_eq_true e
    obtain rfl := Option.some.inj h
    exact values_iter
  · split at h
    · rename_i e
      obtain rfl := Nat.eq_of_beq_eq_true e
      obtain rfl := Option.some.inj h
      exact back_iter
    · cases h
noncomputable def cRules : Code := match Tryz.f104.body with
  | some c => c
  | none => .skip
theorem bRules : Tryz.f104.body = some cRules := rfl
noncomputable def rulesX : List AV → St → Option (AV × St) := sumR rng Tryz.f104 cRules envN 59 100000
theorem rules_sum : SumOk Tryz.prog 11 104 rulesX := sumR_ok envN_ok rng_ok Tryz.func104 bRules Tryz.call104 59 100000
noncomputable def cCat : Code := match Tryz.f105.body with
  | some c => c
  | none => .skip
theorem bCat : Tryz.f105.body = some cCat := rfl
noncomputable def catX : List AV → St → Option (AV × St) := sumR rng Tryz.f105 cCat envN 59 100000
theorem cat_sum : SumOk Tryz.prog 11 105 catX := sumR_ok envN_ok rng_ok Tryz.func105 bCat Tryz.call105 59 100000
noncomputable def envP : Env := withS env [(49, memoX 11 [] nmT), (104, rulesX), (105, catX)]
theorem envP_ok : envP.Ok Tryz.prog := withS_ok env_ok (allC nm_sum (allC rules_sum (allC cat_sum allN)))
theorem pl0 : Tells Tryz.prog 11 tabs 74 [(.ifc 28 (.agg [.nils])), (.str [101, 110]), (.bool false), (.agg [(.bool false), (.str [50]), (.int .i64 (.ofNat 0))])] (.str [111, 116, 104, 101, 114]) := tells envP_ok 59 100000 rfl tabs_ok (fn := Tryz.f74) (by kernel_rfl) rfl (by kernel_rfl) (bndL0 (by kernel_rfl))
noncomputable def plT : List (List AV × AV) := [([(.ifc 28 (.agg [.nils])), (.str [101, 110]), (.bool false), (.agg [(.bool false), (.str [50]), (.int .i64 (.ofNat 0))])], (.str [111, 116, 104, 101, 114]))]
theorem pl_sum : SumOk Tryz.prog 11 74 (memoX 11 tabs plT) := memo_ok Tryz.call74 tabs_lt (allC ⟨pl0, bnd0 (by kernel_rfl)⟩ allN)
end Go.Proofs.YtpcgcghhddnifaaGreatDoor
