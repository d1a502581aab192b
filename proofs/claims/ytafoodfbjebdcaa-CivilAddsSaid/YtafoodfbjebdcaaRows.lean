/-
  No cell of these rows narrows 'for every input' (looked for: loops, veiled, ifaces, maps, wideKeys, modest, calm, conditions, laid).
  DERIVED. THE GIVEN ROWS OF THIS SEAT. 8 by the template 'for every input the law returns true; each argument reads behind the call as it read before'; 0 by the template 'total and deterministic' (their statements: YtafoodfbjebdcaaTotals.lean).
  GIVEN WITH THE SEED: the statements are not yours to turn. If you find one false, say at which input.
  Laid BY PROGRAM, IN A SANDBOX (cutbox-rows.mjs): the forced cells as the released guide's own fill.sh prints them over the translation fef66e03f395e457… (all of the seat's roots in one cut). By AI agents, Wed Nov 11 2026. No macro, syntax, notation, axiom, sorry.
-/
import Derived.Test.YtafoodfbjebdcaaChecked
import GoSem.Claim
import GoSem.ClaimJoined
import GoSem.ClaimMapViews
import Derived.JoinedTies
import Derived.KernelRfl
namespace Go.Proofs.Ytafoodfbjebdcaa
/- THE CELL 'sum', in the pinned program and in every row, IS THE sha256 OF THE DUMP (.gsa) THAT YtafoodfbjebdcaaProg.lean LOADS. Nothing in Lean hashes anything: it is a label: what it is worth is what the hold of that sum in a sandbox is worth. -/
noncomputable def Try.pinned : Pinned := { name := "ytafoodfbjebdcaa", sum := "fef66e03f395e4570655b6d74be46e1a463615d3a8823037ae6a7e50f28c8678", checked := Try.checked }
namespace Rows
def none {H : Type} : Left H := { results := [], args := [] }

/-- 'vernacularlaw26.CivilOf': WHATEVER THE INPUT: true; the input reads as it did. -/
def civilOfSpec : ChangeSpec := { name := "civilOf", fn := fun _ => fun
  | [d1, d2] => { results := [.lit (.bool true)], args := [d1, d2] }
  | _ => none }
def civilOfRow : OpenClaim := { program := "ytafoodfbjebdcaa", sum := "fef66e03f395e4570655b6d74be46e1a463615d3a8823037ae6a7e50f28c8678", func := "vernacular/vernacularlaw26.CivilOf", spec := "civilOf", apart := false }
def CivilOfSaid : Prop := civilOfRow.holds Try.pinned (OpenSpec.ofChange civilOfSpec)

/-- ITS FALSE NEIGHBOUR: 'it returns false'. Refute it at one input. -/
def civilOfWrong : ChangeSpec := { name := "civilOf", fn := fun _ => fun
  | [d1, d2] => { results := [.lit (.bool false)], args := [d1, d2] }
  | _ => none }
def CivilOfWrongFalsely : Prop := civilOfRow.holds Try.pinned (OpenSpec.ofChange civilOfWrong)

/-- 'vernacularlaw26.CivilYears': WHATEVER THE INPUT: true; the input reads as it did. -/
def civilYearsSpec : ChangeSpec := { name := "civilYears", fn := fun _ => fun
  | [d1, d2] => { results := [.lit (.bool true)], args := [d1, d2] }
  | _ => none }
def civilYearsRow : OpenClaim := { program := "ytafoodfbjebdcaa", sum := "fef66e03f395e4570655b6d74be46e1a463615d3a8823037ae6a7e50f28c8678", func := "vernacular/vernacularlaw26.CivilYears", spec := "civilYears", apart := false }
def CivilYearsSaid : Prop := civilYearsRow.holds Try.pinned (OpenSpec.ofChange civilYearsSpec)

/-- ITS FALSE NEIGHBOUR: 'it returns false'. Refute it at one input. -/
def civilYearsWrong : ChangeSpec := { name := "civilYears", fn := fun _ => fun
  | [d1, d2] => { results := [.lit (.bool false)], args := [d1, d2] }
  | _ => none }
def CivilYearsWrongFalsely : Prop := civilYearsRow.holds Try.pinned (OpenSpec.ofChange civilYearsWrong)

/-- 'vernacularlaw26.CivilSeconds': WHATEVER THE INPUT: true; the input reads as it did. -/
def civilSecondsSpec : ChangeSpec := { name := "civilSeconds", fn := fun _ => fun
  | [d1, d2] => { results := [.lit (.bool true)], args := [d1, d2] }
  | _ => none }
def civilSecondsRow : OpenClaim := { program := "ytafoodfbjebdcaa", sum := "fef66e03f395e4570655b6d74be46e1a463615d3a8823037ae6a7e50f28c8678", func := "vernacular/vernacularlaw26.CivilSeconds", spec := "civilSeconds", apart := false }
def CivilSecondsSaid : Prop := civilSecondsRow.holds Try.pinned (OpenSpec.ofChange civilSecondsSpec)

/-- ITS FALSE NEIGHBOUR: 'it returns false'. Refute it at one input. -/
def civilSecondsWrong : ChangeSpec := { name := "civilSeconds", fn := fun _ => fun
  | [d1, d2] => { results := [.lit (.bool false)], args := [d1, d2] }
  | _ => none }
def CivilSecondsWrongFalsely : Prop := civilSecondsRow.holds Try.pinned (OpenSpec.ofChange civilSecondsWrong)

/-- 'vernacularlaw26.CivilThere': WHATEVER THE INPUT: true; the input reads as it did. -/
def civilThereSpec : ChangeSpec := { name := "civilThere", fn := fun _ => fun
  | [d1, d2] => { results := [.lit (.bool true)], args := [d1, d2] }
  | _ => none }
def civilThereRow : OpenClaim := { program := "ytafoodfbjebdcaa", sum := "fef66e03f395e4570655b6d74be46e1a463615d3a8823037ae6a7e50f28c8678", func := "vernacular/vernacularlaw26.CivilThere", spec := "civilThere", apart := false }
def CivilThereSaid : Prop := civilThereRow.holds Try.pinned (OpenSpec.ofChange civilThereSpec)

/-- ITS FALSE NEIGHBOUR: 'it returns false'. Refute it at one input. -/
def civilThereWrong : ChangeSpec := { name := "civilThere", fn := fun _ => fun
  | [d1, d2] => { results := [.lit (.bool false)], args := [d1, d2] }
  | _ => none }
def CivilThereWrongFalsely : Prop := civilThereRow.holds Try.pinned (OpenSpec.ofChange civilThereWrong)

/-- 'vernacularlaw26.CivilBack': WHATEVER THE INPUT: true; the input reads as it did. -/
def civilBackSpec : ChangeSpec := { name := "civilBack", fn := fun _ => fun
  | [d1, d2] => { results := [.lit (.bool true)], args := [d1, d2] }
  | _ => none }
def civilBackRow : OpenClaim := { program := "ytafoodfbjebdcaa", sum := "fef66e03f395e4570655b6d74be46e1a463615d3a8823037ae6a7e50f28c8678", func := "vernacular/vernacularlaw26.CivilBack", spec := "civilBack", apart := false }
def CivilBackSaid : Prop := civilBackRow.holds Try.pinned (OpenSpec.ofChange civilBackSpec)

/-- ITS FALSE NEIGHBOUR: 'it returns false'. Refute it at one input. -/
def civilBackWrong : ChangeSpec := { name := "civilBack", fn := fun _ => fun
  | [d1, d2] => { results := [.lit (.bool false)], args := [d1, d2] }
  | _ => none }
def CivilBackWrongFalsely : Prop := civilBackRow.holds Try.pinned (OpenSpec.ofChange civilBackWrong)

/-- 'vernacularlaw26.CivilAdds': WHATEVER THE INPUT: true; the input reads as it did. -/
def civilAddsSpec : ChangeSpec := { name := "civilAdds", fn := fun _ => fun
  | [d1, d2, d3] => { results := [.lit (.bool true)], args := [d1, d2, d3] }
  | _ => none }
def civilAddsRow : OpenClaim := { program := "ytafoodfbjebdcaa", sum := "fef66e03f395e4570655b6d74be46e1a463615d3a8823037ae6a7e50f28c8678", func := "vernacular/vernacularlaw26.CivilAdds", spec := "civilAdds", apart := false }
def CivilAddsSaid : Prop := civilAddsRow.holds Try.pinned (OpenSpec.ofChange civilAddsSpec)

/-- ITS FALSE NEIGHBOUR: 'it returns false'. Refute it at one input. -/
def civilAddsWrong : ChangeSpec := { name := "civilAdds", fn := fun _ => fun
  | [d1, d2, d3] => { results := [.lit (.bool false)], args := [d1, d2, d3] }
  | _ => none }
def CivilAddsWrongFalsely : Prop := civilAddsRow.holds Try.pinned (OpenSpec.ofChange civilAddsWrong)

/-- 'vernacularlaw26.CivilWeeks': WHATEVER THE INPUT: true; the input reads as it did. -/
def civilWeeksSpec : ChangeSpec := { name := "civilWeeks", fn := fun _ => fun
  | [d1, d2, d3] => { results := [.lit (.bool true)], args := [d1, d2, d3] }
  | _ => none }
def civilWeeksRow : OpenClaim := { program := "ytafoodfbjebdcaa", sum := "fef66e03f395e4570655b6d74be46e1a463615d3a8823037ae6a7e50f28c8678", func := "vernacular/vernacularlaw26.CivilWeeks", spec := "civilWeeks", apart := false }
def CivilWeeksSaid : Prop := civilWeeksRow.holds Try.pinned (OpenSpec.ofChange civilWeeksSpec)

/-- ITS FALSE NEIGHBOUR: 'it returns false'. Refute it at one input. -/
def civilWeeksWrong : ChangeSpec := { name := "civilWeeks", fn := fun _ => fun
  | [d1, d2, d3] => { results := [.lit (.bool false)], args := [d1, d2, d3] }
  | _ => none }
def CivilWeeksWrongFalsely : Prop := civilWeeksRow.holds Try.pinned (OpenSpec.ofChange civilWeeksWrong)

/-- 'vernacularlaw26.CivilWeek': WHATEVER THE INPUT: true; the input reads as it did. -/
def civilWeekSpec : ChangeSpec := { name := "civilWeek", fn := fun _ => fun
  | [d1, d2, d3] => { results := [.lit (.bool true)], args := [d1, d2, d3] }
  | _ => none }
def civilWeekRow : OpenClaim := { program := "ytafoodfbjebdcaa", sum := "fef66e03f395e4570655b6d74be46e1a463615d3a8823037ae6a7e50f28c8678", func := "vernacular/vernacularlaw26.CivilWeek", spec := "civilWeek", apart := false }
def CivilWeekSaid : Prop := civilWeekRow.holds Try.pinned (OpenSpec.ofChange civilWeekSpec)

/-- ITS FALSE NEIGHBOUR: 'it returns false'. Refute it at one input. -/
def civilWeekWrong : ChangeSpec := { name := "civilWeek", fn := fun _ => fun
  | [d1, d2, d3] => { results := [.lit (.bool false)], args := [d1, d2, d3] }
  | _ => none }
def CivilWeekWrongFalsely : Prop := civilWeekRow.holds Try.pinned (OpenSpec.ofChange civilWeekWrong)

/- THE SECOND FORM. 'bulk': how many values and letters a reading holds, each counted each time it is reached (what is shared counts as often as it is met; a slice's spare places count too). A statement '..UptoSaid' is the law's where the arguments, and the package variables that the reading takes, are together of bulk at most 1048576: NARROWER than '..Said'. Prove '..Said' where nothing that the law and all that it calls make is longer than what came in: it says more and counts as full. Else prove '..UptoSaid'. A law counts once. -/
mutual
def uptoBulk {H : Type} : DataW H → Nat
  | .lit (.string bytes) => bytes.length + 1
  | .lit _ => 1
  | .nil => 1
  | .ptr d => uptoBulk d + 1
  | .slice elems spare => uptoBulkAll elems + uptoBulkAll spare + 1
  | .agg parts => uptoBulkAll parts + 1
  | .iface _ d => uptoBulk d + 1
  | .map entries => uptoBulkEntries entries + 1
  | .held _ => 1
def uptoBulkAll {H : Type} : List (DataW H) → Nat
  | [] => 0
  | d :: r => uptoBulk d + uptoBulkAll r
def uptoBulkEntries {H : Type} : List (Lit × DataW H) → Nat
  | [] => 0
  | x :: r => uptoBulkEntry x + uptoBulkEntries r
def uptoBulkEntry {H : Type} : Lit × DataW H → Nat
  | (.string bytes, d) => bytes.length + uptoBulk d + 1
  | (_, d) => uptoBulk d + 1
 end
def uptoSmall : (H : Type) → List (DataW H) → Bool := fun _ ds => decide (uptoBulkAll ds ≤ 1048576)
def OpenSpec.upto (s : _root_.Go.ChangeSpec) : _root_.Go.OpenSpec := { _root_.Go.OpenSpec.ofChange s with cond := some uptoSmall }

/-- 'vernacularlaw26.CivilOf', WHERE WHAT IT READS IS OF BULK AT MOST 1048576: true; the input reads as it did. -/
def civilOfUptoRow : OpenClaim := { program := "ytafoodfbjebdcaa", sum := "fef66e03f395e4570655b6d74be46e1a463615d3a8823037ae6a7e50f28c8678", func := "vernacular/vernacularlaw26.CivilOf", spec := "civilOf", apart := false, narrowed := true }
def CivilOfUptoSaid : Prop := civilOfUptoRow.holds Try.pinned (OpenSpec.upto civilOfSpec)

/-- 'vernacularlaw26.CivilYears', WHERE WHAT IT READS IS OF BULK AT MOST 1048576: true; the input reads as it did. -/
def civilYearsUptoRow : OpenClaim := { program := "ytafoodfbjebdcaa", sum := "fef66e03f395e4570655b6d74be46e1a463615d3a8823037ae6a7e50f28c8678", func := "vernacular/vernacularlaw26.CivilYears", spec := "civilYears", apart := false, narrowed := true }
def CivilYearsUptoSaid : Prop := civilYearsUptoRow.holds Try.pinned (OpenSpec.upto civilYearsSpec)

/-- 'vernacularlaw26.CivilSeconds', WHERE WHAT IT READS IS OF BULK AT MOST 1048576: true; the input reads as it did. -/
def civilSecondsUptoRow : OpenClaim := { program := "ytafoodfbjebdcaa", sum := "fef66e03f395e4570655b6d74be46e1a463615d3a8823037ae6a7e50f28c8678", func := "vernacular/vernacularlaw26.CivilSeconds", spec := "civilSeconds", apart := false, narrowed := true }
def CivilSecondsUptoSaid : Prop := civilSecondsUptoRow.holds Try.pinned (OpenSpec.upto civilSecondsSpec)

/-- 'vernacularlaw26.CivilThere', WHERE WHAT IT READS IS OF BULK AT MOST 1048576: true; the input reads as it did. -/
def civilThereUptoRow : OpenClaim := { program := "ytafoodfbjebdcaa", sum := "fef66e03f395e4570655b6d74be46e1a463615d3a8823037ae6a7e50f28c8678", func := "vernacular/vernacularlaw26.CivilThere", spec := "civilThere", apart := false, narrowed := true }
def CivilThereUptoSaid : Prop := civilThereUptoRow.holds Try.pinned (OpenSpec.upto civilThereSpec)

/-- 'vernacularlaw26.CivilBack', WHERE WHAT IT READS IS OF BULK AT MOST 1048576: true; the input reads as it did. -/
def civilBackUptoRow : OpenClaim := { program := "ytafoodfbjebdcaa", sum := "fef66e03f395e4570655b6d74be46e1a463615d3a8823037ae6a7e50f28c8678", func := "vernacular/vernacularlaw26.CivilBack", spec := "civilBack", apart := false, narrowed := true }
def CivilBackUptoSaid : Prop := civilBackUptoRow.holds Try.pinned (OpenSpec.upto civilBackSpec)

/-- 'vernacularlaw26.CivilAdds', WHERE WHAT IT READS IS OF BULK AT MOST 1048576: true; the input reads as it did. -/
def civilAddsUptoRow : OpenClaim := { program := "ytafoodfbjebdcaa", sum := "fef66e03f395e4570655b6d74be46e1a463615d3a8823037ae6a7e50f28c8678", func := "vernacular/vernacularlaw26.CivilAdds", spec := "civilAdds", apart := false, narrowed := true }
def CivilAddsUptoSaid : Prop := civilAddsUptoRow.holds Try.pinned (OpenSpec.upto civilAddsSpec)

/-- 'vernacularlaw26.CivilWeeks', WHERE WHAT IT READS IS OF BULK AT MOST 1048576: true; the input reads as it did. -/
def civilWeeksUptoRow : OpenClaim := { program := "ytafoodfbjebdcaa", sum := "fef66e03f395e4570655b6d74be46e1a463615d3a8823037ae6a7e50f28c8678", func := "vernacular/vernacularlaw26.CivilWeeks", spec := "civilWeeks", apart := false, narrowed := true }
def CivilWeeksUptoSaid : Prop := civilWeeksUptoRow.holds Try.pinned (OpenSpec.upto civilWeeksSpec)

/-- 'vernacularlaw26.CivilWeek', WHERE WHAT IT READS IS OF BULK AT MOST 1048576: true; the input reads as it did. -/
def civilWeekUptoRow : OpenClaim := { program := "ytafoodfbjebdcaa", sum := "fef66e03f395e4570655b6d74be46e1a463615d3a8823037ae6a7e50f28c8678", func := "vernacular/vernacularlaw26.CivilWeek", spec := "civilWeek", apart := false, narrowed := true }
def CivilWeekUptoSaid : Prop := civilWeekUptoRow.holds Try.pinned (OpenSpec.upto civilWeekSpec)

end Rows
end Go.Proofs.Ytafoodfbjebdcaa
