/-
  No cell of these rows narrows 'for every input' (looked for: loops, veiled, ifaces, maps, wideKeys, modest, calm, conditions, laid).
  DERIVED. THE GIVEN ROWS OF THIS SEAT. 8 by the template 'for every input the law returns true; each argument reads behind the call as it read before'; 0 by the template 'total and deterministic' (their statements: YthgigbihpcelpaaTotals.lean).
  GIVEN WITH THE SEED: the statements are not yours to turn. If you find one false, say at which input.
  Laid BY PROGRAM, IN A SANDBOX (cutbox-rows.mjs): the forced cells as the released guide's own fill.sh prints them over the translation 72ffeed5645d603d… (all of the seat's roots in one cut). By AI agents, Wed Nov 11 2026. No macro, syntax, notation, axiom, sorry.
-/
import Derived.Test.YthgigbihpcelpaaChecked
import GoSem.Claim
import GoSem.ClaimJoined
import GoSem.ClaimMapViews
import Derived.JoinedTies
import Derived.KernelRfl
namespace Go.Proofs.Ythgigbihpcelpaa
/- THE CELL 'sum', in the pinned program and in every row, IS THE sha256 OF THE DUMP (.gsa) THAT YthgigbihpcelpaaProg.lean LOADS. Nothing in Lean hashes anything: it is a label: what it is worth is what the hold of that sum in a sandbox is worth. -/
noncomputable def Try.pinned : Pinned := { name := "ythgigbihpcelpaa", sum := "72ffeed5645d603ded14b92220a762bf7fc9e4d132dd427d68bb662d2bf4f8fc", checked := Try.checked }
namespace Rows
def none {H : Type} : Left H := { results := [], args := [] }

/-- 'laws.FnExactCoefficientOf': WHATEVER THE INPUT: true; the input reads as it did. -/
def fnExactCoefficientOfSpec : ChangeSpec := { name := "fnExactCoefficientOf", fn := fun _ => fun
  | [d1, d2] => { results := [.lit (.bool true)], args := [d1, d2] }
  | _ => none }
def fnExactCoefficientOfRow : OpenClaim := { program := "ythgigbihpcelpaa", sum := "72ffeed5645d603ded14b92220a762bf7fc9e4d132dd427d68bb662d2bf4f8fc", func := "loop.example/g03113/laws.FnExactCoefficientOf", spec := "fnExactCoefficientOf", apart := false }
def FnExactCoefficientOfSaid : Prop := fnExactCoefficientOfRow.holds Try.pinned (OpenSpec.ofChange fnExactCoefficientOfSpec)

/-- ITS FALSE NEIGHBOUR: 'it returns false'. Refute it at one input. -/
def fnExactCoefficientOfWrong : ChangeSpec := { name := "fnExactCoefficientOf", fn := fun _ => fun
  | [d1, d2] => { results := [.lit (.bool false)], args := [d1, d2] }
  | _ => none }
def FnExactCoefficientOfWrongFalsely : Prop := fnExactCoefficientOfRow.holds Try.pinned (OpenSpec.ofChange fnExactCoefficientOfWrong)

/-- 'laws.FnExactPolyOk': WHATEVER THE INPUT: true; the input reads as it did. -/
def fnExactPolyOkSpec : ChangeSpec := { name := "fnExactPolyOk", fn := fun _ => fun
  | [d] => { results := [.lit (.bool true)], args := [d] }
  | _ => none }
def fnExactPolyOkRow : OpenClaim := { program := "ythgigbihpcelpaa", sum := "72ffeed5645d603ded14b92220a762bf7fc9e4d132dd427d68bb662d2bf4f8fc", func := "loop.example/g03113/laws.FnExactPolyOk", spec := "fnExactPolyOk", apart := false }
def FnExactPolyOkSaid : Prop := fnExactPolyOkRow.holds Try.pinned (OpenSpec.ofChange fnExactPolyOkSpec)

/-- ITS FALSE NEIGHBOUR: 'it returns false'. Refute it at one input. -/
def fnExactPolyOkWrong : ChangeSpec := { name := "fnExactPolyOk", fn := fun _ => fun
  | [d] => { results := [.lit (.bool false)], args := [d] }
  | _ => none }
def FnExactPolyOkWrongFalsely : Prop := fnExactPolyOkRow.holds Try.pinned (OpenSpec.ofChange fnExactPolyOkWrong)

/-- 'laws.FnExactMonomialPoly': WHATEVER THE INPUT: true; the input reads as it did. -/
def fnExactMonomialPolySpec : ChangeSpec := { name := "fnExactMonomialPoly", fn := fun _ => fun
  | [d] => { results := [.lit (.bool true)], args := [d] }
  | _ => none }
def fnExactMonomialPolyRow : OpenClaim := { program := "ythgigbihpcelpaa", sum := "72ffeed5645d603ded14b92220a762bf7fc9e4d132dd427d68bb662d2bf4f8fc", func := "loop.example/g03113/laws.FnExactMonomialPoly", spec := "fnExactMonomialPoly", apart := false }
def FnExactMonomialPolySaid : Prop := fnExactMonomialPolyRow.holds Try.pinned (OpenSpec.ofChange fnExactMonomialPolySpec)

/-- ITS FALSE NEIGHBOUR: 'it returns false'. Refute it at one input. -/
def fnExactMonomialPolyWrong : ChangeSpec := { name := "fnExactMonomialPoly", fn := fun _ => fun
  | [d] => { results := [.lit (.bool false)], args := [d] }
  | _ => none }
def FnExactMonomialPolyWrongFalsely : Prop := fnExactMonomialPolyRow.holds Try.pinned (OpenSpec.ofChange fnExactMonomialPolyWrong)

/-- 'laws.FnExactEvaluatePoly': WHATEVER THE INPUT: true; the input reads as it did. -/
def fnExactEvaluatePolySpec : ChangeSpec := { name := "fnExactEvaluatePoly", fn := fun _ => fun
  | [d1, d2] => { results := [.lit (.bool true)], args := [d1, d2] }
  | _ => none }
def fnExactEvaluatePolyRow : OpenClaim := { program := "ythgigbihpcelpaa", sum := "72ffeed5645d603ded14b92220a762bf7fc9e4d132dd427d68bb662d2bf4f8fc", func := "loop.example/g03113/laws.FnExactEvaluatePoly", spec := "fnExactEvaluatePoly", apart := false }
def FnExactEvaluatePolySaid : Prop := fnExactEvaluatePolyRow.holds Try.pinned (OpenSpec.ofChange fnExactEvaluatePolySpec)

/-- ITS FALSE NEIGHBOUR: 'it returns false'. Refute it at one input. -/
def fnExactEvaluatePolyWrong : ChangeSpec := { name := "fnExactEvaluatePoly", fn := fun _ => fun
  | [d1, d2] => { results := [.lit (.bool false)], args := [d1, d2] }
  | _ => none }
def FnExactEvaluatePolyWrongFalsely : Prop := fnExactEvaluatePolyRow.holds Try.pinned (OpenSpec.ofChange fnExactEvaluatePolyWrong)

/-- 'laws.FnExactDegreeOf': WHATEVER THE INPUT: true; the input reads as it did. -/
def fnExactDegreeOfSpec : ChangeSpec := { name := "fnExactDegreeOf", fn := fun _ => fun
  | [d] => { results := [.lit (.bool true)], args := [d] }
  | _ => none }
def fnExactDegreeOfRow : OpenClaim := { program := "ythgigbihpcelpaa", sum := "72ffeed5645d603ded14b92220a762bf7fc9e4d132dd427d68bb662d2bf4f8fc", func := "loop.example/g03113/laws.FnExactDegreeOf", spec := "fnExactDegreeOf", apart := false }
def FnExactDegreeOfSaid : Prop := fnExactDegreeOfRow.holds Try.pinned (OpenSpec.ofChange fnExactDegreeOfSpec)

/-- ITS FALSE NEIGHBOUR: 'it returns false'. Refute it at one input. -/
def fnExactDegreeOfWrong : ChangeSpec := { name := "fnExactDegreeOf", fn := fun _ => fun
  | [d] => { results := [.lit (.bool false)], args := [d] }
  | _ => none }
def FnExactDegreeOfWrongFalsely : Prop := fnExactDegreeOfRow.holds Try.pinned (OpenSpec.ofChange fnExactDegreeOfWrong)

/-- 'laws.FnExactPartOfDegree': WHATEVER THE INPUT: true; the input reads as it did. -/
def fnExactPartOfDegreeSpec : ChangeSpec := { name := "fnExactPartOfDegree", fn := fun _ => fun
  | [d1, d2] => { results := [.lit (.bool true)], args := [d1, d2] }
  | _ => none }
def fnExactPartOfDegreeRow : OpenClaim := { program := "ythgigbihpcelpaa", sum := "72ffeed5645d603ded14b92220a762bf7fc9e4d132dd427d68bb662d2bf4f8fc", func := "loop.example/g03113/laws.FnExactPartOfDegree", spec := "fnExactPartOfDegree", apart := false }
def FnExactPartOfDegreeSaid : Prop := fnExactPartOfDegreeRow.holds Try.pinned (OpenSpec.ofChange fnExactPartOfDegreeSpec)

/-- ITS FALSE NEIGHBOUR: 'it returns false'. Refute it at one input. -/
def fnExactPartOfDegreeWrong : ChangeSpec := { name := "fnExactPartOfDegree", fn := fun _ => fun
  | [d1, d2] => { results := [.lit (.bool false)], args := [d1, d2] }
  | _ => none }
def FnExactPartOfDegreeWrongFalsely : Prop := fnExactPartOfDegreeRow.holds Try.pinned (OpenSpec.ofChange fnExactPartOfDegreeWrong)

/-- 'laws.FnExactFormatInts': WHATEVER THE INPUT: true; the input reads as it did. -/
def fnExactFormatIntsSpec : ChangeSpec := { name := "fnExactFormatInts", fn := fun _ => fun
  | [d] => { results := [.lit (.bool true)], args := [d] }
  | _ => none }
def fnExactFormatIntsRow : OpenClaim := { program := "ythgigbihpcelpaa", sum := "72ffeed5645d603ded14b92220a762bf7fc9e4d132dd427d68bb662d2bf4f8fc", func := "loop.example/g03113/laws.FnExactFormatInts", spec := "fnExactFormatInts", inPlace := ["internal/abi.NoEscape", "internal/bytealg.MakeNoZero"], recurses := true, apart := false }
def FnExactFormatIntsSaid : Prop := fnExactFormatIntsRow.holds Try.pinned (OpenSpec.ofChange fnExactFormatIntsSpec)

/-- ITS FALSE NEIGHBOUR: 'it returns false'. Refute it at one input. -/
def fnExactFormatIntsWrong : ChangeSpec := { name := "fnExactFormatInts", fn := fun _ => fun
  | [d] => { results := [.lit (.bool false)], args := [d] }
  | _ => none }
def FnExactFormatIntsWrongFalsely : Prop := fnExactFormatIntsRow.holds Try.pinned (OpenSpec.ofChange fnExactFormatIntsWrong)

/-- 'laws.FnExactFormatPoly': WHATEVER THE INPUT: true; the input reads as it did. -/
def fnExactFormatPolySpec : ChangeSpec := { name := "fnExactFormatPoly", fn := fun _ => fun
  | [d] => { results := [.lit (.bool true)], args := [d] }
  | _ => none }
def fnExactFormatPolyRow : OpenClaim := { program := "ythgigbihpcelpaa", sum := "72ffeed5645d603ded14b92220a762bf7fc9e4d132dd427d68bb662d2bf4f8fc", func := "loop.example/g03113/laws.FnExactFormatPoly", spec := "fnExactFormatPoly", inPlace := ["internal/abi.NoEscape", "internal/bytealg.MakeNoZero"], recurses := true, apart := false }
def FnExactFormatPolySaid : Prop := fnExactFormatPolyRow.holds Try.pinned (OpenSpec.ofChange fnExactFormatPolySpec)

/-- ITS FALSE NEIGHBOUR: 'it returns false'. Refute it at one input. -/
def fnExactFormatPolyWrong : ChangeSpec := { name := "fnExactFormatPoly", fn := fun _ => fun
  | [d] => { results := [.lit (.bool false)], args := [d] }
  | _ => none }
def FnExactFormatPolyWrongFalsely : Prop := fnExactFormatPolyRow.holds Try.pinned (OpenSpec.ofChange fnExactFormatPolyWrong)

/- THE SECOND FORM. 'bulk': how many values and letters a reading holds, each counted each time it is reached (what is shared counts as often as it is met; a slice's spare places count too). A statement '..UptoSaid' is the law's where the arguments, and the package variables that the reading takes, are together of bulk at most 1048576: NARROWER than '..Said'. Prove '..Said' where nothing that the law and all that it calls make is longer than what came in: it says more and counts as full. Else prove '..UptoSaid'. A law counts once. -/
mutual
def uptoBulk {H : Type} : DataW H → Nat
  | .lit (.string bytes) => bytes.length + 1
  | .lit _ => 1
  | .nil => 1
  | .ptr d => uptoBulk d + 1
  | .slice elems spare => uptoBulkAll elems + uptoBulkAll spare + 1
  | .agg parts => uptoBulkAll parts + 1
  | .iface _ d => uptoBulk d + 1
  | .map entries => uptoBulkEntries entries + 1
  | .held _ => 1
def uptoBulkAll {H : Type} : List (DataW H) → Nat
  | [] => 0
  | d :: r => uptoBulk d + uptoBulkAll r
def uptoBulkEntries {H : Type} : List (Lit × DataW H) → Nat
  | [] => 0
  | x :: r => uptoBulkEntry x + uptoBulkEntries r
def uptoBulkEntry {H : Type} : Lit × DataW H → Nat
  | (.string bytes, d) => bytes.length + uptoBulk d + 1
  | (_, d) => uptoBulk d + 1
 end
def uptoSmall : (H : Type) → List (DataW H) → Bool := fun _ ds => decide (uptoBulkAll ds ≤ 1048576)
def OpenSpec.upto (s : _root_.Go.ChangeSpec) : _root_.Go.OpenSpec := { _root_.Go.OpenSpec.ofChange s with cond := some uptoSmall }

/-- 'laws.FnExactCoefficientOf', WHERE WHAT IT READS IS OF BULK AT MOST 1048576: true; the input reads as it did. -/
def fnExactCoefficientOfUptoRow : OpenClaim := { program := "ythgigbihpcelpaa", sum := "72ffeed5645d603ded14b92220a762bf7fc9e4d132dd427d68bb662d2bf4f8fc", func := "loop.example/g03113/laws.FnExactCoefficientOf", spec := "fnExactCoefficientOf", apart := false, narrowed := true }
def FnExactCoefficientOfUptoSaid : Prop := fnExactCoefficientOfUptoRow.holds Try.pinned (OpenSpec.upto fnExactCoefficientOfSpec)

/-- 'laws.FnExactPolyOk', WHERE WHAT IT READS IS OF BULK AT MOST 1048576: true; the input reads as it did. -/
def fnExactPolyOkUptoRow : OpenClaim := { program := "ythgigbihpcelpaa", sum := "72ffeed5645d603ded14b92220a762bf7fc9e4d132dd427d68bb662d2bf4f8fc", func := "loop.example/g03113/laws.FnExactPolyOk", spec := "fnExactPolyOk", apart := false, narrowed := true }
def FnExactPolyOkUptoSaid : Prop := fnExactPolyOkUptoRow.holds Try.pinned (OpenSpec.upto fnExactPolyOkSpec)

/-- 'laws.FnExactMonomialPoly', WHERE WHAT IT READS IS OF BULK AT MOST 1048576: true; the input reads as it did. -/
def fnExactMonomialPolyUptoRow : OpenClaim := { program := "ythgigbihpcelpaa", sum := "72ffeed5645d603ded14b92220a762bf7fc9e4d132dd427d68bb662d2bf4f8fc", func := "loop.example/g03113/laws.FnExactMonomialPoly", spec := "fnExactMonomialPoly", apart := false, narrowed := true }
def FnExactMonomialPolyUptoSaid : Prop := fnExactMonomialPolyUptoRow.holds Try.pinned (OpenSpec.upto fnExactMonomialPolySpec)

/-- 'laws.FnExactEvaluatePoly', WHERE WHAT IT READS IS OF BULK AT MOST 1048576: true; the input reads as it did. -/
def fnExactEvaluatePolyUptoRow : OpenClaim := { program := "ythgigbihpcelpaa", sum := "72ffeed5645d603ded14b92220a762bf7fc9e4d132dd427d68bb662d2bf4f8fc", func := "loop.example/g03113/laws.FnExactEvaluatePoly", spec := "fnExactEvaluatePoly", apart := false, narrowed := true }
def FnExactEvaluatePolyUptoSaid : Prop := fnExactEvaluatePolyUptoRow.holds Try.pinned (OpenSpec.upto fnExactEvaluatePolySpec)

/-- 'laws.FnExactDegreeOf', WHERE WHAT IT READS IS OF BULK AT MOST 1048576: true; the input reads as it did. -/
def fnExactDegreeOfUptoRow : OpenClaim := { program := "ythgigbihpcelpaa", sum := "72ffeed5645d603ded14b92220a762bf7fc9e4d132dd427d68bb662d2bf4f8fc", func := "loop.example/g03113/laws.FnExactDegreeOf", spec := "fnExactDegreeOf", apart := false, narrowed := true }
def FnExactDegreeOfUptoSaid : Prop := fnExactDegreeOfUptoRow.holds Try.pinned (OpenSpec.upto fnExactDegreeOfSpec)

/-- 'laws.FnExactPartOfDegree', WHERE WHAT IT READS IS OF BULK AT MOST 1048576: true; the input reads as it did. -/
def fnExactPartOfDegreeUptoRow : OpenClaim := { program := "ythgigbihpcelpaa", sum := "72ffeed5645d603ded14b92220a762bf7fc9e4d132dd427d68bb662d2bf4f8fc", func := "loop.example/g03113/laws.FnExactPartOfDegree", spec := "fnExactPartOfDegree", apart := false, narrowed := true }
def FnExactPartOfDegreeUptoSaid : Prop := fnExactPartOfDegreeUptoRow.holds Try.pinned (OpenSpec.upto fnExactPartOfDegreeSpec)

/-- 'laws.FnExactFormatInts', WHERE WHAT IT READS IS OF BULK AT MOST 1048576: true; the input reads as it did. -/
def fnExactFormatIntsUptoRow : OpenClaim := { program := "ythgigbihpcelpaa", sum := "72ffeed5645d603ded14b92220a762bf7fc9e4d132dd427d68bb662d2bf4f8fc", func := "loop.example/g03113/laws.FnExactFormatInts", spec := "fnExactFormatInts", inPlace := ["internal/abi.NoEscape", "internal/bytealg.MakeNoZero"], recurses := true, apart := false, narrowed := true }
def FnExactFormatIntsUptoSaid : Prop := fnExactFormatIntsUptoRow.holds Try.pinned (OpenSpec.upto fnExactFormatIntsSpec)

/-- 'laws.FnExactFormatPoly', WHERE WHAT IT READS IS OF BULK AT MOST 1048576: true; the input reads as it did. -/
def fnExactFormatPolyUptoRow : OpenClaim := { program := "ythgigbihpcelpaa", sum := "72ffeed5645d603ded14b92220a762bf7fc9e4d132dd427d68bb662d2bf4f8fc", func := "loop.example/g03113/laws.FnExactFormatPoly", spec := "fnExactFormatPoly", inPlace := ["internal/abi.NoEscape", "internal/bytealg.MakeNoZero"], recurses := true, apart := false, narrowed := true }
def FnExactFormatPolyUptoSaid : Prop := fnExactFormatPolyUptoRow.holds Try.pinned (OpenSpec.upto fnExactFormatPolySpec)

end Rows
end Go.Proofs.Ythgigbihpcelpaa
