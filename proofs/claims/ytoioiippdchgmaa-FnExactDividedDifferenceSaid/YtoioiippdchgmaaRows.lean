/-
  No cell of these rows narrows 'for every input' (looked for: loops, veiled, ifaces, maps, wideKeys, modest, calm, conditions, laid).
  DERIVED. THE GIVEN ROWS OF THIS SEAT. 4 by the template 'for every input the law returns true; each argument reads behind the call as it read before'; 0 by the template 'total and deterministic' (their statements: YtoioiippdchgmaaTotals.lean).
  GIVEN WITH THE SEED: the statements are not yours to turn. If you find one false, say at which input.
  Laid BY PROGRAM, IN A SANDBOX (cutbox-rows.mjs): the forced cells as the released guide's own fill.sh prints them over the translation b39ada7fccef3697… (all of the seat's roots in one cut). By AI agents, Wed Nov 11 2026. No macro, syntax, notation, axiom, sorry.
-/
import Derived.Test.YtoioiippdchgmaaChecked
import GoSem.Claim
import GoSem.ClaimJoined
import GoSem.ClaimMapViews
import Derived.JoinedTies
import Derived.KernelRfl
namespace Go.Proofs.Ytoioiippdchgmaa
/- THE CELL 'sum', in the pinned program and in every row, IS THE sha256 OF THE DUMP (.gsa) THAT YtoioiippdchgmaaProg.lean LOADS. Nothing in Lean hashes anything: it is a label: what it is worth is what the hold of that sum in a sandbox is worth. -/
noncomputable def Try.pinned : Pinned := { name := "ytoioiippdchgmaa", sum := "b39ada7fccef3697f9a6c198328bb0b389f47a87f4c2509c5ead52aac80e34dc", checked := Try.checked }
namespace Rows
def none {H : Type} : Left H := { results := [], args := [] }

/-- 'laws.FnExactAddPolys': WHATEVER THE INPUT: true; the input reads as it did. -/
def fnExactAddPolysSpec : ChangeSpec := { name := "fnExactAddPolys", fn := fun _ => fun
  | [d1, d2, d3] => { results := [.lit (.bool true)], args := [d1, d2, d3] }
  | _ => none }
def fnExactAddPolysRow : OpenClaim := { program := "ytoioiippdchgmaa", sum := "b39ada7fccef3697f9a6c198328bb0b389f47a87f4c2509c5ead52aac80e34dc", func := "loop.example/g03113/laws.FnExactAddPolys", spec := "fnExactAddPolys", unfollowed := true, recurses := true, plainKeys := false, apart := false }
def FnExactAddPolysSaid : Prop := fnExactAddPolysRow.holds Try.pinned (OpenSpec.ofChange fnExactAddPolysSpec)

/-- ITS FALSE NEIGHBOUR: 'it returns false'. Refute it at one input. -/
def fnExactAddPolysWrong : ChangeSpec := { name := "fnExactAddPolys", fn := fun _ => fun
  | [d1, d2, d3] => { results := [.lit (.bool false)], args := [d1, d2, d3] }
  | _ => none }
def FnExactAddPolysWrongFalsely : Prop := fnExactAddPolysRow.holds Try.pinned (OpenSpec.ofChange fnExactAddPolysWrong)

/-- 'laws.FnExactMulPolys': WHATEVER THE INPUT: true; the input reads as it did. -/
def fnExactMulPolysSpec : ChangeSpec := { name := "fnExactMulPolys", fn := fun _ => fun
  | [d1, d2] => { results := [.lit (.bool true)], args := [d1, d2] }
  | _ => none }
def fnExactMulPolysRow : OpenClaim := { program := "ytoioiippdchgmaa", sum := "b39ada7fccef3697f9a6c198328bb0b389f47a87f4c2509c5ead52aac80e34dc", func := "loop.example/g03113/laws.FnExactMulPolys", spec := "fnExactMulPolys", unfollowed := true, recurses := true, plainKeys := false, apart := false }
def FnExactMulPolysSaid : Prop := fnExactMulPolysRow.holds Try.pinned (OpenSpec.ofChange fnExactMulPolysSpec)

/-- ITS FALSE NEIGHBOUR: 'it returns false'. Refute it at one input. -/
def fnExactMulPolysWrong : ChangeSpec := { name := "fnExactMulPolys", fn := fun _ => fun
  | [d1, d2] => { results := [.lit (.bool false)], args := [d1, d2] }
  | _ => none }
def FnExactMulPolysWrongFalsely : Prop := fnExactMulPolysRow.holds Try.pinned (OpenSpec.ofChange fnExactMulPolysWrong)

/-- 'laws.FnExactSwapVariables': WHATEVER THE INPUT: true; the input reads as it did. -/
def fnExactSwapVariablesSpec : ChangeSpec := { name := "fnExactSwapVariables", fn := fun _ => fun
  | [d1, d2] => { results := [.lit (.bool true)], args := [d1, d2] }
  | _ => none }
def fnExactSwapVariablesRow : OpenClaim := { program := "ytoioiippdchgmaa", sum := "b39ada7fccef3697f9a6c198328bb0b389f47a87f4c2509c5ead52aac80e34dc", func := "loop.example/g03113/laws.FnExactSwapVariables", spec := "fnExactSwapVariables", unfollowed := true, recurses := true, plainKeys := false, apart := false }
def FnExactSwapVariablesSaid : Prop := fnExactSwapVariablesRow.holds Try.pinned (OpenSpec.ofChange fnExactSwapVariablesSpec)

/-- ITS FALSE NEIGHBOUR: 'it returns false'. Refute it at one input. -/
def fnExactSwapVariablesWrong : ChangeSpec := { name := "fnExactSwapVariables", fn := fun _ => fun
  | [d1, d2] => { results := [.lit (.bool false)], args := [d1, d2] }
  | _ => none }
def FnExactSwapVariablesWrongFalsely : Prop := fnExactSwapVariablesRow.holds Try.pinned (OpenSpec.ofChange fnExactSwapVariablesWrong)

/-- 'laws.FnExactDividedDifference': WHATEVER THE INPUT: true; the input reads as it did. -/
def fnExactDividedDifferenceSpec : ChangeSpec := { name := "fnExactDividedDifference", fn := fun _ => fun
  | [d1, d2] => { results := [.lit (.bool true)], args := [d1, d2] }
  | _ => none }
def fnExactDividedDifferenceRow : OpenClaim := { program := "ytoioiippdchgmaa", sum := "b39ada7fccef3697f9a6c198328bb0b389f47a87f4c2509c5ead52aac80e34dc", func := "loop.example/g03113/laws.FnExactDividedDifference", spec := "fnExactDividedDifference", unfollowed := true, recurses := true, plainKeys := false, apart := false }
def FnExactDividedDifferenceSaid : Prop := fnExactDividedDifferenceRow.holds Try.pinned (OpenSpec.ofChange fnExactDividedDifferenceSpec)

/-- ITS FALSE NEIGHBOUR: 'it returns false'. Refute it at one input. -/
def fnExactDividedDifferenceWrong : ChangeSpec := { name := "fnExactDividedDifference", fn := fun _ => fun
  | [d1, d2] => { results := [.lit (.bool false)], args := [d1, d2] }
  | _ => none }
def FnExactDividedDifferenceWrongFalsely : Prop := fnExactDividedDifferenceRow.holds Try.pinned (OpenSpec.ofChange fnExactDividedDifferenceWrong)

/- THE SECOND FORM. 'bulk': how many values and letters a reading holds, each counted each time it is reached (what is shared counts as often as it is met; a slice's spare places count too). A statement '..UptoSaid' is the law's where the arguments, and the package variables that the reading takes, are together of bulk at most 1048576: NARROWER than '..Said'. Prove '..Said' where nothing that the law and all that it calls make is longer than what came in: it says more and counts as full. Else prove '..UptoSaid'. A law counts once. -/
mutual
def uptoBulk {H : Type} : DataW H → Nat
  | .lit (.string bytes) => bytes.length + 1
  | .lit _ => 1
  | .nil => 1
  | .ptr d => uptoBulk d + 1
  | .slice elems spare => uptoBulkAll elems + uptoBulkAll spare + 1
  | .agg parts => uptoBulkAll parts + 1
  | .iface _ d => uptoBulk d + 1
  | .map entries => uptoBulkEntries entries + 1
  | .held _ => 1
def uptoBulkAll {H : Type} : List (DataW H) → Nat
  | [] => 0
  | d :: r => uptoBulk d + uptoBulkAll r
def uptoBulkEntries {H : Type} : List (Lit × DataW H) → Nat
  | [] => 0
  | x :: r => uptoBulkEntry x + uptoBulkEntries r
def uptoBulkEntry {H : Type} : Lit × DataW H → Nat
  | (.string bytes, d) => bytes.length + uptoBulk d + 1
  | (_, d) => uptoBulk d + 1
 end
def uptoSmall : (H : Type) → List (DataW H) → Bool := fun _ ds => decide (uptoBulkAll ds ≤ 1048576)
def OpenSpec.upto (s : _root_.Go.ChangeSpec) : _root_.Go.OpenSpec := { _root_.Go.OpenSpec.ofChange s with cond := some uptoSmall }

/-- 'laws.FnExactAddPolys', WHERE WHAT IT READS IS OF BULK AT MOST 1048576: true; the input reads as it did. -/
def fnExactAddPolysUptoRow : OpenClaim := { program := "ytoioiippdchgmaa", sum := "b39ada7fccef3697f9a6c198328bb0b389f47a87f4c2509c5ead52aac80e34dc", func := "loop.example/g03113/laws.FnExactAddPolys", spec := "fnExactAddPolys", unfollowed := true, recurses := true, plainKeys := false, apart := false, narrowed := true }
def FnExactAddPolysUptoSaid : Prop := fnExactAddPolysUptoRow.holds Try.pinned (OpenSpec.upto fnExactAddPolysSpec)

/-- 'laws.FnExactMulPolys', WHERE WHAT IT READS IS OF BULK AT MOST 1048576: true; the input reads as it did. -/
def fnExactMulPolysUptoRow : OpenClaim := { program := "ytoioiippdchgmaa", sum := "b39ada7fccef3697f9a6c198328bb0b389f47a87f4c2509c5ead52aac80e34dc", func := "loop.example/g03113/laws.FnExactMulPolys", spec := "fnExactMulPolys", unfollowed := true, recurses := true, plainKeys := false, apart := false, narrowed := true }
def FnExactMulPolysUptoSaid : Prop := fnExactMulPolysUptoRow.holds Try.pinned (OpenSpec.upto fnExactMulPolysSpec)

/-- 'laws.FnExactSwapVariables', WHERE WHAT IT READS IS OF BULK AT MOST 1048576: true; the input reads as it did. -/
def fnExactSwapVariablesUptoRow : OpenClaim := { program := "ytoioiippdchgmaa", sum := "b39ada7fccef3697f9a6c198328bb0b389f47a87f4c2509c5ead52aac80e34dc", func := "loop.example/g03113/laws.FnExactSwapVariables", spec := "fnExactSwapVariables", unfollowed := true, recurses := true, plainKeys := false, apart := false, narrowed := true }
def FnExactSwapVariablesUptoSaid : Prop := fnExactSwapVariablesUptoRow.holds Try.pinned (OpenSpec.upto fnExactSwapVariablesSpec)

/-- 'laws.FnExactDividedDifference', WHERE WHAT IT READS IS OF BULK AT MOST 1048576: true; the input reads as it did. -/
def fnExactDividedDifferenceUptoRow : OpenClaim := { program := "ytoioiippdchgmaa", sum := "b39ada7fccef3697f9a6c198328bb0b389f47a87f4c2509c5ead52aac80e34dc", func := "loop.example/g03113/laws.FnExactDividedDifference", spec := "fnExactDividedDifference", unfollowed := true, recurses := true, plainKeys := false, apart := false, narrowed := true }
def FnExactDividedDifferenceUptoSaid : Prop := fnExactDividedDifferenceUptoRow.holds Try.pinned (OpenSpec.upto fnExactDividedDifferenceSpec)

end Rows
end Go.Proofs.Ytoioiippdchgmaa
