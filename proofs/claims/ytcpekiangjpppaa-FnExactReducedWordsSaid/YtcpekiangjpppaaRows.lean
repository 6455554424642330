/-
  No cell of these rows narrows 'for every input' (looked for: loops, veiled, ifaces, maps, wideKeys, modest, calm, conditions, laid).
  DERIVED. THE GIVEN ROWS OF THIS SEAT. 4 by the template 'for every input the law returns true; each argument reads behind the call as it read before'; 0 by the template 'total and deterministic' (their statements: YtcpekiangjpppaaTotals.lean).
  GIVEN WITH THE SEED: the statements are not yours to turn. If you find one false, say at which input.
  Laid BY PROGRAM, IN A SANDBOX (cutbox-rows.mjs): the forced cells as the released guide's own fill.sh prints them over the translation 2d421210e688fc68… (all of the seat's roots in one cut). By AI agents, Wed Nov 11 2026. No macro, syntax, notation, axiom, sorry.
-/
import Derived.Test.YtcpekiangjpppaaChecked
import GoSem.Claim
import GoSem.ClaimJoined
import GoSem.ClaimMapViews
import Derived.JoinedTies
import Derived.KernelRfl
namespace Go.Proofs.Ytcpekiangjpppaa
/- THE CELL 'sum', in the pinned program and in every row, IS THE sha256 OF THE DUMP (.gsa) THAT YtcpekiangjpppaaProg.lean LOADS. Nothing in Lean hashes anything: it is a label: what it is worth is what the hold of that sum in a sandbox is worth. -/
noncomputable def Try.pinned : Pinned := { name := "ytcpekiangjpppaa", sum := "2d421210e688fc685608153a65aeb131b1bb83c65543cc2b6daa7e4f689b004f", checked := Try.checked }
namespace Rows
def none {H : Type} : Left H := { results := [], args := [] }

/-- 'laws.FnExactEssentialOf': WHATEVER THE INPUT: true; the input reads as it did. -/
def fnExactEssentialOfSpec : ChangeSpec := { name := "fnExactEssentialOf", fn := fun _ => fun
  | [d] => { results := [.lit (.bool true)], args := [d] }
  | _ => none }
def fnExactEssentialOfRow : OpenClaim := { program := "ytcpekiangjpppaa", sum := "2d421210e688fc685608153a65aeb131b1bb83c65543cc2b6daa7e4f689b004f", func := "loop.example/g03113/laws.FnExactEssentialOf", spec := "fnExactEssentialOf", apart := false }
def FnExactEssentialOfSaid : Prop := fnExactEssentialOfRow.holds Try.pinned (OpenSpec.ofChange fnExactEssentialOfSpec)

/-- ITS FALSE NEIGHBOUR: 'it returns false'. Refute it at one input. -/
def fnExactEssentialOfWrong : ChangeSpec := { name := "fnExactEssentialOf", fn := fun _ => fun
  | [d] => { results := [.lit (.bool false)], args := [d] }
  | _ => none }
def FnExactEssentialOfWrongFalsely : Prop := fnExactEssentialOfRow.holds Try.pinned (OpenSpec.ofChange fnExactEssentialOfWrong)

/-- 'laws.FnExactCountReduced': WHATEVER THE INPUT: true; the input reads as it did. -/
def fnExactCountReducedSpec : ChangeSpec := { name := "fnExactCountReduced", fn := fun _ => fun
  | [d] => { results := [.lit (.bool true)], args := [d] }
  | _ => none }
def fnExactCountReducedRow : OpenClaim := { program := "ytcpekiangjpppaa", sum := "2d421210e688fc685608153a65aeb131b1bb83c65543cc2b6daa7e4f689b004f", func := "loop.example/g03113/laws.FnExactCountReduced", spec := "fnExactCountReduced", recurses := true, apart := false }
def FnExactCountReducedSaid : Prop := fnExactCountReducedRow.holds Try.pinned (OpenSpec.ofChange fnExactCountReducedSpec)

/-- ITS FALSE NEIGHBOUR: 'it returns false'. Refute it at one input. -/
def fnExactCountReducedWrong : ChangeSpec := { name := "fnExactCountReduced", fn := fun _ => fun
  | [d] => { results := [.lit (.bool false)], args := [d] }
  | _ => none }
def FnExactCountReducedWrongFalsely : Prop := fnExactCountReducedRow.holds Try.pinned (OpenSpec.ofChange fnExactCountReducedWrong)

/-- 'laws.FnExactReducedWords': WHATEVER THE INPUT: true; the input reads as it did. -/
def fnExactReducedWordsSpec : ChangeSpec := { name := "fnExactReducedWords", fn := fun _ => fun
  | [d] => { results := [.lit (.bool true)], args := [d] }
  | _ => none }
def fnExactReducedWordsRow : OpenClaim := { program := "ytcpekiangjpppaa", sum := "2d421210e688fc685608153a65aeb131b1bb83c65543cc2b6daa7e4f689b004f", func := "loop.example/g03113/laws.FnExactReducedWords", spec := "fnExactReducedWords", recurses := true, apart := false }
def FnExactReducedWordsSaid : Prop := fnExactReducedWordsRow.holds Try.pinned (OpenSpec.ofChange fnExactReducedWordsSpec)

/-- ITS FALSE NEIGHBOUR: 'it returns false'. Refute it at one input. -/
def fnExactReducedWordsWrong : ChangeSpec := { name := "fnExactReducedWords", fn := fun _ => fun
  | [d] => { results := [.lit (.bool false)], args := [d] }
  | _ => none }
def FnExactReducedWordsWrongFalsely : Prop := fnExactReducedWordsRow.holds Try.pinned (OpenSpec.ofChange fnExactReducedWordsWrong)

/-- 'laws.FnExactCoversOf': WHATEVER THE INPUT: true; the input reads as it did. -/
def fnExactCoversOfSpec : ChangeSpec := { name := "fnExactCoversOf", fn := fun _ => fun
  | [d] => { results := [.lit (.bool true)], args := [d] }
  | _ => none }
def fnExactCoversOfRow : OpenClaim := { program := "ytcpekiangjpppaa", sum := "2d421210e688fc685608153a65aeb131b1bb83c65543cc2b6daa7e4f689b004f", func := "loop.example/g03113/laws.FnExactCoversOf", spec := "fnExactCoversOf", unfollowed := true, recurses := true, apart := false }
def FnExactCoversOfSaid : Prop := fnExactCoversOfRow.holds Try.pinned (OpenSpec.ofChange fnExactCoversOfSpec)

/-- ITS FALSE NEIGHBOUR: 'it returns false'. Refute it at one input. -/
def fnExactCoversOfWrong : ChangeSpec := { name := "fnExactCoversOf", fn := fun _ => fun
  | [d] => { results := [.lit (.bool false)], args := [d] }
  | _ => none }
def FnExactCoversOfWrongFalsely : Prop := fnExactCoversOfRow.holds Try.pinned (OpenSpec.ofChange fnExactCoversOfWrong)

/- THE SECOND FORM. 'bulk': how many values and letters a reading holds, each counted each time it is reached (what is shared counts as often as it is met; a slice's spare places count too). A statement '..UptoSaid' is the law's where the arguments, and the package variables that the reading takes, are together of bulk at most 1048576: NARROWER than '..Said'. Prove '..Said' where nothing that the law and all that it calls make is longer than what came in: it says more and counts as full. Else prove '..UptoSaid'. A law counts once. -/
mutual
def uptoBulk {H : Type} : DataW H → Nat
  | .lit (.string bytes) => bytes.length + 1
  | .lit _ => 1
  | .nil => 1
  | .ptr d => uptoBulk d + 1
  | .slice elems spare => uptoBulkAll elems + uptoBulkAll spare + 1
  | .agg parts => uptoBulkAll parts + 1
  | .iface _ d => uptoBulk d + 1
  | .map entries => uptoBulkEntries entries + 1
  | .held _ => 1
def uptoBulkAll {H : Type} : List (DataW H) → Nat
  | [] => 0
  | d :: r => uptoBulk d + uptoBulkAll r
def uptoBulkEntries {H : Type} : List (Lit × DataW H) → Nat
  | [] => 0
  | x :: r => uptoBulkEntry x + uptoBulkEntries r
def uptoBulkEntry {H : Type} : Lit × DataW H → Nat
  | (.string bytes, d) => bytes.length + uptoBulk d + 1
  | (_, d) => uptoBulk d + 1
 end
def uptoSmall : (H : Type) → List (DataW H) → Bool := fun _ ds => decide (uptoBulkAll ds ≤ 1048576)
def OpenSpec.upto (s : _root_.Go.ChangeSpec) : _root_.Go.OpenSpec := { _root_.Go.OpenSpec.ofChange s with cond := some uptoSmall }

/-- 'laws.FnExactEssentialOf', WHERE WHAT IT READS IS OF BULK AT MOST 1048576: true; the input reads as it did. -/
def fnExactEssentialOfUptoRow : OpenClaim := { program := "ytcpekiangjpppaa", sum := "2d421210e688fc685608153a65aeb131b1bb83c65543cc2b6daa7e4f689b004f", func := "loop.example/g03113/laws.FnExactEssentialOf", spec := "fnExactEssentialOf", apart := false, narrowed := true }
def FnExactEssentialOfUptoSaid : Prop := fnExactEssentialOfUptoRow.holds Try.pinned (OpenSpec.upto fnExactEssentialOfSpec)

/-- 'laws.FnExactCountReduced', WHERE WHAT IT READS IS OF BULK AT MOST 1048576: true; the input reads as it did. -/
def fnExactCountReducedUptoRow : OpenClaim := { program := "ytcpekiangjpppaa", sum := "2d421210e688fc685608153a65aeb131b1bb83c65543cc2b6daa7e4f689b004f", func := "loop.example/g03113/laws.FnExactCountReduced", spec := "fnExactCountReduced", recurses := true, apart := false, narrowed := true }
def FnExactCountReducedUptoSaid : Prop := fnExactCountReducedUptoRow.holds Try.pinned (OpenSpec.upto fnExactCountReducedSpec)

/-- 'laws.FnExactReducedWords', WHERE WHAT IT READS IS OF BULK AT MOST 1048576: true; the input reads as it did. -/
def fnExactReducedWordsUptoRow : OpenClaim := { program := "ytcpekiangjpppaa", sum := "2d421210e688fc685608153a65aeb131b1bb83c65543cc2b6daa7e4f689b004f", func := "loop.example/g03113/laws.FnExactReducedWords", spec := "fnExactReducedWords", recurses := true, apart := false, narrowed := true }
def FnExactReducedWordsUptoSaid : Prop := fnExactReducedWordsUptoRow.holds Try.pinned (OpenSpec.upto fnExactReducedWordsSpec)

/-- 'laws.FnExactCoversOf', WHERE WHAT IT READS IS OF BULK AT MOST 1048576: true; the input reads as it did. -/
def fnExactCoversOfUptoRow : OpenClaim := { program := "ytcpekiangjpppaa", sum := "2d421210e688fc685608153a65aeb131b1bb83c65543cc2b6daa7e4f689b004f", func := "loop.example/g03113/laws.FnExactCoversOf", spec := "fnExactCoversOf", unfollowed := true, recurses := true, apart := false, narrowed := true }
def FnExactCoversOfUptoSaid : Prop := fnExactCoversOfUptoRow.holds Try.pinned (OpenSpec.upto fnExactCoversOfSpec)

end Rows
end Go.Proofs.Ytcpekiangjpppaa
