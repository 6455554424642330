/-
  No cell of these rows narrows 'for every input' (looked for: loops, veiled, ifaces, maps, wideKeys, modest, calm, conditions, laid).
  DERIVED. THE GIVEN ROWS OF THIS SEAT. 7 by the template 'for every input the law returns true; each argument reads behind the call as it read before'; 0 by the template 'total and deterministic' (their statements: YtfepepakellbbaaTotals.lean).
  GIVEN WITH THE SEED: the statements are not yours to turn. If you find one false, say at which input.
  Laid BY PROGRAM, IN A SANDBOX (cutbox-rows.mjs): the forced cells as the released guide's own fill.sh prints them over the translation f46d493f1a90a9d9… (all of the seat's roots in one cut). By AI agents, Wed Nov 11 2026. No macro, syntax, notation, axiom, sorry.
-/
import Derived.Test.YtfepepakellbbaaChecked
import GoSem.Claim
import GoSem.ClaimJoined
import GoSem.ClaimMapViews
import Derived.JoinedTies
import Derived.KernelRfl
namespace Go.Proofs.Ytfepepakellbbaa
/- THE CELL 'sum', in the pinned program and in every row, IS THE sha256 OF THE DUMP (.gsa) THAT YtfepepakellbbaaProg.lean LOADS. Nothing in Lean hashes anything: it is a label: what it is worth is what the hold of that sum in a sandbox is worth. -/
noncomputable def Try.pinned : Pinned := { name := "ytfepepakellbbaa", sum := "f46d493f1a90a9d91b75498252aab725e8918dcdc1df75bb984187b5925b2e33", checked := Try.checked }
namespace Rows
def none {H : Type} : Left H := { results := [], args := [] }

/-- 'laws.FnBruhat': WHATEVER THE INPUT: true; the input reads as it did. -/
def fnBruhatSpec : ChangeSpec := { name := "fnBruhat", fn := fun _ => fun
  | [d] => { results := [.lit (.bool true)], args := [d] }
  | _ => none }
def fnBruhatRow : OpenClaim := { program := "ytfepepakellbbaa", sum := "f46d493f1a90a9d91b75498252aab725e8918dcdc1df75bb984187b5925b2e33", func := "loop.example/g03113/laws.FnBruhat", spec := "fnBruhat", unfollowed := true, recurses := true, apart := false }
def FnBruhatSaid : Prop := fnBruhatRow.holds Try.pinned (OpenSpec.ofChange fnBruhatSpec)

/-- ITS FALSE NEIGHBOUR: 'it returns false'. Refute it at one input. -/
def fnBruhatWrong : ChangeSpec := { name := "fnBruhat", fn := fun _ => fun
  | [d] => { results := [.lit (.bool false)], args := [d] }
  | _ => none }
def FnBruhatWrongFalsely : Prop := fnBruhatRow.holds Try.pinned (OpenSpec.ofChange fnBruhatWrong)

/-- 'laws.FnPatterns': WHATEVER THE INPUT: true; the input reads as it did. -/
def fnPatternsSpec : ChangeSpec := { name := "fnPatterns", fn := fun _ => fun
  | [d] => { results := [.lit (.bool true)], args := [d] }
  | _ => none }
def fnPatternsRow : OpenClaim := { program := "ytfepepakellbbaa", sum := "f46d493f1a90a9d91b75498252aab725e8918dcdc1df75bb984187b5925b2e33", func := "loop.example/g03113/laws.FnPatterns", spec := "fnPatterns", recurses := true, apart := false }
def FnPatternsSaid : Prop := fnPatternsRow.holds Try.pinned (OpenSpec.ofChange fnPatternsSpec)

/-- ITS FALSE NEIGHBOUR: 'it returns false'. Refute it at one input. -/
def fnPatternsWrong : ChangeSpec := { name := "fnPatterns", fn := fun _ => fun
  | [d] => { results := [.lit (.bool false)], args := [d] }
  | _ => none }
def FnPatternsWrongFalsely : Prop := fnPatternsRow.holds Try.pinned (OpenSpec.ofChange fnPatternsWrong)

/-- 'laws.FnEssentialRanks': WHATEVER THE INPUT: true; the input reads as it did. -/
def fnEssentialRanksSpec : ChangeSpec := { name := "fnEssentialRanks", fn := fun _ => fun
  | [d] => { results := [.lit (.bool true)], args := [d] }
  | _ => none }
def fnEssentialRanksRow : OpenClaim := { program := "ytfepepakellbbaa", sum := "f46d493f1a90a9d91b75498252aab725e8918dcdc1df75bb984187b5925b2e33", func := "loop.example/g03113/laws.FnEssentialRanks", spec := "fnEssentialRanks", apart := false }
def FnEssentialRanksSaid : Prop := fnEssentialRanksRow.holds Try.pinned (OpenSpec.ofChange fnEssentialRanksSpec)

/-- ITS FALSE NEIGHBOUR: 'it returns false'. Refute it at one input. -/
def fnEssentialRanksWrong : ChangeSpec := { name := "fnEssentialRanks", fn := fun _ => fun
  | [d] => { results := [.lit (.bool false)], args := [d] }
  | _ => none }
def FnEssentialRanksWrongFalsely : Prop := fnEssentialRanksRow.holds Try.pinned (OpenSpec.ofChange fnEssentialRanksWrong)

/-- 'laws.FnSubwords': WHATEVER THE INPUT: true; the input reads as it did. -/
def fnSubwordsSpec : ChangeSpec := { name := "fnSubwords", fn := fun _ => fun
  | [d] => { results := [.lit (.bool true)], args := [d] }
  | _ => none }
def fnSubwordsRow : OpenClaim := { program := "ytfepepakellbbaa", sum := "f46d493f1a90a9d91b75498252aab725e8918dcdc1df75bb984187b5925b2e33", func := "loop.example/g03113/laws.FnSubwords", spec := "fnSubwords", apart := false }
def FnSubwordsSaid : Prop := fnSubwordsRow.holds Try.pinned (OpenSpec.ofChange fnSubwordsSpec)

/-- ITS FALSE NEIGHBOUR: 'it returns false'. Refute it at one input. -/
def fnSubwordsWrong : ChangeSpec := { name := "fnSubwords", fn := fun _ => fun
  | [d] => { results := [.lit (.bool false)], args := [d] }
  | _ => none }
def FnSubwordsWrongFalsely : Prop := fnSubwordsRow.holds Try.pinned (OpenSpec.ofChange fnSubwordsWrong)

/-- 'laws.FnPermGroup': WHATEVER THE INPUT: true; the input reads as it did. -/
def fnPermGroupSpec : ChangeSpec := { name := "fnPermGroup", fn := fun _ => fun
  | [d] => { results := [.lit (.bool true)], args := [d] }
  | _ => none }
def fnPermGroupRow : OpenClaim := { program := "ytfepepakellbbaa", sum := "f46d493f1a90a9d91b75498252aab725e8918dcdc1df75bb984187b5925b2e33", func := "loop.example/g03113/laws.FnPermGroup", spec := "fnPermGroup", apart := false }
def FnPermGroupSaid : Prop := fnPermGroupRow.holds Try.pinned (OpenSpec.ofChange fnPermGroupSpec)

/-- ITS FALSE NEIGHBOUR: 'it returns false'. Refute it at one input. -/
def fnPermGroupWrong : ChangeSpec := { name := "fnPermGroup", fn := fun _ => fun
  | [d] => { results := [.lit (.bool false)], args := [d] }
  | _ => none }
def FnPermGroupWrongFalsely : Prop := fnPermGroupRow.holds Try.pinned (OpenSpec.ofChange fnPermGroupWrong)

/-- 'laws.FnReducedWords': WHATEVER THE INPUT: true; the input reads as it did. -/
def fnReducedWordsSpec : ChangeSpec := { name := "fnReducedWords", fn := fun _ => fun
  | [d] => { results := [.lit (.bool true)], args := [d] }
  | _ => none }
def fnReducedWordsRow : OpenClaim := { program := "ytfepepakellbbaa", sum := "f46d493f1a90a9d91b75498252aab725e8918dcdc1df75bb984187b5925b2e33", func := "loop.example/g03113/laws.FnReducedWords", spec := "fnReducedWords", recurses := true, apart := false }
def FnReducedWordsSaid : Prop := fnReducedWordsRow.holds Try.pinned (OpenSpec.ofChange fnReducedWordsSpec)

/-- ITS FALSE NEIGHBOUR: 'it returns false'. Refute it at one input. -/
def fnReducedWordsWrong : ChangeSpec := { name := "fnReducedWords", fn := fun _ => fun
  | [d] => { results := [.lit (.bool false)], args := [d] }
  | _ => none }
def FnReducedWordsWrongFalsely : Prop := fnReducedWordsRow.holds Try.pinned (OpenSpec.ofChange fnReducedWordsWrong)

/-- 'laws.FnDemazure': WHATEVER THE INPUT: true; the input reads as it did. -/
def fnDemazureSpec : ChangeSpec := { name := "fnDemazure", fn := fun _ => fun
  | [d] => { results := [.lit (.bool true)], args := [d] }
  | _ => none }
def fnDemazureRow : OpenClaim := { program := "ytfepepakellbbaa", sum := "f46d493f1a90a9d91b75498252aab725e8918dcdc1df75bb984187b5925b2e33", func := "loop.example/g03113/laws.FnDemazure", spec := "fnDemazure", recurses := true, apart := false }
def FnDemazureSaid : Prop := fnDemazureRow.holds Try.pinned (OpenSpec.ofChange fnDemazureSpec)

/-- ITS FALSE NEIGHBOUR: 'it returns false'. Refute it at one input. -/
def fnDemazureWrong : ChangeSpec := { name := "fnDemazure", fn := fun _ => fun
  | [d] => { results := [.lit (.bool false)], args := [d] }
  | _ => none }
def FnDemazureWrongFalsely : Prop := fnDemazureRow.holds Try.pinned (OpenSpec.ofChange fnDemazureWrong)

/- THE SECOND FORM. 'bulk': how many values and letters a reading holds, each counted each time it is reached (what is shared counts as often as it is met; a slice's spare places count too). A statement '..UptoSaid' is the law's where the arguments, and the package variables that the reading takes, are together of bulk at most 1048576: NARROWER than '..Said'. Prove '..Said' where nothing that the law and all that it calls make is longer than what came in: it says more and counts as full. Else prove '..UptoSaid'. A law counts once. -/
mutual
def uptoBulk {H : Type} : DataW H → Nat
  | .lit (.string bytes) => bytes.length + 1
  | .lit _ => 1
  | .nil => 1
  | .ptr d => uptoBulk d + 1
  | .slice elems spare => uptoBulkAll elems + uptoBulkAll spare + 1
  | .agg parts => uptoBulkAll parts + 1
  | .iface _ d => uptoBulk d + 1
  | .map entries => uptoBulkEntries entries + 1
  | .held _ => 1
def uptoBulkAll {H : Type} : List (DataW H) → Nat
  | [] => 0
  | d :: r => uptoBulk d + uptoBulkAll r
def uptoBulkEntries {H : Type} : List (Lit × DataW H) → Nat
  | [] => 0
  | x :: r => uptoBulkEntry x + uptoBulkEntries r
def uptoBulkEntry {H : Type} : Lit × DataW H → Nat
  | (.string bytes, d) => bytes.length + uptoBulk d + 1
  | (_, d) => uptoBulk d + 1
 end
def uptoSmall : (H : Type) → List (DataW H) → Bool := fun _ ds => decide (uptoBulkAll ds ≤ 1048576)
def OpenSpec.upto (s : _root_.Go.ChangeSpec) : _root_.Go.OpenSpec := { _root_.Go.OpenSpec.ofChange s with cond := some uptoSmall }

/-- 'laws.FnBruhat', WHERE WHAT IT READS IS OF BULK AT MOST 1048576: true; the input reads as it did. -/
def fnBruhatUptoRow : OpenClaim := { program := "ytfepepakellbbaa", sum := "f46d493f1a90a9d91b75498252aab725e8918dcdc1df75bb984187b5925b2e33", func := "loop.example/g03113/laws.FnBruhat", spec := "fnBruhat", unfollowed := true, recurses := true, apart := false, narrowed := true }
def FnBruhatUptoSaid : Prop := fnBruhatUptoRow.holds Try.pinned (OpenSpec.upto fnBruhatSpec)

/-- 'laws.FnPatterns', WHERE WHAT IT READS IS OF BULK AT MOST 1048576: true; the input reads as it did. -/
def fnPatternsUptoRow : OpenClaim := { program := "ytfepepakellbbaa", sum := "f46d493f1a90a9d91b75498252aab725e8918dcdc1df75bb984187b5925b2e33", func := "loop.example/g03113/laws.FnPatterns", spec := "fnPatterns", recurses := true, apart := false, narrowed := true }
def FnPatternsUptoSaid : Prop := fnPatternsUptoRow.holds Try.pinned (OpenSpec.upto fnPatternsSpec)

/-- 'laws.FnEssentialRanks', WHERE WHAT IT READS IS OF BULK AT MOST 1048576: true; the input reads as it did. -/
def fnEssentialRanksUptoRow : OpenClaim := { program := "ytfepepakellbbaa", sum := "f46d493f1a90a9d91b75498252aab725e8918dcdc1df75bb984187b5925b2e33", func := "loop.example/g03113/laws.FnEssentialRanks", spec := "fnEssentialRanks", apart := false, narrowed := true }
def FnEssentialRanksUptoSaid : Prop := fnEssentialRanksUptoRow.holds Try.pinned (OpenSpec.upto fnEssentialRanksSpec)

/-- 'laws.FnSubwords', WHERE WHAT IT READS IS OF BULK AT MOST 1048576: true; the input reads as it did. -/
def fnSubwordsUptoRow : OpenClaim := { program := "ytfepepakellbbaa", sum := "f46d493f1a90a9d91b75498252aab725e8918dcdc1df75bb984187b5925b2e33", func := "loop.example/g03113/laws.FnSubwords", spec := "fnSubwords", apart := false, narrowed := true }
def FnSubwordsUptoSaid : Prop := fnSubwordsUptoRow.holds Try.pinned (OpenSpec.upto fnSubwordsSpec)

/-- 'laws.FnPermGroup', WHERE WHAT IT READS IS OF BULK AT MOST 1048576: true; the input reads as it did. -/
def fnPermGroupUptoRow : OpenClaim := { program := "ytfepepakellbbaa", sum := "f46d493f1a90a9d91b75498252aab725e8918dcdc1df75bb984187b5925b2e33", func := "loop.example/g03113/laws.FnPermGroup", spec := "fnPermGroup", apart := false, narrowed := true }
def FnPermGroupUptoSaid : Prop := fnPermGroupUptoRow.holds Try.pinned (OpenSpec.upto fnPermGroupSpec)

/-- 'laws.FnReducedWords', WHERE WHAT IT READS IS OF BULK AT MOST 1048576: true; the input reads as it did. -/
def fnReducedWordsUptoRow : OpenClaim := { program := "ytfepepakellbbaa", sum := "f46d493f1a90a9d91b75498252aab725e8918dcdc1df75bb984187b5925b2e33", func := "loop.example/g03113/laws.FnReducedWords", spec := "fnReducedWords", recurses := true, apart := false, narrowed := true }
def FnReducedWordsUptoSaid : Prop := fnReducedWordsUptoRow.holds Try.pinned (OpenSpec.upto fnReducedWordsSpec)

/-- 'laws.FnDemazure', WHERE WHAT IT READS IS OF BULK AT MOST 1048576: true; the input reads as it did. -/
def fnDemazureUptoRow : OpenClaim := { program := "ytfepepakellbbaa", sum := "f46d493f1a90a9d91b75498252aab725e8918dcdc1df75bb984187b5925b2e33", func := "loop.example/g03113/laws.FnDemazure", spec := "fnDemazure", recurses := true, apart := false, narrowed := true }
def FnDemazureUptoSaid : Prop := fnDemazureUptoRow.holds Try.pinned (OpenSpec.upto fnDemazureSpec)

end Rows
end Go.Proofs.Ytfepepakellbbaa
