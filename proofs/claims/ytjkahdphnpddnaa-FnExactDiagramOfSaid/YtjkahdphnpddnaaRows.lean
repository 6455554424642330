/-
  No cell of these rows narrows 'for every input' (looked for: loops, veiled, ifaces, maps, wideKeys, modest, calm, conditions, laid).
  DERIVED. THE GIVEN ROWS OF THIS SEAT. 12 by the template 'for every input the law returns true; each argument reads behind the call as it read before'; 0 by the template 'total and deterministic' (their statements: YtjkahdphnpddnaaTotals.lean).
  GIVEN WITH THE SEED: the statements are not yours to turn. If you find one false, say at which input.
  Laid BY PROGRAM, IN A SANDBOX (cutbox-rows.mjs): the forced cells as the released guide's own fill.sh prints them over the translation 58e497a5eab3dfe2… (all of the seat's roots in one cut). By AI agents, Wed Nov 11 2026. No macro, syntax, notation, axiom, sorry.
-/
import Derived.Test.YtjkahdphnpddnaaChecked
import GoSem.Claim
import GoSem.ClaimJoined
import GoSem.ClaimMapViews
import Derived.JoinedTies
import Derived.KernelRfl
namespace Go.Proofs.Ytjkahdphnpddnaa
/- THE CELL 'sum', in the pinned program and in every row, IS THE sha256 OF THE DUMP (.gsa) THAT YtjkahdphnpddnaaProg.lean LOADS. Nothing in Lean hashes anything: it is a label: what it is worth is what the hold of that sum in a sandbox is worth. -/
noncomputable def Try.pinned : Pinned := { name := "ytjkahdphnpddnaa", sum := "58e497a5eab3dfe2b224217e8ce0ee2725d5dc0022a663cf7664517ee7643401", checked := Try.checked }
namespace Rows
def none {H : Type} : Left H := { results := [], args := [] }

/-- 'laws.FnExactDescentsOf': WHATEVER THE INPUT: true; the input reads as it did. -/
def fnExactDescentsOfSpec : ChangeSpec := { name := "fnExactDescentsOf", fn := fun _ => fun
  | [d] => { results := [.lit (.bool true)], args := [d] }
  | _ => none }
def fnExactDescentsOfRow : OpenClaim := { program := "ytjkahdphnpddnaa", sum := "58e497a5eab3dfe2b224217e8ce0ee2725d5dc0022a663cf7664517ee7643401", func := "loop.example/g03113/laws.FnExactDescentsOf", spec := "fnExactDescentsOf", apart := false }
def FnExactDescentsOfSaid : Prop := fnExactDescentsOfRow.holds Try.pinned (OpenSpec.ofChange fnExactDescentsOfSpec)

/-- ITS FALSE NEIGHBOUR: 'it returns false'. Refute it at one input. -/
def fnExactDescentsOfWrong : ChangeSpec := { name := "fnExactDescentsOf", fn := fun _ => fun
  | [d] => { results := [.lit (.bool false)], args := [d] }
  | _ => none }
def FnExactDescentsOfWrongFalsely : Prop := fnExactDescentsOfRow.holds Try.pinned (OpenSpec.ofChange fnExactDescentsOfWrong)

/-- 'laws.FnExactIsVexillary': WHATEVER THE INPUT: true; the input reads as it did. -/
def fnExactIsVexillarySpec : ChangeSpec := { name := "fnExactIsVexillary", fn := fun _ => fun
  | [d] => { results := [.lit (.bool true)], args := [d] }
  | _ => none }
def fnExactIsVexillaryRow : OpenClaim := { program := "ytjkahdphnpddnaa", sum := "58e497a5eab3dfe2b224217e8ce0ee2725d5dc0022a663cf7664517ee7643401", func := "loop.example/g03113/laws.FnExactIsVexillary", spec := "fnExactIsVexillary", recurses := true, apart := false }
def FnExactIsVexillarySaid : Prop := fnExactIsVexillaryRow.holds Try.pinned (OpenSpec.ofChange fnExactIsVexillarySpec)

/-- ITS FALSE NEIGHBOUR: 'it returns false'. Refute it at one input. -/
def fnExactIsVexillaryWrong : ChangeSpec := { name := "fnExactIsVexillary", fn := fun _ => fun
  | [d] => { results := [.lit (.bool false)], args := [d] }
  | _ => none }
def FnExactIsVexillaryWrongFalsely : Prop := fnExactIsVexillaryRow.holds Try.pinned (OpenSpec.ofChange fnExactIsVexillaryWrong)

/-- 'laws.FnExactHasPattern': WHATEVER THE INPUT: true; the input reads as it did. -/
def fnExactHasPatternSpec : ChangeSpec := { name := "fnExactHasPattern", fn := fun _ => fun
  | [d1, d2] => { results := [.lit (.bool true)], args := [d1, d2] }
  | _ => none }
def fnExactHasPatternRow : OpenClaim := { program := "ytjkahdphnpddnaa", sum := "58e497a5eab3dfe2b224217e8ce0ee2725d5dc0022a663cf7664517ee7643401", func := "loop.example/g03113/laws.FnExactHasPattern", spec := "fnExactHasPattern", recurses := true, apart := false }
def FnExactHasPatternSaid : Prop := fnExactHasPatternRow.holds Try.pinned (OpenSpec.ofChange fnExactHasPatternSpec)

/-- ITS FALSE NEIGHBOUR: 'it returns false'. Refute it at one input. -/
def fnExactHasPatternWrong : ChangeSpec := { name := "fnExactHasPattern", fn := fun _ => fun
  | [d1, d2] => { results := [.lit (.bool false)], args := [d1, d2] }
  | _ => none }
def FnExactHasPatternWrongFalsely : Prop := fnExactHasPatternRow.holds Try.pinned (OpenSpec.ofChange fnExactHasPatternWrong)

/-- 'laws.FnExactCodeOf': WHATEVER THE INPUT: true; the input reads as it did. -/
def fnExactCodeOfSpec : ChangeSpec := { name := "fnExactCodeOf", fn := fun _ => fun
  | [d] => { results := [.lit (.bool true)], args := [d] }
  | _ => none }
def fnExactCodeOfRow : OpenClaim := { program := "ytjkahdphnpddnaa", sum := "58e497a5eab3dfe2b224217e8ce0ee2725d5dc0022a663cf7664517ee7643401", func := "loop.example/g03113/laws.FnExactCodeOf", spec := "fnExactCodeOf", apart := false }
def FnExactCodeOfSaid : Prop := fnExactCodeOfRow.holds Try.pinned (OpenSpec.ofChange fnExactCodeOfSpec)

/-- ITS FALSE NEIGHBOUR: 'it returns false'. Refute it at one input. -/
def fnExactCodeOfWrong : ChangeSpec := { name := "fnExactCodeOf", fn := fun _ => fun
  | [d] => { results := [.lit (.bool false)], args := [d] }
  | _ => none }
def FnExactCodeOfWrongFalsely : Prop := fnExactCodeOfRow.holds Try.pinned (OpenSpec.ofChange fnExactCodeOfWrong)

/-- 'laws.FnExactIsBelowPerm': WHATEVER THE INPUT: true; the input reads as it did. -/
def fnExactIsBelowPermSpec : ChangeSpec := { name := "fnExactIsBelowPerm", fn := fun _ => fun
  | [d1, d2] => { results := [.lit (.bool true)], args := [d1, d2] }
  | _ => none }
def fnExactIsBelowPermRow : OpenClaim := { program := "ytjkahdphnpddnaa", sum := "58e497a5eab3dfe2b224217e8ce0ee2725d5dc0022a663cf7664517ee7643401", func := "loop.example/g03113/laws.FnExactIsBelowPerm", spec := "fnExactIsBelowPerm", apart := false }
def FnExactIsBelowPermSaid : Prop := fnExactIsBelowPermRow.holds Try.pinned (OpenSpec.ofChange fnExactIsBelowPermSpec)

/-- ITS FALSE NEIGHBOUR: 'it returns false'. Refute it at one input. -/
def fnExactIsBelowPermWrong : ChangeSpec := { name := "fnExactIsBelowPerm", fn := fun _ => fun
  | [d1, d2] => { results := [.lit (.bool false)], args := [d1, d2] }
  | _ => none }
def FnExactIsBelowPermWrongFalsely : Prop := fnExactIsBelowPermRow.holds Try.pinned (OpenSpec.ofChange fnExactIsBelowPermWrong)

/-- 'laws.FnExactLengthOf': WHATEVER THE INPUT: true; the input reads as it did. -/
def fnExactLengthOfSpec : ChangeSpec := { name := "fnExactLengthOf", fn := fun _ => fun
  | [d] => { results := [.lit (.bool true)], args := [d] }
  | _ => none }
def fnExactLengthOfRow : OpenClaim := { program := "ytjkahdphnpddnaa", sum := "58e497a5eab3dfe2b224217e8ce0ee2725d5dc0022a663cf7664517ee7643401", func := "loop.example/g03113/laws.FnExactLengthOf", spec := "fnExactLengthOf", apart := false }
def FnExactLengthOfSaid : Prop := fnExactLengthOfRow.holds Try.pinned (OpenSpec.ofChange fnExactLengthOfSpec)

/-- ITS FALSE NEIGHBOUR: 'it returns false'. Refute it at one input. -/
def fnExactLengthOfWrong : ChangeSpec := { name := "fnExactLengthOf", fn := fun _ => fun
  | [d] => { results := [.lit (.bool false)], args := [d] }
  | _ => none }
def FnExactLengthOfWrongFalsely : Prop := fnExactLengthOfRow.holds Try.pinned (OpenSpec.ofChange fnExactLengthOfWrong)

/-- 'laws.FnExactTrimPerm': WHATEVER THE INPUT: true; the input reads as it did. -/
def fnExactTrimPermSpec : ChangeSpec := { name := "fnExactTrimPerm", fn := fun _ => fun
  | [d] => { results := [.lit (.bool true)], args := [d] }
  | _ => none }
def fnExactTrimPermRow : OpenClaim := { program := "ytjkahdphnpddnaa", sum := "58e497a5eab3dfe2b224217e8ce0ee2725d5dc0022a663cf7664517ee7643401", func := "loop.example/g03113/laws.FnExactTrimPerm", spec := "fnExactTrimPerm", apart := false }
def FnExactTrimPermSaid : Prop := fnExactTrimPermRow.holds Try.pinned (OpenSpec.ofChange fnExactTrimPermSpec)

/-- ITS FALSE NEIGHBOUR: 'it returns false'. Refute it at one input. -/
def fnExactTrimPermWrong : ChangeSpec := { name := "fnExactTrimPerm", fn := fun _ => fun
  | [d] => { results := [.lit (.bool false)], args := [d] }
  | _ => none }
def FnExactTrimPermWrongFalsely : Prop := fnExactTrimPermRow.holds Try.pinned (OpenSpec.ofChange fnExactTrimPermWrong)

/-- 'laws.FnExactEmbedPerm': WHATEVER THE INPUT: true; the input reads as it did. -/
def fnExactEmbedPermSpec : ChangeSpec := { name := "fnExactEmbedPerm", fn := fun _ => fun
  | [d1, d2] => { results := [.lit (.bool true)], args := [d1, d2] }
  | _ => none }
def fnExactEmbedPermRow : OpenClaim := { program := "ytjkahdphnpddnaa", sum := "58e497a5eab3dfe2b224217e8ce0ee2725d5dc0022a663cf7664517ee7643401", func := "loop.example/g03113/laws.FnExactEmbedPerm", spec := "fnExactEmbedPerm", apart := false }
def FnExactEmbedPermSaid : Prop := fnExactEmbedPermRow.holds Try.pinned (OpenSpec.ofChange fnExactEmbedPermSpec)

/-- ITS FALSE NEIGHBOUR: 'it returns false'. Refute it at one input. -/
def fnExactEmbedPermWrong : ChangeSpec := { name := "fnExactEmbedPerm", fn := fun _ => fun
  | [d1, d2] => { results := [.lit (.bool false)], args := [d1, d2] }
  | _ => none }
def FnExactEmbedPermWrongFalsely : Prop := fnExactEmbedPermRow.holds Try.pinned (OpenSpec.ofChange fnExactEmbedPermWrong)

/-- 'laws.FnExactPermOfCode': WHATEVER THE INPUT: true; the input reads as it did. -/
def fnExactPermOfCodeSpec : ChangeSpec := { name := "fnExactPermOfCode", fn := fun _ => fun
  | [d] => { results := [.lit (.bool true)], args := [d] }
  | _ => none }
def fnExactPermOfCodeRow : OpenClaim := { program := "ytjkahdphnpddnaa", sum := "58e497a5eab3dfe2b224217e8ce0ee2725d5dc0022a663cf7664517ee7643401", func := "loop.example/g03113/laws.FnExactPermOfCode", spec := "fnExactPermOfCode", apart := false }
def FnExactPermOfCodeSaid : Prop := fnExactPermOfCodeRow.holds Try.pinned (OpenSpec.ofChange fnExactPermOfCodeSpec)

/-- ITS FALSE NEIGHBOUR: 'it returns false'. Refute it at one input. -/
def fnExactPermOfCodeWrong : ChangeSpec := { name := "fnExactPermOfCode", fn := fun _ => fun
  | [d] => { results := [.lit (.bool false)], args := [d] }
  | _ => none }
def FnExactPermOfCodeWrongFalsely : Prop := fnExactPermOfCodeRow.holds Try.pinned (OpenSpec.ofChange fnExactPermOfCodeWrong)

/-- 'laws.FnExactWordPerm': WHATEVER THE INPUT: true; the input reads as it did. -/
def fnExactWordPermSpec : ChangeSpec := { name := "fnExactWordPerm", fn := fun _ => fun
  | [d1, d2] => { results := [.lit (.bool true)], args := [d1, d2] }
  | _ => none }
def fnExactWordPermRow : OpenClaim := { program := "ytjkahdphnpddnaa", sum := "58e497a5eab3dfe2b224217e8ce0ee2725d5dc0022a663cf7664517ee7643401", func := "loop.example/g03113/laws.FnExactWordPerm", spec := "fnExactWordPerm", apart := false }
def FnExactWordPermSaid : Prop := fnExactWordPermRow.holds Try.pinned (OpenSpec.ofChange fnExactWordPermSpec)

/-- ITS FALSE NEIGHBOUR: 'it returns false'. Refute it at one input. -/
def fnExactWordPermWrong : ChangeSpec := { name := "fnExactWordPerm", fn := fun _ => fun
  | [d1, d2] => { results := [.lit (.bool false)], args := [d1, d2] }
  | _ => none }
def FnExactWordPermWrongFalsely : Prop := fnExactWordPermRow.holds Try.pinned (OpenSpec.ofChange fnExactWordPermWrong)

/-- 'laws.FnExactDemazurePerm': WHATEVER THE INPUT: true; the input reads as it did. -/
def fnExactDemazurePermSpec : ChangeSpec := { name := "fnExactDemazurePerm", fn := fun _ => fun
  | [d1, d2] => { results := [.lit (.bool true)], args := [d1, d2] }
  | _ => none }
def fnExactDemazurePermRow : OpenClaim := { program := "ytjkahdphnpddnaa", sum := "58e497a5eab3dfe2b224217e8ce0ee2725d5dc0022a663cf7664517ee7643401", func := "loop.example/g03113/laws.FnExactDemazurePerm", spec := "fnExactDemazurePerm", apart := false }
def FnExactDemazurePermSaid : Prop := fnExactDemazurePermRow.holds Try.pinned (OpenSpec.ofChange fnExactDemazurePermSpec)

/-- ITS FALSE NEIGHBOUR: 'it returns false'. Refute it at one input. -/
def fnExactDemazurePermWrong : ChangeSpec := { name := "fnExactDemazurePerm", fn := fun _ => fun
  | [d1, d2] => { results := [.lit (.bool false)], args := [d1, d2] }
  | _ => none }
def FnExactDemazurePermWrongFalsely : Prop := fnExactDemazurePermRow.holds Try.pinned (OpenSpec.ofChange fnExactDemazurePermWrong)

/-- 'laws.FnExactDiagramOf': WHATEVER THE INPUT: true; the input reads as it did. -/
def fnExactDiagramOfSpec : ChangeSpec := { name := "fnExactDiagramOf", fn := fun _ => fun
  | [d] => { results := [.lit (.bool true)], args := [d] }
  | _ => none }
def fnExactDiagramOfRow : OpenClaim := { program := "ytjkahdphnpddnaa", sum := "58e497a5eab3dfe2b224217e8ce0ee2725d5dc0022a663cf7664517ee7643401", func := "loop.example/g03113/laws.FnExactDiagramOf", spec := "fnExactDiagramOf", apart := false }
def FnExactDiagramOfSaid : Prop := fnExactDiagramOfRow.holds Try.pinned (OpenSpec.ofChange fnExactDiagramOfSpec)

/-- ITS FALSE NEIGHBOUR: 'it returns false'. Refute it at one input. -/
def fnExactDiagramOfWrong : ChangeSpec := { name := "fnExactDiagramOf", fn := fun _ => fun
  | [d] => { results := [.lit (.bool false)], args := [d] }
  | _ => none }
def FnExactDiagramOfWrongFalsely : Prop := fnExactDiagramOfRow.holds Try.pinned (OpenSpec.ofChange fnExactDiagramOfWrong)

/- THE SECOND FORM. 'bulk': how many values and letters a reading holds, each counted each time it is reached (what is shared counts as often as it is met; a slice's spare places count too). A statement '..UptoSaid' is the law's where the arguments, and the package variables that the reading takes, are together of bulk at most 1048576: NARROWER than '..Said'. Prove '..Said' where nothing that the law and all that it calls make is longer than what came in: it says more and counts as full. Else prove '..UptoSaid'. A law counts once. -/
mutual
def uptoBulk {H : Type} : DataW H → Nat
  | .lit (.string bytes) => bytes.length + 1
  | .lit _ => 1
  | .nil => 1
  | .ptr d => uptoBulk d + 1
  | .slice elems spare => uptoBulkAll elems + uptoBulkAll spare + 1
  | .agg parts => uptoBulkAll parts + 1
  | .iface _ d => uptoBulk d + 1
  | .map entries => uptoBulkEntries entries + 1
  | .held _ => 1
def uptoBulkAll {H : Type} : List (DataW H) → Nat
  | [] => 0
  | d :: r => uptoBulk d + uptoBulkAll r
def uptoBulkEntries {H : Type} : List (Lit × DataW H) → Nat
  | [] => 0
  | x :: r => uptoBulkEntry x + uptoBulkEntries r
def uptoBulkEntry {H : Type} : Lit × DataW H → Nat
  | (.string bytes, d) => bytes.length + uptoBulk d + 1
  | (_, d) => uptoBulk d + 1
 end
def uptoSmall : (H : Type) → List (DataW H) → Bool := fun _ ds => decide (uptoBulkAll ds ≤ 1048576)
def OpenSpec.upto (s : _root_.Go.ChangeSpec) : _root_.Go.OpenSpec := { _root_.Go.OpenSpec.ofChange s with cond := some uptoSmall }

/-- 'laws.FnExactDescentsOf', WHERE WHAT IT READS IS OF BULK AT MOST 1048576: true; the input reads as it did. -/
def fnExactDescentsOfUptoRow : OpenClaim := { program := "ytjkahdphnpddnaa", sum := "58e497a5eab3dfe2b224217e8ce0ee2725d5dc0022a663cf7664517ee7643401", func := "loop.example/g03113/laws.FnExactDescentsOf", spec := "fnExactDescentsOf", apart := false, narrowed := true }
def FnExactDescentsOfUptoSaid : Prop := fnExactDescentsOfUptoRow.holds Try.pinned (OpenSpec.upto fnExactDescentsOfSpec)

/-- 'laws.FnExactIsVexillary', WHERE WHAT IT READS IS OF BULK AT MOST 1048576: true; the input reads as it did. -/
def fnExactIsVexillaryUptoRow : OpenClaim := { program := "ytjkahdphnpddnaa", sum := "58e497a5eab3dfe2b224217e8ce0ee2725d5dc0022a663cf7664517ee7643401", func := "loop.example/g03113/laws.FnExactIsVexillary", spec := "fnExactIsVexillary", recurses := true, apart := false, narrowed := true }
def FnExactIsVexillaryUptoSaid : Prop := fnExactIsVexillaryUptoRow.holds Try.pinned (OpenSpec.upto fnExactIsVexillarySpec)

/-- 'laws.FnExactHasPattern', WHERE WHAT IT READS IS OF BULK AT MOST 1048576: true; the input reads as it did. -/
def fnExactHasPatternUptoRow : OpenClaim := { program := "ytjkahdphnpddnaa", sum := "58e497a5eab3dfe2b224217e8ce0ee2725d5dc0022a663cf7664517ee7643401", func := "loop.example/g03113/laws.FnExactHasPattern", spec := "fnExactHasPattern", recurses := true, apart := false, narrowed := true }
def FnExactHasPatternUptoSaid : Prop := fnExactHasPatternUptoRow.holds Try.pinned (OpenSpec.upto fnExactHasPatternSpec)

/-- 'laws.FnExactCodeOf', WHERE WHAT IT READS IS OF BULK AT MOST 1048576: true; the input reads as it did. -/
def fnExactCodeOfUptoRow : OpenClaim := { program := "ytjkahdphnpddnaa", sum := "58e497a5eab3dfe2b224217e8ce0ee2725d5dc0022a663cf7664517ee7643401", func := "loop.example/g03113/laws.FnExactCodeOf", spec := "fnExactCodeOf", apart := false, narrowed := true }
def FnExactCodeOfUptoSaid : Prop := fnExactCodeOfUptoRow.holds Try.pinned (OpenSpec.upto fnExactCodeOfSpec)

/-- 'laws.FnExactIsBelowPerm', WHERE WHAT IT READS IS OF BULK AT MOST 1048576: true; the input reads as it did. -/
def fnExactIsBelowPermUptoRow : OpenClaim := { program := "ytjkahdphnpddnaa", sum := "58e497a5eab3dfe2b224217e8ce0ee2725d5dc0022a663cf7664517ee7643401", func := "loop.example/g03113/laws.FnExactIsBelowPerm", spec := "fnExactIsBelowPerm", apart := false, narrowed := true }
def FnExactIsBelowPermUptoSaid : Prop := fnExactIsBelowPermUptoRow.holds Try.pinned (OpenSpec.upto fnExactIsBelowPermSpec)

/-- 'laws.FnExactLengthOf', WHERE WHAT IT READS IS OF BULK AT MOST 1048576: true; the input reads as it did. -/
def fnExactLengthOfUptoRow : OpenClaim := { program := "ytjkahdphnpddnaa", sum := "58e497a5eab3dfe2b224217e8ce0ee2725d5dc0022a663cf7664517ee7643401", func := "loop.example/g03113/laws.FnExactLengthOf", spec := "fnExactLengthOf", apart := false, narrowed := true }
def FnExactLengthOfUptoSaid : Prop := fnExactLengthOfUptoRow.holds Try.pinned (OpenSpec.upto fnExactLengthOfSpec)

/-- 'laws.FnExactTrimPerm', WHERE WHAT IT READS IS OF BULK AT MOST 1048576: true; the input reads as it did. -/
def fnExactTrimPermUptoRow : OpenClaim := { program := "ytjkahdphnpddnaa", sum := "58e497a5eab3dfe2b224217e8ce0ee2725d5dc0022a663cf7664517ee7643401", func := "loop.example/g03113/laws.FnExactTrimPerm", spec := "fnExactTrimPerm", apart := false, narrowed := true }
def FnExactTrimPermUptoSaid : Prop := fnExactTrimPermUptoRow.holds Try.pinned (OpenSpec.upto fnExactTrimPermSpec)

/-- 'laws.FnExactEmbedPerm', WHERE WHAT IT READS IS OF BULK AT MOST 1048576: true; the input reads as it did. -/
def fnExactEmbedPermUptoRow : OpenClaim := { program := "ytjkahdphnpddnaa", sum := "58e497a5eab3dfe2b224217e8ce0ee2725d5dc0022a663cf7664517ee7643401", func := "loop.example/g03113/laws.FnExactEmbedPerm", spec := "fnExactEmbedPerm", apart := false, narrowed := true }
def FnExactEmbedPermUptoSaid : Prop := fnExactEmbedPermUptoRow.holds Try.pinned (OpenSpec.upto fnExactEmbedPermSpec)

/-- 'laws.FnExactPermOfCode', WHERE WHAT IT READS IS OF BULK AT MOST 1048576: true; the input reads as it did. -/
def fnExactPermOfCodeUptoRow : OpenClaim := { program := "ytjkahdphnpddnaa", sum := "58e497a5eab3dfe2b224217e8ce0ee2725d5dc0022a663cf7664517ee7643401", func := "loop.example/g03113/laws.FnExactPermOfCode", spec := "fnExactPermOfCode", apart := false, narrowed := true }
def FnExactPermOfCodeUptoSaid : Prop := fnExactPermOfCodeUptoRow.holds Try.pinned (OpenSpec.upto fnExactPermOfCodeSpec)

/-- 'laws.FnExactWordPerm', WHERE WHAT IT READS IS OF BULK AT MOST 1048576: true; the input reads as it did. -/
def fnExactWordPermUptoRow : OpenClaim := { program := "ytjkahdphnpddnaa", sum := "58e497a5eab3dfe2b224217e8ce0ee2725d5dc0022a663cf7664517ee7643401", func := "loop.example/g03113/laws.FnExactWordPerm", spec := "fnExactWordPerm", apart := false, narrowed := true }
def FnExactWordPermUptoSaid : Prop := fnExactWordPermUptoRow.holds Try.pinned (OpenSpec.upto fnExactWordPermSpec)

/-- 'laws.FnExactDemazurePerm', WHERE WHAT IT READS IS OF BULK AT MOST 1048576: true; the input reads as it did. -/
def fnExactDemazurePermUptoRow : OpenClaim := { program := "ytjkahdphnpddnaa", sum := "58e497a5eab3dfe2b224217e8ce0ee2725d5dc0022a663cf7664517ee7643401", func := "loop.example/g03113/laws.FnExactDemazurePerm", spec := "fnExactDemazurePerm", apart := false, narrowed := true }
def FnExactDemazurePermUptoSaid : Prop := fnExactDemazurePermUptoRow.holds Try.pinned (OpenSpec.upto fnExactDemazurePermSpec)

/-- 'laws.FnExactDiagramOf', WHERE WHAT IT READS IS OF BULK AT MOST 1048576: true; the input reads as it did. -/
def fnExactDiagramOfUptoRow : OpenClaim := { program := "ytjkahdphnpddnaa", sum := "58e497a5eab3dfe2b224217e8ce0ee2725d5dc0022a663cf7664517ee7643401", func := "loop.example/g03113/laws.FnExactDiagramOf", spec := "fnExactDiagramOf", apart := false, narrowed := true }
def FnExactDiagramOfUptoSaid : Prop := fnExactDiagramOfUptoRow.holds Try.pinned (OpenSpec.upto fnExactDiagramOfSpec)

end Rows
end Go.Proofs.Ytjkahdphnpddnaa
