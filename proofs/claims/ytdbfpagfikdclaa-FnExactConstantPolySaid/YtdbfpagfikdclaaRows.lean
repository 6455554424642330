/-
  No cell of these rows narrows 'for every input' (looked for: loops, veiled, ifaces, maps, wideKeys, modest, calm, conditions, laid).
  DERIVED. THE GIVEN ROWS OF THIS SEAT. 12 by the template 'for every input the law returns true; each argument reads behind the call as it read before'; 0 by the template 'total and deterministic' (their statements: YtdbfpagfikdclaaTotals.lean).
  GIVEN WITH THE SEED: the statements are not yours to turn. If you find one false, say at which input.
  Laid BY PROGRAM, IN A SANDBOX (cutbox-rows.mjs): the forced cells as the released guide's own fill.sh prints them over the translation 28956d69e063a434… (all of the seat's roots in one cut). By AI agents, Wed Nov 11 2026. No macro, syntax, notation, axiom, sorry.
-/
import Derived.Test.YtdbfpagfikdclaaChecked
import GoSem.Claim
import GoSem.ClaimJoined
import GoSem.ClaimMapViews
import Derived.JoinedTies
import Derived.KernelRfl
namespace Go.Proofs.Ytdbfpagfikdclaa
/- THE CELL 'sum', in the pinned program and in every row, IS THE sha256 OF THE DUMP (.gsa) THAT YtdbfpagfikdclaaProg.lean LOADS. Nothing in Lean hashes anything: it is a label: what it is worth is what the hold of that sum in a sandbox is worth. -/
noncomputable def Try.pinned : Pinned := { name := "ytdbfpagfikdclaa", sum := "28956d69e063a43440c5be758fc380c5db628fe8b6a431a49904b3ac6aca6a76", checked := Try.checked }
namespace Rows
def none {H : Type} : Left H := { results := [], args := [] }

/-- 'laws.FnExactConstants': WHATEVER THE INPUT: true; the input reads as it did. -/
def fnExactConstantsSpec : ChangeSpec := { name := "fnExactConstants", fn := fun _ => fun
  | [] => { results := [.lit (.bool true)], args := [] }
  | _ => none }
def fnExactConstantsRow : OpenClaim := { program := "ytdbfpagfikdclaa", sum := "28956d69e063a43440c5be758fc380c5db628fe8b6a431a49904b3ac6aca6a76", func := "loop.example/g03113/laws.FnExactConstants", spec := "fnExactConstants", apart := false }
def FnExactConstantsSaid : Prop := fnExactConstantsRow.holds Try.pinned (OpenSpec.ofChange fnExactConstantsSpec)

/-- ITS FALSE NEIGHBOUR: 'it returns false'. Refute it at one input. -/
def fnExactConstantsWrong : ChangeSpec := { name := "fnExactConstants", fn := fun _ => fun
  | [] => { results := [.lit (.bool false)], args := [] }
  | _ => none }
def FnExactConstantsWrongFalsely : Prop := fnExactConstantsRow.holds Try.pinned (OpenSpec.ofChange fnExactConstantsWrong)

/-- 'laws.FnExactFormatInt': WHATEVER THE INPUT: true; the input reads as it did. -/
def fnExactFormatIntSpec : ChangeSpec := { name := "fnExactFormatInt", fn := fun _ => fun
  | [d] => { results := [.lit (.bool true)], args := [d] }
  | _ => none }
def fnExactFormatIntRow : OpenClaim := { program := "ytdbfpagfikdclaa", sum := "28956d69e063a43440c5be758fc380c5db628fe8b6a431a49904b3ac6aca6a76", func := "loop.example/g03113/laws.FnExactFormatInt", spec := "fnExactFormatInt", recurses := true, apart := false }
def FnExactFormatIntSaid : Prop := fnExactFormatIntRow.holds Try.pinned (OpenSpec.ofChange fnExactFormatIntSpec)

/-- ITS FALSE NEIGHBOUR: 'it returns false'. Refute it at one input. -/
def fnExactFormatIntWrong : ChangeSpec := { name := "fnExactFormatInt", fn := fun _ => fun
  | [d] => { results := [.lit (.bool false)], args := [d] }
  | _ => none }
def FnExactFormatIntWrongFalsely : Prop := fnExactFormatIntRow.holds Try.pinned (OpenSpec.ofChange fnExactFormatIntWrong)

/-- 'laws.FnExactIdentityPerm': WHATEVER THE INPUT: true; the input reads as it did. -/
def fnExactIdentityPermSpec : ChangeSpec := { name := "fnExactIdentityPerm", fn := fun _ => fun
  | [d] => { results := [.lit (.bool true)], args := [d] }
  | _ => none }
def fnExactIdentityPermRow : OpenClaim := { program := "ytdbfpagfikdclaa", sum := "28956d69e063a43440c5be758fc380c5db628fe8b6a431a49904b3ac6aca6a76", func := "loop.example/g03113/laws.FnExactIdentityPerm", spec := "fnExactIdentityPerm", apart := false }
def FnExactIdentityPermSaid : Prop := fnExactIdentityPermRow.holds Try.pinned (OpenSpec.ofChange fnExactIdentityPermSpec)

/-- ITS FALSE NEIGHBOUR: 'it returns false'. Refute it at one input. -/
def fnExactIdentityPermWrong : ChangeSpec := { name := "fnExactIdentityPerm", fn := fun _ => fun
  | [d] => { results := [.lit (.bool false)], args := [d] }
  | _ => none }
def FnExactIdentityPermWrongFalsely : Prop := fnExactIdentityPermRow.holds Try.pinned (OpenSpec.ofChange fnExactIdentityPermWrong)

/-- 'laws.FnExactIsPerm': WHATEVER THE INPUT: true; the input reads as it did. -/
def fnExactIsPermSpec : ChangeSpec := { name := "fnExactIsPerm", fn := fun _ => fun
  | [d] => { results := [.lit (.bool true)], args := [d] }
  | _ => none }
def fnExactIsPermRow : OpenClaim := { program := "ytdbfpagfikdclaa", sum := "28956d69e063a43440c5be758fc380c5db628fe8b6a431a49904b3ac6aca6a76", func := "loop.example/g03113/laws.FnExactIsPerm", spec := "fnExactIsPerm", apart := false }
def FnExactIsPermSaid : Prop := fnExactIsPermRow.holds Try.pinned (OpenSpec.ofChange fnExactIsPermSpec)

/-- ITS FALSE NEIGHBOUR: 'it returns false'. Refute it at one input. -/
def fnExactIsPermWrong : ChangeSpec := { name := "fnExactIsPerm", fn := fun _ => fun
  | [d] => { results := [.lit (.bool false)], args := [d] }
  | _ => none }
def FnExactIsPermWrongFalsely : Prop := fnExactIsPermRow.holds Try.pinned (OpenSpec.ofChange fnExactIsPermWrong)

/-- 'laws.FnExactLongestPerm': WHATEVER THE INPUT: true; the input reads as it did. -/
def fnExactLongestPermSpec : ChangeSpec := { name := "fnExactLongestPerm", fn := fun _ => fun
  | [d] => { results := [.lit (.bool true)], args := [d] }
  | _ => none }
def fnExactLongestPermRow : OpenClaim := { program := "ytdbfpagfikdclaa", sum := "28956d69e063a43440c5be758fc380c5db628fe8b6a431a49904b3ac6aca6a76", func := "loop.example/g03113/laws.FnExactLongestPerm", spec := "fnExactLongestPerm", apart := false }
def FnExactLongestPermSaid : Prop := fnExactLongestPermRow.holds Try.pinned (OpenSpec.ofChange fnExactLongestPermSpec)

/-- ITS FALSE NEIGHBOUR: 'it returns false'. Refute it at one input. -/
def fnExactLongestPermWrong : ChangeSpec := { name := "fnExactLongestPerm", fn := fun _ => fun
  | [d] => { results := [.lit (.bool false)], args := [d] }
  | _ => none }
def FnExactLongestPermWrongFalsely : Prop := fnExactLongestPermRow.holds Try.pinned (OpenSpec.ofChange fnExactLongestPermWrong)

/-- 'laws.FnExactIsGrassmannian': WHATEVER THE INPUT: true; the input reads as it did. -/
def fnExactIsGrassmannianSpec : ChangeSpec := { name := "fnExactIsGrassmannian", fn := fun _ => fun
  | [d] => { results := [.lit (.bool true)], args := [d] }
  | _ => none }
def fnExactIsGrassmannianRow : OpenClaim := { program := "ytdbfpagfikdclaa", sum := "28956d69e063a43440c5be758fc380c5db628fe8b6a431a49904b3ac6aca6a76", func := "loop.example/g03113/laws.FnExactIsGrassmannian", spec := "fnExactIsGrassmannian", apart := false }
def FnExactIsGrassmannianSaid : Prop := fnExactIsGrassmannianRow.holds Try.pinned (OpenSpec.ofChange fnExactIsGrassmannianSpec)

/-- ITS FALSE NEIGHBOUR: 'it returns false'. Refute it at one input. -/
def fnExactIsGrassmannianWrong : ChangeSpec := { name := "fnExactIsGrassmannian", fn := fun _ => fun
  | [d] => { results := [.lit (.bool false)], args := [d] }
  | _ => none }
def FnExactIsGrassmannianWrongFalsely : Prop := fnExactIsGrassmannianRow.holds Try.pinned (OpenSpec.ofChange fnExactIsGrassmannianWrong)

/-- 'laws.FnExactRankAt': WHATEVER THE INPUT: true; the input reads as it did. -/
def fnExactRankAtSpec : ChangeSpec := { name := "fnExactRankAt", fn := fun _ => fun
  | [d1, d2, d3] => { results := [.lit (.bool true)], args := [d1, d2, d3] }
  | _ => none }
def fnExactRankAtRow : OpenClaim := { program := "ytdbfpagfikdclaa", sum := "28956d69e063a43440c5be758fc380c5db628fe8b6a431a49904b3ac6aca6a76", func := "loop.example/g03113/laws.FnExactRankAt", spec := "fnExactRankAt", apart := false }
def FnExactRankAtSaid : Prop := fnExactRankAtRow.holds Try.pinned (OpenSpec.ofChange fnExactRankAtSpec)

/-- ITS FALSE NEIGHBOUR: 'it returns false'. Refute it at one input. -/
def fnExactRankAtWrong : ChangeSpec := { name := "fnExactRankAt", fn := fun _ => fun
  | [d1, d2, d3] => { results := [.lit (.bool false)], args := [d1, d2, d3] }
  | _ => none }
def FnExactRankAtWrongFalsely : Prop := fnExactRankAtRow.holds Try.pinned (OpenSpec.ofChange fnExactRankAtWrong)

/-- 'laws.FnExactConstantPoly': WHATEVER THE INPUT: true; the input reads as it did. -/
def fnExactConstantPolySpec : ChangeSpec := { name := "fnExactConstantPoly", fn := fun _ => fun
  | [d] => { results := [.lit (.bool true)], args := [d] }
  | _ => none }
def fnExactConstantPolyRow : OpenClaim := { program := "ytdbfpagfikdclaa", sum := "28956d69e063a43440c5be758fc380c5db628fe8b6a431a49904b3ac6aca6a76", func := "loop.example/g03113/laws.FnExactConstantPoly", spec := "fnExactConstantPoly", apart := false }
def FnExactConstantPolySaid : Prop := fnExactConstantPolyRow.holds Try.pinned (OpenSpec.ofChange fnExactConstantPolySpec)

/-- ITS FALSE NEIGHBOUR: 'it returns false'. Refute it at one input. -/
def fnExactConstantPolyWrong : ChangeSpec := { name := "fnExactConstantPoly", fn := fun _ => fun
  | [d] => { results := [.lit (.bool false)], args := [d] }
  | _ => none }
def FnExactConstantPolyWrongFalsely : Prop := fnExactConstantPolyRow.holds Try.pinned (OpenSpec.ofChange fnExactConstantPolyWrong)

/-- 'laws.FnExactFormatPerm': WHATEVER THE INPUT: true; the input reads as it did. -/
def fnExactFormatPermSpec : ChangeSpec := { name := "fnExactFormatPerm", fn := fun _ => fun
  | [d] => { results := [.lit (.bool true)], args := [d] }
  | _ => none }
def fnExactFormatPermRow : OpenClaim := { program := "ytdbfpagfikdclaa", sum := "28956d69e063a43440c5be758fc380c5db628fe8b6a431a49904b3ac6aca6a76", func := "loop.example/g03113/laws.FnExactFormatPerm", spec := "fnExactFormatPerm", recurses := true, apart := false }
def FnExactFormatPermSaid : Prop := fnExactFormatPermRow.holds Try.pinned (OpenSpec.ofChange fnExactFormatPermSpec)

/-- ITS FALSE NEIGHBOUR: 'it returns false'. Refute it at one input. -/
def fnExactFormatPermWrong : ChangeSpec := { name := "fnExactFormatPerm", fn := fun _ => fun
  | [d] => { results := [.lit (.bool false)], args := [d] }
  | _ => none }
def FnExactFormatPermWrongFalsely : Prop := fnExactFormatPermRow.holds Try.pinned (OpenSpec.ofChange fnExactFormatPermWrong)

/-- 'laws.FnExactParsePerm': WHATEVER THE INPUT: true; the input reads as it did. -/
def fnExactParsePermSpec : ChangeSpec := { name := "fnExactParsePerm", fn := fun _ => fun
  | [d] => { results := [.lit (.bool true)], args := [d] }
  | _ => none }
def fnExactParsePermRow : OpenClaim := { program := "ytdbfpagfikdclaa", sum := "28956d69e063a43440c5be758fc380c5db628fe8b6a431a49904b3ac6aca6a76", func := "loop.example/g03113/laws.FnExactParsePerm", spec := "fnExactParsePerm", apart := false }
def FnExactParsePermSaid : Prop := fnExactParsePermRow.holds Try.pinned (OpenSpec.ofChange fnExactParsePermSpec)

/-- ITS FALSE NEIGHBOUR: 'it returns false'. Refute it at one input. -/
def fnExactParsePermWrong : ChangeSpec := { name := "fnExactParsePerm", fn := fun _ => fun
  | [d] => { results := [.lit (.bool false)], args := [d] }
  | _ => none }
def FnExactParsePermWrongFalsely : Prop := fnExactParsePermRow.holds Try.pinned (OpenSpec.ofChange fnExactParsePermWrong)

/-- 'laws.FnExactComposePerms': WHATEVER THE INPUT: true; the input reads as it did. -/
def fnExactComposePermsSpec : ChangeSpec := { name := "fnExactComposePerms", fn := fun _ => fun
  | [d1, d2] => { results := [.lit (.bool true)], args := [d1, d2] }
  | _ => none }
def fnExactComposePermsRow : OpenClaim := { program := "ytdbfpagfikdclaa", sum := "28956d69e063a43440c5be758fc380c5db628fe8b6a431a49904b3ac6aca6a76", func := "loop.example/g03113/laws.FnExactComposePerms", spec := "fnExactComposePerms", apart := false }
def FnExactComposePermsSaid : Prop := fnExactComposePermsRow.holds Try.pinned (OpenSpec.ofChange fnExactComposePermsSpec)

/-- ITS FALSE NEIGHBOUR: 'it returns false'. Refute it at one input. -/
def fnExactComposePermsWrong : ChangeSpec := { name := "fnExactComposePerms", fn := fun _ => fun
  | [d1, d2] => { results := [.lit (.bool false)], args := [d1, d2] }
  | _ => none }
def FnExactComposePermsWrongFalsely : Prop := fnExactComposePermsRow.holds Try.pinned (OpenSpec.ofChange fnExactComposePermsWrong)

/-- 'laws.FnExactInversePerm': WHATEVER THE INPUT: true; the input reads as it did. -/
def fnExactInversePermSpec : ChangeSpec := { name := "fnExactInversePerm", fn := fun _ => fun
  | [d] => { results := [.lit (.bool true)], args := [d] }
  | _ => none }
def fnExactInversePermRow : OpenClaim := { program := "ytdbfpagfikdclaa", sum := "28956d69e063a43440c5be758fc380c5db628fe8b6a431a49904b3ac6aca6a76", func := "loop.example/g03113/laws.FnExactInversePerm", spec := "fnExactInversePerm", apart := false }
def FnExactInversePermSaid : Prop := fnExactInversePermRow.holds Try.pinned (OpenSpec.ofChange fnExactInversePermSpec)

/-- ITS FALSE NEIGHBOUR: 'it returns false'. Refute it at one input. -/
def fnExactInversePermWrong : ChangeSpec := { name := "fnExactInversePerm", fn := fun _ => fun
  | [d] => { results := [.lit (.bool false)], args := [d] }
  | _ => none }
def FnExactInversePermWrongFalsely : Prop := fnExactInversePermRow.holds Try.pinned (OpenSpec.ofChange fnExactInversePermWrong)

/- THE SECOND FORM. 'bulk': how many values and letters a reading holds, each counted each time it is reached (what is shared counts as often as it is met; a slice's spare places count too). A statement '..UptoSaid' is the law's where the arguments, and the package variables that the reading takes, are together of bulk at most 1048576: NARROWER than '..Said'. Prove '..Said' where nothing that the law and all that it calls make is longer than what came in: it says more and counts as full. Else prove '..UptoSaid'. A law counts once. -/
mutual
def uptoBulk {H : Type} : DataW H → Nat
  | .lit (.string bytes) => bytes.length + 1
  | .lit _ => 1
  | .nil => 1
  | .ptr d => uptoBulk d + 1
  | .slice elems spare => uptoBulkAll elems + uptoBulkAll spare + 1
  | .agg parts => uptoBulkAll parts + 1
  | .iface _ d => uptoBulk d + 1
  | .map entries => uptoBulkEntries entries + 1
  | .held _ => 1
def uptoBulkAll {H : Type} : List (DataW H) → Nat
  | [] => 0
  | d :: r => uptoBulk d + uptoBulkAll r
def uptoBulkEntries {H : Type} : List (Lit × DataW H) → Nat
  | [] => 0
  | x :: r => uptoBulkEntry x + uptoBulkEntries r
def uptoBulkEntry {H : Type} : Lit × DataW H → Nat
  | (.string bytes, d) => bytes.length + uptoBulk d + 1
  | (_, d) => uptoBulk d + 1
 end
def uptoSmall : (H : Type) → List (DataW H) → Bool := fun _ ds => decide (uptoBulkAll ds ≤ 1048576)
def OpenSpec.upto (s : _root_.Go.ChangeSpec) : _root_.Go.OpenSpec := { _root_.Go.OpenSpec.ofChange s with cond := some uptoSmall }

/-- 'laws.FnExactConstants', WHERE WHAT IT READS IS OF BULK AT MOST 1048576: true; the input reads as it did. -/
def fnExactConstantsUptoRow : OpenClaim := { program := "ytdbfpagfikdclaa", sum := "28956d69e063a43440c5be758fc380c5db628fe8b6a431a49904b3ac6aca6a76", func := "loop.example/g03113/laws.FnExactConstants", spec := "fnExactConstants", apart := false, narrowed := true }
def FnExactConstantsUptoSaid : Prop := fnExactConstantsUptoRow.holds Try.pinned (OpenSpec.upto fnExactConstantsSpec)

/-- 'laws.FnExactFormatInt', WHERE WHAT IT READS IS OF BULK AT MOST 1048576: true; the input reads as it did. -/
def fnExactFormatIntUptoRow : OpenClaim := { program := "ytdbfpagfikdclaa", sum := "28956d69e063a43440c5be758fc380c5db628fe8b6a431a49904b3ac6aca6a76", func := "loop.example/g03113/laws.FnExactFormatInt", spec := "fnExactFormatInt", recurses := true, apart := false, narrowed := true }
def FnExactFormatIntUptoSaid : Prop := fnExactFormatIntUptoRow.holds Try.pinned (OpenSpec.upto fnExactFormatIntSpec)

/-- 'laws.FnExactIdentityPerm', WHERE WHAT IT READS IS OF BULK AT MOST 1048576: true; the input reads as it did. -/
def fnExactIdentityPermUptoRow : OpenClaim := { program := "ytdbfpagfikdclaa", sum := "28956d69e063a43440c5be758fc380c5db628fe8b6a431a49904b3ac6aca6a76", func := "loop.example/g03113/laws.FnExactIdentityPerm", spec := "fnExactIdentityPerm", apart := false, narrowed := true }
def FnExactIdentityPermUptoSaid : Prop := fnExactIdentityPermUptoRow.holds Try.pinned (OpenSpec.upto fnExactIdentityPermSpec)

/-- 'laws.FnExactIsPerm', WHERE WHAT IT READS IS OF BULK AT MOST 1048576: true; the input reads as it did. -/
def fnExactIsPermUptoRow : OpenClaim := { program := "ytdbfpagfikdclaa", sum := "28956d69e063a43440c5be758fc380c5db628fe8b6a431a49904b3ac6aca6a76", func := "loop.example/g03113/laws.FnExactIsPerm", spec := "fnExactIsPerm", apart := false, narrowed := true }
def FnExactIsPermUptoSaid : Prop := fnExactIsPermUptoRow.holds Try.pinned (OpenSpec.upto fnExactIsPermSpec)

/-- 'laws.FnExactLongestPerm', WHERE WHAT IT READS IS OF BULK AT MOST 1048576: true; the input reads as it did. -/
def fnExactLongestPermUptoRow : OpenClaim := { program := "ytdbfpagfikdclaa", sum := "28956d69e063a43440c5be758fc380c5db628fe8b6a431a49904b3ac6aca6a76", func := "loop.example/g03113/laws.FnExactLongestPerm", spec := "fnExactLongestPerm", apart := false, narrowed := true }
def FnExactLongestPermUptoSaid : Prop := fnExactLongestPermUptoRow.holds Try.pinned (OpenSpec.upto fnExactLongestPermSpec)

/-- 'laws.FnExactIsGrassmannian', WHERE WHAT IT READS IS OF BULK AT MOST 1048576: true; the input reads as it did. -/
def fnExactIsGrassmannianUptoRow : OpenClaim := { program := "ytdbfpagfikdclaa", sum := "28956d69e063a43440c5be758fc380c5db628fe8b6a431a49904b3ac6aca6a76", func := "loop.example/g03113/laws.FnExactIsGrassmannian", spec := "fnExactIsGrassmannian", apart := false, narrowed := true }
def FnExactIsGrassmannianUptoSaid : Prop := fnExactIsGrassmannianUptoRow.holds Try.pinned (OpenSpec.upto fnExactIsGrassmannianSpec)

/-- 'laws.FnExactRankAt', WHERE WHAT IT READS IS OF BULK AT MOST 1048576: true; the input reads as it did. -/
def fnExactRankAtUptoRow : OpenClaim := { program := "ytdbfpagfikdclaa", sum := "28956d69e063a43440c5be758fc380c5db628fe8b6a431a49904b3ac6aca6a76", func := "loop.example/g03113/laws.FnExactRankAt", spec := "fnExactRankAt", apart := false, narrowed := true }
def FnExactRankAtUptoSaid : Prop := fnExactRankAtUptoRow.holds Try.pinned (OpenSpec.upto fnExactRankAtSpec)

/-- 'laws.FnExactConstantPoly', WHERE WHAT IT READS IS OF BULK AT MOST 1048576: true; the input reads as it did. -/
def fnExactConstantPolyUptoRow : OpenClaim := { program := "ytdbfpagfikdclaa", sum := "28956d69e063a43440c5be758fc380c5db628fe8b6a431a49904b3ac6aca6a76", func := "loop.example/g03113/laws.FnExactConstantPoly", spec := "fnExactConstantPoly", apart := false, narrowed := true }
def FnExactConstantPolyUptoSaid : Prop := fnExactConstantPolyUptoRow.holds Try.pinned (OpenSpec.upto fnExactConstantPolySpec)

/-- 'laws.FnExactFormatPerm', WHERE WHAT IT READS IS OF BULK AT MOST 1048576: true; the input reads as it did. -/
def fnExactFormatPermUptoRow : OpenClaim := { program := "ytdbfpagfikdclaa", sum := "28956d69e063a43440c5be758fc380c5db628fe8b6a431a49904b3ac6aca6a76", func := "loop.example/g03113/laws.FnExactFormatPerm", spec := "fnExactFormatPerm", recurses := true, apart := false, narrowed := true }
def FnExactFormatPermUptoSaid : Prop := fnExactFormatPermUptoRow.holds Try.pinned (OpenSpec.upto fnExactFormatPermSpec)

/-- 'laws.FnExactParsePerm', WHERE WHAT IT READS IS OF BULK AT MOST 1048576: true; the input reads as it did. -/
def fnExactParsePermUptoRow : OpenClaim := { program := "ytdbfpagfikdclaa", sum := "28956d69e063a43440c5be758fc380c5db628fe8b6a431a49904b3ac6aca6a76", func := "loop.example/g03113/laws.FnExactParsePerm", spec := "fnExactParsePerm", apart := false, narrowed := true }
def FnExactParsePermUptoSaid : Prop := fnExactParsePermUptoRow.holds Try.pinned (OpenSpec.upto fnExactParsePermSpec)

/-- 'laws.FnExactComposePerms', WHERE WHAT IT READS IS OF BULK AT MOST 1048576: true; the input reads as it did. -/
def fnExactComposePermsUptoRow : OpenClaim := { program := "ytdbfpagfikdclaa", sum := "28956d69e063a43440c5be758fc380c5db628fe8b6a431a49904b3ac6aca6a76", func := "loop.example/g03113/laws.FnExactComposePerms", spec := "fnExactComposePerms", apart := false, narrowed := true }
def FnExactComposePermsUptoSaid : Prop := fnExactComposePermsUptoRow.holds Try.pinned (OpenSpec.upto fnExactComposePermsSpec)

/-- 'laws.FnExactInversePerm', WHERE WHAT IT READS IS OF BULK AT MOST 1048576: true; the input reads as it did. -/
def fnExactInversePermUptoRow : OpenClaim := { program := "ytdbfpagfikdclaa", sum := "28956d69e063a43440c5be758fc380c5db628fe8b6a431a49904b3ac6aca6a76", func := "loop.example/g03113/laws.FnExactInversePerm", spec := "fnExactInversePerm", apart := false, narrowed := true }
def FnExactInversePermUptoSaid : Prop := fnExactInversePermUptoRow.holds Try.pinned (OpenSpec.upto fnExactInversePermSpec)

end Rows
end Go.Proofs.Ytdbfpagfikdclaa
