/-
  No cell of these rows narrows 'for every input' (looked for: loops, veiled, ifaces, maps, wideKeys, modest, calm, conditions, laid).
  DERIVED. THE GIVEN ROWS OF THIS SEAT. 5 by the template 'for every input the law returns true; each argument reads behind the call as it read before'; 0 by the template 'total and deterministic' (their statements: YtjabjooephellaaTotals.lean).
  GIVEN WITH THE SEED: the statements are not yours to turn. If you find one false, say at which input.
  Laid BY PROGRAM, IN A SANDBOX (cutbox-rows.mjs): the forced cells as the released guide's own fill.sh prints them over the translation 9bb69ba6c7526fba… (all of the seat's roots in one cut). By AI agents, Wed Nov 11 2026. No macro, syntax, notation, axiom, sorry.
-/
import Derived.Test.YtjabjooephellaaChecked
import GoSem.Claim
import GoSem.ClaimJoined
import GoSem.ClaimMapViews
import Derived.JoinedTies
import Derived.KernelRfl
namespace Go.Proofs.Ytjabjooephellaa
/- THE CELL 'sum', in the pinned program and in every row, IS THE sha256 OF THE DUMP (.gsa) THAT YtjabjooephellaaProg.lean LOADS. Nothing in Lean hashes anything: it is a label: what it is worth is what the hold of that sum in a sandbox is worth. -/
noncomputable def Try.pinned : Pinned := { name := "ytjabjooephellaa", sum := "9bb69ba6c7526fba028ad91bef9117acd5b9f0a8121b08c56bd520b7dda2629f", checked := Try.checked }
namespace Rows
def none {H : Type} : Left H := { results := [], args := [] }

/-- 'linotypelaw22.TokenBlanks': WHATEVER THE INPUT: true; the input reads as it did. -/
def tokenBlanksSpec : ChangeSpec := { name := "tokenBlanks", fn := fun _ => fun
  | [d1, d2, d3] => { results := [.lit (.bool true)], args := [d1, d2, d3] }
  | _ => none }
def tokenBlanksRow : OpenClaim := { program := "ytjabjooephellaa", sum := "9bb69ba6c7526fba028ad91bef9117acd5b9f0a8121b08c56bd520b7dda2629f", func := "linotype/linotypelaw22.TokenBlanks", spec := "tokenBlanks", inPlace := ["math/bits.Add64"], unfollowed := true, recurses := true, apart := false }
def TokenBlanksSaid : Prop := tokenBlanksRow.holds Try.pinned (OpenSpec.ofChange tokenBlanksSpec)

/-- ITS FALSE NEIGHBOUR: 'it returns false'. Refute it at one input. -/
def tokenBlanksWrong : ChangeSpec := { name := "tokenBlanks", fn := fun _ => fun
  | [d1, d2, d3] => { results := [.lit (.bool false)], args := [d1, d2, d3] }
  | _ => none }
def TokenBlanksWrongFalsely : Prop := tokenBlanksRow.holds Try.pinned (OpenSpec.ofChange tokenBlanksWrong)

/-- 'linotypelaw22.TokenParts': WHATEVER THE INPUT: true; the input reads as it did. -/
def tokenPartsSpec : ChangeSpec := { name := "tokenParts", fn := fun _ => fun
  | [d] => { results := [.lit (.bool true)], args := [d] }
  | _ => none }
def tokenPartsRow : OpenClaim := { program := "ytjabjooephellaa", sum := "9bb69ba6c7526fba028ad91bef9117acd5b9f0a8121b08c56bd520b7dda2629f", func := "linotype/linotypelaw22.TokenParts", spec := "tokenParts", inPlace := ["math/bits.Add64"], unfollowed := true, recurses := true, apart := false }
def TokenPartsSaid : Prop := tokenPartsRow.holds Try.pinned (OpenSpec.ofChange tokenPartsSpec)

/-- ITS FALSE NEIGHBOUR: 'it returns false'. Refute it at one input. -/
def tokenPartsWrong : ChangeSpec := { name := "tokenParts", fn := fun _ => fun
  | [d] => { results := [.lit (.bool false)], args := [d] }
  | _ => none }
def TokenPartsWrongFalsely : Prop := tokenPartsRow.holds Try.pinned (OpenSpec.ofChange tokenPartsWrong)

/-- 'linotypelaw23.ExprSums': WHATEVER THE INPUT: true; the input reads as it did. -/
def exprSumsSpec : ChangeSpec := { name := "exprSums", fn := fun _ => fun
  | [d1, d2, d3, d4, d5] => { results := [.lit (.bool true)], args := [d1, d2, d3, d4, d5] }
  | _ => none }
def exprSumsRow : OpenClaim := { program := "ytjabjooephellaa", sum := "9bb69ba6c7526fba028ad91bef9117acd5b9f0a8121b08c56bd520b7dda2629f", func := "linotype/linotypelaw23.ExprSums", spec := "exprSums", inPlace := ["math/bits.Add64"], unfollowed := true, recurses := true, apart := false }
def ExprSumsSaid : Prop := exprSumsRow.holds Try.pinned (OpenSpec.ofChange exprSumsSpec)

/-- ITS FALSE NEIGHBOUR: 'it returns false'. Refute it at one input. -/
def exprSumsWrong : ChangeSpec := { name := "exprSums", fn := fun _ => fun
  | [d1, d2, d3, d4, d5] => { results := [.lit (.bool false)], args := [d1, d2, d3, d4, d5] }
  | _ => none }
def ExprSumsWrongFalsely : Prop := exprSumsRow.holds Try.pinned (OpenSpec.ofChange exprSumsWrong)

/-- 'linotypelaw23.ExprFree': WHATEVER THE INPUT: true; the input reads as it did. -/
def exprFreeSpec : ChangeSpec := { name := "exprFree", fn := fun _ => fun
  | [d1, d2, d3, d4] => { results := [.lit (.bool true)], args := [d1, d2, d3, d4] }
  | _ => none }
def exprFreeRow : OpenClaim := { program := "ytjabjooephellaa", sum := "9bb69ba6c7526fba028ad91bef9117acd5b9f0a8121b08c56bd520b7dda2629f", func := "linotype/linotypelaw23.ExprFree", spec := "exprFree", inPlace := ["math/bits.Add64"], unfollowed := true, recurses := true, apart := false }
def ExprFreeSaid : Prop := exprFreeRow.holds Try.pinned (OpenSpec.ofChange exprFreeSpec)

/-- ITS FALSE NEIGHBOUR: 'it returns false'. Refute it at one input. -/
def exprFreeWrong : ChangeSpec := { name := "exprFree", fn := fun _ => fun
  | [d1, d2, d3, d4] => { results := [.lit (.bool false)], args := [d1, d2, d3, d4] }
  | _ => none }
def ExprFreeWrongFalsely : Prop := exprFreeRow.holds Try.pinned (OpenSpec.ofChange exprFreeWrong)

/-- 'linotypelaw23.ExprBack': WHATEVER THE INPUT: true; the input reads as it did. -/
def exprBackSpec : ChangeSpec := { name := "exprBack", fn := fun _ => fun
  | [d1, d2, d3] => { results := [.lit (.bool true)], args := [d1, d2, d3] }
  | _ => none }
def exprBackRow : OpenClaim := { program := "ytjabjooephellaa", sum := "9bb69ba6c7526fba028ad91bef9117acd5b9f0a8121b08c56bd520b7dda2629f", func := "linotype/linotypelaw23.ExprBack", spec := "exprBack", inPlace := ["math/bits.Add64"], unfollowed := true, recurses := true, apart := false }
def ExprBackSaid : Prop := exprBackRow.holds Try.pinned (OpenSpec.ofChange exprBackSpec)

/-- ITS FALSE NEIGHBOUR: 'it returns false'. Refute it at one input. -/
def exprBackWrong : ChangeSpec := { name := "exprBack", fn := fun _ => fun
  | [d1, d2, d3] => { results := [.lit (.bool false)], args := [d1, d2, d3] }
  | _ => none }
def ExprBackWrongFalsely : Prop := exprBackRow.holds Try.pinned (OpenSpec.ofChange exprBackWrong)

/- THE SECOND FORM. 'bulk': how many values and letters a reading holds, each counted each time it is reached (what is shared counts as often as it is met; a slice's spare places count too). A statement '..UptoSaid' is the law's where the arguments, and the package variables that the reading takes, are together of bulk at most 1048576: NARROWER than '..Said'. Prove '..Said' where nothing that the law and all that it calls make is longer than what came in: it says more and counts as full. Else prove '..UptoSaid'. A law counts once. -/
mutual
def uptoBulk {H : Type} : DataW H → Nat
  | .lit (.string bytes) => bytes.length + 1
  | .lit _ => 1
  | .nil => 1
  | .ptr d => uptoBulk d + 1
  | .slice elems spare => uptoBulkAll elems + uptoBulkAll spare + 1
  | .agg parts => uptoBulkAll parts + 1
  | .iface _ d => uptoBulk d + 1
  | .map entries => uptoBulkEntries entries + 1
  | .held _ => 1
def uptoBulkAll {H : Type} : List (DataW H) → Nat
  | [] => 0
  | d :: r => uptoBulk d + uptoBulkAll r
def uptoBulkEntries {H : Type} : List (Lit × DataW H) → Nat
  | [] => 0
  | x :: r => uptoBulkEntry x + uptoBulkEntries r
def uptoBulkEntry {H : Type} : Lit × DataW H → Nat
  | (.string bytes, d) => bytes.length + uptoBulk d + 1
  | (_, d) => uptoBulk d + 1
 end
def uptoSmall : (H : Type) → List (DataW H) → Bool := fun _ ds => decide (uptoBulkAll ds ≤ 1048576)
def OpenSpec.upto (s : _root_.Go.ChangeSpec) : _root_.Go.OpenSpec := { _root_.Go.OpenSpec.ofChange s with cond := some uptoSmall }

/-- 'linotypelaw22.TokenBlanks', WHERE WHAT IT READS IS OF BULK AT MOST 1048576: true; the input reads as it did. -/
def tokenBlanksUptoRow : OpenClaim := { program := "ytjabjooephellaa", sum := "9bb69ba6c7526fba028ad91bef9117acd5b9f0a8121b08c56bd520b7dda2629f", func := "linotype/linotypelaw22.TokenBlanks", spec := "tokenBlanks", inPlace := ["math/bits.Add64"], unfollowed := true, recurses := true, apart := false, narrowed := true }
def TokenBlanksUptoSaid : Prop := tokenBlanksUptoRow.holds Try.pinned (OpenSpec.upto tokenBlanksSpec)

/-- 'linotypelaw22.TokenParts', WHERE WHAT IT READS IS OF BULK AT MOST 1048576: true; the input reads as it did. -/
def tokenPartsUptoRow : OpenClaim := { program := "ytjabjooephellaa", sum := "9bb69ba6c7526fba028ad91bef9117acd5b9f0a8121b08c56bd520b7dda2629f", func := "linotype/linotypelaw22.TokenParts", spec := "tokenParts", inPlace := ["math/bits.Add64"], unfollowed := true, recurses := true, apart := false, narrowed := true }
def TokenPartsUptoSaid : Prop := tokenPartsUptoRow.holds Try.pinned (OpenSpec.upto tokenPartsSpec)

/-- 'linotypelaw23.ExprSums', WHERE WHAT IT READS IS OF BULK AT MOST 1048576: true; the input reads as it did. -/
def exprSumsUptoRow : OpenClaim := { program := "ytjabjooephellaa", sum := "9bb69ba6c7526fba028ad91bef9117acd5b9f0a8121b08c56bd520b7dda2629f", func := "linotype/linotypelaw23.ExprSums", spec := "exprSums", inPlace := ["math/bits.Add64"], unfollowed := true, recurses := true, apart := false, narrowed := true }
def ExprSumsUptoSaid : Prop := exprSumsUptoRow.holds Try.pinned (OpenSpec.upto exprSumsSpec)

/-- 'linotypelaw23.ExprFree', WHERE WHAT IT READS IS OF BULK AT MOST 1048576: true; the input reads as it did. -/
def exprFreeUptoRow : OpenClaim := { program := "ytjabjooephellaa", sum := "9bb69ba6c7526fba028ad91bef9117acd5b9f0a8121b08c56bd520b7dda2629f", func := "linotype/linotypelaw23.ExprFree", spec := "exprFree", inPlace := ["math/bits.Add64"], unfollowed := true, recurses := true, apart := false, narrowed := true }
def ExprFreeUptoSaid : Prop := exprFreeUptoRow.holds Try.pinned (OpenSpec.upto exprFreeSpec)

/-- 'linotypelaw23.ExprBack', WHERE WHAT IT READS IS OF BULK AT MOST 1048576: true; the input reads as it did. -/
def exprBackUptoRow : OpenClaim := { program := "ytjabjooephellaa", sum := "9bb69ba6c7526fba028ad91bef9117acd5b9f0a8121b08c56bd520b7dda2629f", func := "linotype/linotypelaw23.ExprBack", spec := "exprBack", inPlace := ["math/bits.Add64"], unfollowed := true, recurses := true, apart := false, narrowed := true }
def ExprBackUptoSaid : Prop := exprBackUptoRow.holds Try.pinned (OpenSpec.upto exprBackSpec)

end Rows
end Go.Proofs.Ytjabjooephellaa
