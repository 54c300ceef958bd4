/-
The chapter's examples are answered as it says: a closed statement, without a condition.
-/
import Derived.Test.YtjabjooephellaaDoorXKx11
namespace Go.Proofs.YtjabjooephellaaDoor.Pure
open Go.RowKit Go.Proofs.YtjabjooephellaaDoor.XK Go.Proofs.YtjabjooephellaaDoorW.PrintWords Go.Proofs.YtjabjooephellaaDoorW.PrintLast Go.Proofs.YtjabjooephellaaDoorW.PrintMore
theorem TokenKnown : ∃ k, linotypelaw22_TokenKnown.f k = some true := ⟨60, by decide +kernel⟩
end Go.Proofs.YtjabjooephellaaDoor.Pure
