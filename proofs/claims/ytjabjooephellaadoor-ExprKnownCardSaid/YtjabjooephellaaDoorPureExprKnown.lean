/-
The chapter's examples are answered as it says: a closed statement, without a condition.
-/
import Derived.Test.YtjabjooephellaaDoorXEx14
namespace Go.Proofs.YtjabjooephellaaDoor.Pure
open Go.RowKit Go.Proofs.YtjabjooephellaaDoor.XE Go.Proofs.YtjabjooephellaaDoorW.PrintWords Go.Proofs.YtjabjooephellaaDoorW.PrintLast Go.Proofs.YtjabjooephellaaDoorW.PrintMore
theorem ExprKnown : ∃ k, linotypelaw23_ExprKnown.f k = some true := ⟨80, by decide +kernel⟩
end Go.Proofs.YtjabjooephellaaDoor.Pure
