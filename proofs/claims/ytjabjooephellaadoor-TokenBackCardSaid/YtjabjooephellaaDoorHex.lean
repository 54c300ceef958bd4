/- A number's digits at base 16, by the program and by the document. No program in sight. -/
import Derived.Test.YtjabjooephellaaDoorLexA
import Derived.Test.YtjabjooephellaaDoorXBx4
import Derived.Laws.BitsLemmas
namespace Go.Proofs.YtjabjooephellaaDoor.Lx
set_option linter.unusedVariables false
set_option linter.unusedSimpArgs false
open Go.RowKit Go.Proofs.YtjabjooephellaaDoor.XB Go.Proofs.YtjabjooephellaaDoorW.PrintWords Go.Proofs.YtjabjooephellaaDoorW.PrintLast Go.Proofs.YtjabjooephellaaDoorW.PrintMore

/-- The letter of a digit. -/
def dg (d : Int) : Int := bt hxD d
end Go.Proofs.YtjabjooephellaaDoor.Lx
