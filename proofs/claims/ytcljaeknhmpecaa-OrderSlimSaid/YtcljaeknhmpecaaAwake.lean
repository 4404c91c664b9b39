import Derived.Test.YtcljaeknhmpecaaCfg
import Derived.Test.YtcljaeknhmpecaaApexA36
import Derived.KernelRfl
set_option linter.all false
set_option linter.unusedVariables false
set_option linter.unusedSimpArgs false
set_option linter.unusedSectionVars false
set_option linter.deprecated false
/- The program is awake: a closed sum, found by the kernel. -/
open Go Go.Apex
namespace Go.Proofs.Try
set_option maxRecDepth 100000
theorem awakeN : (env acfg 301).pure 14 [] = some (.bool true) := by kernel_rfl
theorem awake : fnO acfg 14 [] = some (.bool true) := fnO_some.2 ⟨301, awakeN⟩
end Go.Proofs.Try

