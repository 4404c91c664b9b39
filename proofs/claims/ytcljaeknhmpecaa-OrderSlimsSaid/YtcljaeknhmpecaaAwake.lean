import Derived.Test.YtcljaeknhmpecaaCfg
import Derived.Test.YtcljaeknhmpecaaApexA36
import Derived.KernelRfl
set_option linter.all false
open Go Go.Apex
namespace Go.Proofs.Try
set_option maxRecDepth 100000
theorem awakeN : (env acfg 301).pure 14 [] = some (.bool true) := by kernel_rfl
theorem awake : fnO acfg 14 [] = some (.bool true) := fnO_some.2 ⟨301, awakeN⟩
end Go.Proofs.Try
