import Derived.Test.YtcljaeknhmpecaaGreatCfg
import Derived.Test.YtcljaeknhmpecaaGreatApexA36
import Derived.KernelRfl
set_option linter.all false
open Go Go.Apex
namespace Go.Proofs.Tryz
set_option maxRecDepth 100000
theorem awakeN : (env acfg 301).pure 5 [] = some (.bool true) := by kernel_rfl
theorem awake : fnO acfg 5 [] = some (.bool true) := fnO_some.2 ⟨301, awakeN⟩
end Go.Proofs.Tryz
