/- The third reference: names that correspond (for its alike). No condition. The third reference: what is equal up to renaming is so for its AlphaOf, too. No condition. The law ScopeCanon over abstract states. No condition. -/
import Derived.Test.YtjeiboididfgmaaGreatDoorQX
import Derived.Test.YtjeiboididfgmaaGreatDoorQK
import Derived.Test.YtjeiboididfgmaaGreatDoorQL
import Derived.Test.YtjeiboididfgmaaGreatDoorQF
set_option linter.unusedVariables false
set_option linter.unusedSimpArgs false
set_option linter.defProp false
set_option maxRecDepth 100000
namespace Go.V
open Go Go.Proofs.Tryz
section
variable {G:GT} {H:HM}
end
section
variable {G:GT}
end
section
variable {H:HM}
end
end Go.V
