/- The third reference: names that correspond (for its alike). No condition. The third reference: what is equal up to renaming is so for its AlphaOf, too. No condition. The law ScopeCanon over abstract states. No condition. -/
import Derived.Test.YtjeiboididfgmaaGreatDoorRX
import Derived.Test.YtjeiboididfgmaaGreatDoorRK
import Derived.Test.YtjeiboididfgmaaGreatDoorRL
import Derived.Test.YtjeiboididfgmaaGreatDoorRF
set_option linter.unusedVariables false
set_option linter.unusedSimpArgs false
set_option linter.defProp false
set_option maxRecDepth 100000
namespace Go.V
open Go Go.Proofs.Tryz
section
variable {G:GT} {H:HM}
end
section
variable {G:GT}
end
theorem sCanon_good {e:Ex} (hi:Inp e) (hc:check e=0):UG e (sCanon e)/\sCanon e=canonF e:=by
 have he:=hi.okk hc
 obtain ⟨h1,h2,h3,h4,h5⟩:=canon_good he
 have hs:sCanon e=canonF e:=by unfold sCanon;rw[if_pos hc]
 rw[<-hs] at h1 h2 h3 h4 h5
 exact ⟨⟨⟨h3,h2,by rw[h4];exact he.2.2.1,by rw[h5];exact he.2.2.2⟩,⟨h3,by rw[h4];exact he.2.2.1,by rw[h5];exact he.2.2.2⟩,left_check hc h1 h2,h1⟩,hs⟩
section
variable {H:HM}
end
end Go.V
