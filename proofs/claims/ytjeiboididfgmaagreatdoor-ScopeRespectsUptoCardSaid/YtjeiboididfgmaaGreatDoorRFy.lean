/- Awake and ScopeKnown yield true. No condition. -/
import Derived.Test.YtjeiboididfgmaaGreatDoorRFz
set_option maxRecDepth 100000
namespace Go.V
open Go Go.Proofs.Tryz
theorem cokF:COk (C0.told tellF):=COk.told cok0 tellF_ok
theorem awake_told:yields (C0.told tellF) 3000 21 [] (.bool true)=true:=by kernel_rfl
theorem awake_c (H:HM):PureF prog G0 21 [] H (.bool true):=(X10 cokF awake_told).2 H
end Go.V
