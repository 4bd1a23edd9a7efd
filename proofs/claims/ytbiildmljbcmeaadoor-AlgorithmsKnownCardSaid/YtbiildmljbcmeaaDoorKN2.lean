import Derived.Test.YtbiildmljbcmeaaDoorTabE
import Derived.Test.YtbiildmljbcmeaaDoorB41
open Ab Go TabE
namespace KN2
abbrev A7:AV:=.agg [.int .u8 7,.sl false [.int .u8 3] (some 1),.sl false [.int .u8 255] (some 1),.int .u8 7]
theorem back7:aCall E 300 0 7 [A7] []=some (.ret (.bool true),[]):=by kernel_rfl
end KN2
