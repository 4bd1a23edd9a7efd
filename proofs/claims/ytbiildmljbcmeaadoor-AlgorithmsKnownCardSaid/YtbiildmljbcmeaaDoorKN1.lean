import Derived.Test.YtbiildmljbcmeaaDoorTabE
import Derived.Test.YtbiildmljbcmeaaDoorB41
open Ab Go TabE
namespace KN1
abbrev nilb:AV:=.sl true [] (some 0)
abbrev A1:AV:=.agg [.int .u8 1,nilb,nilb,.int .u8 0]
abbrev A2:AV:=.agg [.int .u8 2,nilb,nilb,.int .u8 0]
theorem lives:aCall E 200 0 14 [] []=some (.ret (.bool true),[]):=by kernel_rfl
theorem same12:aCall E 300 0 5 [A1,A2] []=some (.ret (.bool true),[]):=by kernel_rfl
end KN1
