/- Contracts of the functions that the laws reach, and plain laws of what they compute (text G11); no condition. -/
import Derived.Test.YtppdngemnbflmaaGreatDoorG10
set_option maxRecDepth 100000
set_option maxHeartbeats 4000000
namespace Go.Ab
open Go.Proofs
section
variable{kCa:Bool}
end
end Go.Ab
