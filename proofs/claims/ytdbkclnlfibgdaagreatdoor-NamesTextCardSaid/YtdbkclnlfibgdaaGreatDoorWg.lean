/- Joined by program of: Nn, No. -/
import Derived.Test.YtdbkclnlfibgdaaGreatDoorWf
set_option maxRecDepth 100000
set_option maxHeartbeats 4000000
namespace Go.Proofs.YtdbkclnlfibgdaaGreatDoor
open Go.SX Go.Ty Go.MapKept Go.RowKit Go.Tx
section nil
variable {w : World} {K : KV}
end nil
def k1 : ByteArray := ByteArray.mk #[40, 105, 110, 116, 32, 124, 32, 115, 116, 114, 41, 32, 124, 32, 110, 105, 108, 32, 124, 32, 105, 110, 116]
def k2 : ByteArray := ByteArray.mk #[117, 46, 86]
def k3 : ByteArray := ByteArray.mk #[120, 46, 89]
def k4 : ByteArray := ByteArray.mk #[65, 32, 124, 32, 97, 110, 121]
end Go.Proofs.YtdbkclnlfibgdaaGreatDoor
