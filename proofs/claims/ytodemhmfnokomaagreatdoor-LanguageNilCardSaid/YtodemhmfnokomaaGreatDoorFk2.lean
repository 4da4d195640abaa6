/- Facts, run by the kernel. Conditions: none. -/
import Derived.Test.YtodemhmfnokomaaGreatDoorFd
namespace Go.Proofs.YtodemhmfnokomaaGreatDoor
namespace Ev
open Go

theorem fc268_1_run : chkFact fc268_1 (callR E0 idle0 L1 60 noY 268 fc268_1.args (heapOf fc268_1)) = true := by kernel_rfl

end Ev
end Go.Proofs.YtodemhmfnokomaaGreatDoor
