/- Facts, run by the kernel. Conditions: none. -/
import Derived.Test.YtodemhmfnokomaaGreatDoorFd
namespace Go.Proofs.YtodemhmfnokomaaGreatDoor
namespace Ev
open Go

theorem fc277_1_run : chkFact fc277_1 (callR E0 idle0 L2 60 noY 277 fc277_1.args (heapOf fc277_1)) = true := by kernel_rfl

end Ev
end Go.Proofs.YtodemhmfnokomaaGreatDoor
