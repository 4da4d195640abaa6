/- Facts, run by the kernel. Conditions: none. -/
import Derived.Test.YtodemhmfnokomaaGreatDoorFd
namespace Go.Proofs.YtodemhmfnokomaaGreatDoor
namespace Ev
open Go

theorem fc218_1_run : chkFact fc218_1 (callR E0 idle0 L3 60 noY 218 fc218_1.args (heapOf fc218_1)) = true := by kernel_rfl

end Ev
end Go.Proofs.YtodemhmfnokomaaGreatDoor
