/- Facts of the sample 2, run by the kernel. Conditions: none. -/
import Derived.Test.YtodemhmfnokomaaGreatDoorSdc
import Derived.KernelRfl
namespace Go.Proofs.YtodemhmfnokomaaGreatDoor
namespace Ev
open Go

theorem q2c268_0_run : chkFact q2c268_0 (callR E0 idle0 q2c268_0S 60 noY 268 q2c268_0.args (heapOf q2c268_0)) = true := by kernel_rfl
theorem q2c268_1_run : chkFact q2c268_1 (callR E0 idle0 q2c268_1S 60 noY 268 q2c268_1.args (heapOf q2c268_1)) = true := by kernel_rfl

end Ev
end Go.Proofs.YtodemhmfnokomaaGreatDoor
