/- Facts of the sample 2, run by the kernel. Conditions: none. -/
import Derived.Test.YtodemhmfnokomaaGreatDoorSdc
import Derived.KernelRfl
namespace Go.Proofs.YtodemhmfnokomaaGreatDoor
namespace Ev
open Go

theorem q2c277_1_run : chkFact q2c277_1 (callR E0 idle0 q2c277_1S 60 noY 277 q2c277_1.args (heapOf q2c277_1)) = true := by kernel_rfl
theorem q2c277_2_run : chkFact q2c277_2 (callR E0 idle0 q2c277_2S 60 noY 277 q2c277_2.args (heapOf q2c277_2)) = true := by kernel_rfl
theorem q2c277_3_run : chkFact q2c277_3 (callR E0 idle0 q2c277_3S 60 noY 277 q2c277_3.args (heapOf q2c277_3)) = true := by kernel_rfl

end Ev
end Go.Proofs.YtodemhmfnokomaaGreatDoor
