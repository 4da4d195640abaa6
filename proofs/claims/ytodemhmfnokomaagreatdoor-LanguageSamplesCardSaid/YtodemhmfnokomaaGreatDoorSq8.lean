/- Facts of the sample 2, run by the kernel. Conditions: none. -/
import Derived.Test.YtodemhmfnokomaaGreatDoorSdc
import Derived.KernelRfl
namespace Go.Proofs.YtodemhmfnokomaaGreatDoor
namespace Ev
open Go

theorem q2c218_0_run : chkFact q2c218_0 (callR E0 idle0 q2c218_0S 60 noY 218 q2c218_0.args (heapOf q2c218_0)) = true := by kernel_rfl
theorem q2c218_1_run : chkFact q2c218_1 (callR E0 idle0 q2c218_1S 60 noY 218 q2c218_1.args (heapOf q2c218_1)) = true := by kernel_rfl
theorem q2c218_2_run : chkFact q2c218_2 (callR E0 idle0 q2c218_2S 60 noY 218 q2c218_2.args (heapOf q2c218_2)) = true := by kernel_rfl
theorem q2c218_3_run : chkFact q2c218_3 (callR E0 idle0 q2c218_3S 60 noY 218 q2c218_3.args (heapOf q2c218_3)) = true := by kernel_rfl
theorem q2c219_0_run : chkFact q2c219_0 (callR E0 idle0 q2c219_0S 60 noY 219 q2c219_0.args (heapOf q2c219_0)) = true := by kernel_rfl

end Ev
end Go.Proofs.YtodemhmfnokomaaGreatDoor
