/- Facts of the sample 2, run by the kernel. Conditions: none. -/
import Derived.Test.YtodemhmfnokomaaGreatDoorSdc
import Derived.KernelRfl
namespace Go.Proofs.YtodemhmfnokomaaGreatDoor
namespace Ev
open Go

theorem q2c219_1_run : chkFact q2c219_1 (callR E0 idle0 q2c219_1S 60 noY 219 q2c219_1.args (heapOf q2c219_1)) = true := by kernel_rfl
theorem q2c219_2_run : chkFact q2c219_2 (callR E0 idle0 q2c219_2S 60 noY 219 q2c219_2.args (heapOf q2c219_2)) = true := by kernel_rfl
theorem q2c219_3_run : chkFact q2c219_3 (callR E0 idle0 q2c219_3S 60 noY 219 q2c219_3.args (heapOf q2c219_3)) = true := by kernel_rfl
theorem q2c55_0_run : chkFact q2c55_0 (callR E0 idle0 q2c55_0S 60 noY 55 q2c55_0.args (heapOf q2c55_0)) = true := by kernel_rfl
theorem q2c9_0_run : chkFact q2c9_0 (callR E0 idle0 q2c9_0S 60 noY 9 q2c9_0.args (heapOf q2c9_0)) = true := by kernel_rfl

end Ev
end Go.Proofs.YtodemhmfnokomaaGreatDoor
