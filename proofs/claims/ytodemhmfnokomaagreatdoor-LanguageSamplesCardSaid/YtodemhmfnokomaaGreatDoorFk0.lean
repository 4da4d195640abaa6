/- Facts, run by the kernel. Conditions: none. -/
import Derived.Test.YtodemhmfnokomaaGreatDoorFd
namespace Go.Proofs.YtodemhmfnokomaaGreatDoor
namespace Ev
open Go

theorem fc337_0_run : chkFact fc337_0 (callR E0 idle0 L0 60 noY 337 fc337_0.args (heapOf fc337_0)) = true := by kernel_rfl
theorem fc337_1_run : chkFact fc337_1 (callR E0 idle0 L0 60 noY 337 fc337_1.args (heapOf fc337_1)) = true := by kernel_rfl
theorem fc337_2_run : chkFact fc337_2 (callR E0 idle0 L0 60 noY 337 fc337_2.args (heapOf fc337_2)) = true := by kernel_rfl
theorem fc337_3_run : chkFact fc337_3 (callR E0 idle0 L0 60 noY 337 fc337_3.args (heapOf fc337_3)) = true := by kernel_rfl
theorem fc337_4_run : chkFact fc337_4 (callR E0 idle0 L0 60 noY 337 fc337_4.args (heapOf fc337_4)) = true := by kernel_rfl
theorem fc337_5_run : chkFact fc337_5 (callR E0 idle0 L0 60 noY 337 fc337_5.args (heapOf fc337_5)) = true := by kernel_rfl
theorem fc337_6_run : chkFact fc337_6 (callR E0 idle0 L0 60 noY 337 fc337_6.args (heapOf fc337_6)) = true := by kernel_rfl
theorem fc337_7_run : chkFact fc337_7 (callR E0 idle0 L0 60 noY 337 fc337_7.args (heapOf fc337_7)) = true := by kernel_rfl
theorem fc337_8_run : chkFact fc337_8 (callR E0 idle0 L0 60 noY 337 fc337_8.args (heapOf fc337_8)) = true := by kernel_rfl
theorem fc337_9_run : chkFact fc337_9 (callR E0 idle0 L0 60 noY 337 fc337_9.args (heapOf fc337_9)) = true := by kernel_rfl
theorem fc337_10_run : chkFact fc337_10 (callR E0 idle0 L0 60 noY 337 fc337_10.args (heapOf fc337_10)) = true := by kernel_rfl
theorem fc337_11_run : chkFact fc337_11 (callR E0 idle0 L0 60 noY 337 fc337_11.args (heapOf fc337_11)) = true := by kernel_rfl
theorem fc337_12_run : chkFact fc337_12 (callR E0 idle0 L0 60 noY 337 fc337_12.args (heapOf fc337_12)) = true := by kernel_rfl
theorem fc337_13_run : chkFact fc337_13 (callR E0 idle0 L0 60 noY 337 fc337_13.args (heapOf fc337_13)) = true := by kernel_rfl
theorem fc337_14_run : chkFact fc337_14 (callR E0 idle0 L0 60 noY 337 fc337_14.args (heapOf fc337_14)) = true := by kernel_rfl
theorem fc337_15_run : chkFact fc337_15 (callR E0 idle0 L0 60 noY 337 fc337_15.args (heapOf fc337_15)) = true := by kernel_rfl
theorem fc337_16_run : chkFact fc337_16 (callR E0 idle0 L0 60 noY 337 fc337_16.args (heapOf fc337_16)) = true := by kernel_rfl
theorem fc337_17_run : chkFact fc337_17 (callR E0 idle0 L0 60 noY 337 fc337_17.args (heapOf fc337_17)) = true := by kernel_rfl
theorem fc337_18_run : chkFact fc337_18 (callR E0 idle0 L0 60 noY 337 fc337_18.args (heapOf fc337_18)) = true := by kernel_rfl
theorem fc337_19_run : chkFact fc337_19 (callR E0 idle0 L0 60 noY 337 fc337_19.args (heapOf fc337_19)) = true := by kernel_rfl
theorem fc337_20_run : chkFact fc337_20 (callR E0 idle0 L0 60 noY 337 fc337_20.args (heapOf fc337_20)) = true := by kernel_rfl
theorem fc337_21_run : chkFact fc337_21 (callR E0 idle0 L0 60 noY 337 fc337_21.args (heapOf fc337_21)) = true := by kernel_rfl
theorem fc337_22_run : chkFact fc337_22 (callR E0 idle0 L0 60 noY 337 fc337_22.args (heapOf fc337_22)) = true := by kernel_rfl
theorem fc337_23_run : chkFact fc337_23 (callR E0 idle0 L0 60 noY 337 fc337_23.args (heapOf fc337_23)) = true := by kernel_rfl
theorem fc337_24_run : chkFact fc337_24 (callR E0 idle0 L0 60 noY 337 fc337_24.args (heapOf fc337_24)) = true := by kernel_rfl
theorem fc337_25_run : chkFact fc337_25 (callR E0 idle0 L0 60 noY 337 fc337_25.args (heapOf fc337_25)) = true := by kernel_rfl
theorem fc337_26_run : chkFact fc337_26 (callR E0 idle0 L0 60 noY 337 fc337_26.args (heapOf fc337_26)) = true := by kernel_rfl

end Ev
end Go.Proofs.YtodemhmfnokomaaGreatDoor
