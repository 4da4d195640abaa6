/- Facts of the sample 2, run by the kernel. Conditions: none. -/
import Derived.Test.YtodemhmfnokomaaGreatDoorSdc
import Derived.KernelRfl
namespace Go.Proofs.YtodemhmfnokomaaGreatDoor
namespace Ev
open Go

theorem q2c268_2_run : chkFact q2c268_2 (callR E0 idle0 q2c268_2S 60 noY 268 q2c268_2.args (heapOf q2c268_2)) = true := by kernel_rfl
theorem q2c268_3_run : chkFact q2c268_3 (callR E0 idle0 q2c268_3S 60 noY 268 q2c268_3.args (heapOf q2c268_3)) = true := by kernel_rfl
theorem q2c270_0_run : chkFact q2c270_0 (callR E0 idle0 q2c270_0S 60 noY 270 q2c270_0.args (heapOf q2c270_0)) = true := by kernel_rfl
theorem q2c270_1_run : chkFact q2c270_1 (callR E0 idle0 q2c270_1S 60 noY 270 q2c270_1.args (heapOf q2c270_1)) = true := by kernel_rfl
theorem q2c270_2_run : chkFact q2c270_2 (callR E0 idle0 q2c270_2S 60 noY 270 q2c270_2.args (heapOf q2c270_2)) = true := by kernel_rfl
theorem q2c270_3_run : chkFact q2c270_3 (callR E0 idle0 q2c270_3S 60 noY 270 q2c270_3.args (heapOf q2c270_3)) = true := by kernel_rfl
theorem q2c270_4_run : chkFact q2c270_4 (callR E0 idle0 q2c270_4S 60 noY 270 q2c270_4.args (heapOf q2c270_4)) = true := by kernel_rfl
theorem q2c270_5_run : chkFact q2c270_5 (callR E0 idle0 q2c270_5S 60 noY 270 q2c270_5.args (heapOf q2c270_5)) = true := by kernel_rfl
theorem q2c270_6_run : chkFact q2c270_6 (callR E0 idle0 q2c270_6S 60 noY 270 q2c270_6.args (heapOf q2c270_6)) = true := by kernel_rfl
theorem q2c270_7_run : chkFact q2c270_7 (callR E0 idle0 q2c270_7S 60 noY 270 q2c270_7.args (heapOf q2c270_7)) = true := by kernel_rfl
theorem q2c270_8_run : chkFact q2c270_8 (callR E0 idle0 q2c270_8S 60 noY 270 q2c270_8.args (heapOf q2c270_8)) = true := by kernel_rfl
theorem q2c270_9_run : chkFact q2c270_9 (callR E0 idle0 q2c270_9S 60 noY 270 q2c270_9.args (heapOf q2c270_9)) = true := by kernel_rfl
theorem q2c270_10_run : chkFact q2c270_10 (callR E0 idle0 q2c270_10S 60 noY 270 q2c270_10.args (heapOf q2c270_10)) = true := by kernel_rfl
theorem q2c270_11_run : chkFact q2c270_11 (callR E0 idle0 q2c270_11S 60 noY 270 q2c270_11.args (heapOf q2c270_11)) = true := by kernel_rfl
theorem q2c270_12_run : chkFact q2c270_12 (callR E0 idle0 q2c270_12S 60 noY 270 q2c270_12.args (heapOf q2c270_12)) = true := by kernel_rfl
theorem q2c270_13_run : chkFact q2c270_13 (callR E0 idle0 q2c270_13S 60 noY 270 q2c270_13.args (heapOf q2c270_13)) = true := by kernel_rfl
theorem q2c270_14_run : chkFact q2c270_14 (callR E0 idle0 q2c270_14S 60 noY 270 q2c270_14.args (heapOf q2c270_14)) = true := by kernel_rfl
theorem q2c270_15_run : chkFact q2c270_15 (callR E0 idle0 q2c270_15S 60 noY 270 q2c270_15.args (heapOf q2c270_15)) = true := by kernel_rfl
theorem q2c270_16_run : chkFact q2c270_16 (callR E0 idle0 q2c270_16S 60 noY 270 q2c270_16.args (heapOf q2c270_16)) = true := by kernel_rfl
theorem q2c270_17_run : chkFact q2c270_17 (callR E0 idle0 q2c270_17S 60 noY 270 q2c270_17.args (heapOf q2c270_17)) = true := by kernel_rfl
theorem q2c270_18_run : chkFact q2c270_18 (callR E0 idle0 q2c270_18S 60 noY 270 q2c270_18.args (heapOf q2c270_18)) = true := by kernel_rfl
theorem q2c270_19_run : chkFact q2c270_19 (callR E0 idle0 q2c270_19S 60 noY 270 q2c270_19.args (heapOf q2c270_19)) = true := by kernel_rfl
theorem q2c270_20_run : chkFact q2c270_20 (callR E0 idle0 q2c270_20S 60 noY 270 q2c270_20.args (heapOf q2c270_20)) = true := by kernel_rfl
theorem q2c270_21_run : chkFact q2c270_21 (callR E0 idle0 q2c270_21S 60 noY 270 q2c270_21.args (heapOf q2c270_21)) = true := by kernel_rfl
theorem q2c270_22_run : chkFact q2c270_22 (callR E0 idle0 q2c270_22S 60 noY 270 q2c270_22.args (heapOf q2c270_22)) = true := by kernel_rfl
theorem q2c270_23_run : chkFact q2c270_23 (callR E0 idle0 q2c270_23S 60 noY 270 q2c270_23.args (heapOf q2c270_23)) = true := by kernel_rfl
theorem q2c270_24_run : chkFact q2c270_24 (callR E0 idle0 q2c270_24S 60 noY 270 q2c270_24.args (heapOf q2c270_24)) = true := by kernel_rfl
theorem q2c270_25_run : chkFact q2c270_25 (callR E0 idle0 q2c270_25S 60 noY 270 q2c270_25.args (heapOf q2c270_25)) = true := by kernel_rfl
theorem q2c270_26_run : chkFact q2c270_26 (callR E0 idle0 q2c270_26S 60 noY 270 q2c270_26.args (heapOf q2c270_26)) = true := by kernel_rfl
theorem q2c270_27_run : chkFact q2c270_27 (callR E0 idle0 q2c270_27S 60 noY 270 q2c270_27.args (heapOf q2c270_27)) = true := by kernel_rfl
theorem q2c270_28_run : chkFact q2c270_28 (callR E0 idle0 q2c270_28S 60 noY 270 q2c270_28.args (heapOf q2c270_28)) = true := by kernel_rfl
theorem q2c270_29_run : chkFact q2c270_29 (callR E0 idle0 q2c270_29S 60 noY 270 q2c270_29.args (heapOf q2c270_29)) = true := by kernel_rfl
theorem q2c270_30_run : chkFact q2c270_30 (callR E0 idle0 q2c270_30S 60 noY 270 q2c270_30.args (heapOf q2c270_30)) = true := by kernel_rfl
theorem q2c270_31_run : chkFact q2c270_31 (callR E0 idle0 q2c270_31S 60 noY 270 q2c270_31.args (heapOf q2c270_31)) = true := by kernel_rfl
theorem q2c270_32_run : chkFact q2c270_32 (callR E0 idle0 q2c270_32S 60 noY 270 q2c270_32.args (heapOf q2c270_32)) = true := by kernel_rfl
theorem q2c270_33_run : chkFact q2c270_33 (callR E0 idle0 q2c270_33S 60 noY 270 q2c270_33.args (heapOf q2c270_33)) = true := by kernel_rfl
theorem q2c270_34_run : chkFact q2c270_34 (callR E0 idle0 q2c270_34S 60 noY 270 q2c270_34.args (heapOf q2c270_34)) = true := by kernel_rfl

end Ev
end Go.Proofs.YtodemhmfnokomaaGreatDoor
