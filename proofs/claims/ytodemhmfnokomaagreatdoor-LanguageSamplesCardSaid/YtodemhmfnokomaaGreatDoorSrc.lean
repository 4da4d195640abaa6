/- Facts of the sample 1, run by the kernel. Conditions: none. -/
import Derived.Test.YtodemhmfnokomaaGreatDoorSdb
import Derived.KernelRfl
namespace Go.Proofs.YtodemhmfnokomaaGreatDoor
namespace Ev
open Go

theorem fs1c337_0_run : chkFact fs1c337_0 (callR E0 idle0 L0 60 noY 337 fs1c337_0.args (heapOf fs1c337_0)) = true := by kernel_rfl
theorem fs1c337_1_run : chkFact fs1c337_1 (callR E0 idle0 L0 60 noY 337 fs1c337_1.args (heapOf fs1c337_1)) = true := by kernel_rfl
theorem fs1c337_2_run : chkFact fs1c337_2 (callR E0 idle0 L0 60 noY 337 fs1c337_2.args (heapOf fs1c337_2)) = true := by kernel_rfl
theorem fs1c337_3_run : chkFact fs1c337_3 (callR E0 idle0 L0 60 noY 337 fs1c337_3.args (heapOf fs1c337_3)) = true := by kernel_rfl
theorem fs1c337_4_run : chkFact fs1c337_4 (callR E0 idle0 L0 60 noY 337 fs1c337_4.args (heapOf fs1c337_4)) = true := by kernel_rfl
theorem fs1c337_5_run : chkFact fs1c337_5 (callR E0 idle0 L0 60 noY 337 fs1c337_5.args (heapOf fs1c337_5)) = true := by kernel_rfl
theorem fs1c337_6_run : chkFact fs1c337_6 (callR E0 idle0 L0 60 noY 337 fs1c337_6.args (heapOf fs1c337_6)) = true := by kernel_rfl
theorem fs1c337_7_run : chkFact fs1c337_7 (callR E0 idle0 L0 60 noY 337 fs1c337_7.args (heapOf fs1c337_7)) = true := by kernel_rfl
theorem fs1c337_8_run : chkFact fs1c337_8 (callR E0 idle0 L0 60 noY 337 fs1c337_8.args (heapOf fs1c337_8)) = true := by kernel_rfl
theorem fs1c337_9_run : chkFact fs1c337_9 (callR E0 idle0 L0 60 noY 337 fs1c337_9.args (heapOf fs1c337_9)) = true := by kernel_rfl
theorem fs1c337_10_run : chkFact fs1c337_10 (callR E0 idle0 L0 60 noY 337 fs1c337_10.args (heapOf fs1c337_10)) = true := by kernel_rfl
theorem fs1c337_11_run : chkFact fs1c337_11 (callR E0 idle0 L0 60 noY 337 fs1c337_11.args (heapOf fs1c337_11)) = true := by kernel_rfl
theorem fs1c337_12_run : chkFact fs1c337_12 (callR E0 idle0 L0 60 noY 337 fs1c337_12.args (heapOf fs1c337_12)) = true := by kernel_rfl
theorem fs1c337_13_run : chkFact fs1c337_13 (callR E0 idle0 L0 60 noY 337 fs1c337_13.args (heapOf fs1c337_13)) = true := by kernel_rfl
theorem fs1c337_14_run : chkFact fs1c337_14 (callR E0 idle0 L0 60 noY 337 fs1c337_14.args (heapOf fs1c337_14)) = true := by kernel_rfl
theorem fs1c337_15_run : chkFact fs1c337_15 (callR E0 idle0 L0 60 noY 337 fs1c337_15.args (heapOf fs1c337_15)) = true := by kernel_rfl
theorem fs1c337_16_run : chkFact fs1c337_16 (callR E0 idle0 L0 60 noY 337 fs1c337_16.args (heapOf fs1c337_16)) = true := by kernel_rfl
theorem fs1c337_17_run : chkFact fs1c337_17 (callR E0 idle0 L0 60 noY 337 fs1c337_17.args (heapOf fs1c337_17)) = true := by kernel_rfl
theorem fs1c337_18_run : chkFact fs1c337_18 (callR E0 idle0 L0 60 noY 337 fs1c337_18.args (heapOf fs1c337_18)) = true := by kernel_rfl
theorem fs1c337_19_run : chkFact fs1c337_19 (callR E0 idle0 L0 60 noY 337 fs1c337_19.args (heapOf fs1c337_19)) = true := by kernel_rfl
theorem fs1c337_20_run : chkFact fs1c337_20 (callR E0 idle0 L0 60 noY 337 fs1c337_20.args (heapOf fs1c337_20)) = true := by kernel_rfl

end Ev
end Go.Proofs.YtodemhmfnokomaaGreatDoor
namespace Go.Proofs.YtodemhmfnokomaaGreatDoor
namespace Ev
open Go

theorem fs1c268_0_run : chkFact fs1c268_0 (callR E0 idle0 S1_1 60 noY 268 fs1c268_0.args (heapOf fs1c268_0)) = true := by kernel_rfl

end Ev
end Go.Proofs.YtodemhmfnokomaaGreatDoor
namespace Go.Proofs.YtodemhmfnokomaaGreatDoor
namespace Ev
open Go

theorem fs1c277_0_run : chkFact fs1c277_0 (callR E0 idle0 S1_2 60 noY 277 fs1c277_0.args (heapOf fs1c277_0)) = true := by kernel_rfl

end Ev
end Go.Proofs.YtodemhmfnokomaaGreatDoor
namespace Go.Proofs.YtodemhmfnokomaaGreatDoor
namespace Ev
open Go

theorem fs1c218_0_run : chkFact fs1c218_0 (callR E0 idle0 S1_3 60 noY 218 fs1c218_0.args (heapOf fs1c218_0)) = true := by kernel_rfl

end Ev
end Go.Proofs.YtodemhmfnokomaaGreatDoor
namespace Go.Proofs.YtodemhmfnokomaaGreatDoor
namespace Ev
open Go

theorem fs1c219_0_run : chkFact fs1c219_0 (callR E0 idle0 S1_4 60 noY 219 fs1c219_0.args (heapOf fs1c219_0)) = true := by kernel_rfl

end Ev
end Go.Proofs.YtodemhmfnokomaaGreatDoor
namespace Go.Proofs.YtodemhmfnokomaaGreatDoor
namespace Ev
open Go

theorem fs1c55_0_run : chkFact fs1c55_0 (callR E0 idle0 S1_5 60 noY 55 fs1c55_0.args (heapOf fs1c55_0)) = true := by kernel_rfl

end Ev
end Go.Proofs.YtodemhmfnokomaaGreatDoor
namespace Go.Proofs.YtodemhmfnokomaaGreatDoor
namespace Ev
open Go

theorem fs1c9_0_run : chkFact fs1c9_0 (callR E0 idle0 S1_6 60 noY 9 fs1c9_0.args (heapOf fs1c9_0)) = true := by kernel_rfl

end Ev
end Go.Proofs.YtodemhmfnokomaaGreatDoor
