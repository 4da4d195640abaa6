/- Facts of the sample 4, run by the kernel. Conditions: none. -/
import Derived.Test.YtodemhmfnokomaaGreatDoorSda
import Derived.KernelRfl
namespace Go.Proofs.YtodemhmfnokomaaGreatDoor
namespace Ev
open Go

theorem fs4c337_0_run : chkFact fs4c337_0 (callR E0 idle0 L0 60 noY 337 fs4c337_0.args (heapOf fs4c337_0)) = true := by kernel_rfl
theorem fs4c337_1_run : chkFact fs4c337_1 (callR E0 idle0 L0 60 noY 337 fs4c337_1.args (heapOf fs4c337_1)) = true := by kernel_rfl
theorem fs4c337_2_run : chkFact fs4c337_2 (callR E0 idle0 L0 60 noY 337 fs4c337_2.args (heapOf fs4c337_2)) = true := by kernel_rfl
theorem fs4c337_3_run : chkFact fs4c337_3 (callR E0 idle0 L0 60 noY 337 fs4c337_3.args (heapOf fs4c337_3)) = true := by kernel_rfl
theorem fs4c337_4_run : chkFact fs4c337_4 (callR E0 idle0 L0 60 noY 337 fs4c337_4.args (heapOf fs4c337_4)) = true := by kernel_rfl
theorem fs4c337_5_run : chkFact fs4c337_5 (callR E0 idle0 L0 60 noY 337 fs4c337_5.args (heapOf fs4c337_5)) = true := by kernel_rfl
theorem fs4c337_6_run : chkFact fs4c337_6 (callR E0 idle0 L0 60 noY 337 fs4c337_6.args (heapOf fs4c337_6)) = true := by kernel_rfl
theorem fs4c337_7_run : chkFact fs4c337_7 (callR E0 idle0 L0 60 noY 337 fs4c337_7.args (heapOf fs4c337_7)) = true := by kernel_rfl
theorem fs4c337_8_run : chkFact fs4c337_8 (callR E0 idle0 L0 60 noY 337 fs4c337_8.args (heapOf fs4c337_8)) = true := by kernel_rfl
theorem fs4c337_9_run : chkFact fs4c337_9 (callR E0 idle0 L0 60 noY 337 fs4c337_9.args (heapOf fs4c337_9)) = true := by kernel_rfl
theorem fs4c337_10_run : chkFact fs4c337_10 (callR E0 idle0 L0 60 noY 337 fs4c337_10.args (heapOf fs4c337_10)) = true := by kernel_rfl
theorem fs4c337_11_run : chkFact fs4c337_11 (callR E0 idle0 L0 60 noY 337 fs4c337_11.args (heapOf fs4c337_11)) = true := by kernel_rfl
theorem fs4c337_12_run : chkFact fs4c337_12 (callR E0 idle0 L0 60 noY 337 fs4c337_12.args (heapOf fs4c337_12)) = true := by kernel_rfl
theorem fs4c337_13_run : chkFact fs4c337_13 (callR E0 idle0 L0 60 noY 337 fs4c337_13.args (heapOf fs4c337_13)) = true := by kernel_rfl
theorem fs4c337_14_run : chkFact fs4c337_14 (callR E0 idle0 L0 60 noY 337 fs4c337_14.args (heapOf fs4c337_14)) = true := by kernel_rfl
theorem fs4c337_15_run : chkFact fs4c337_15 (callR E0 idle0 L0 60 noY 337 fs4c337_15.args (heapOf fs4c337_15)) = true := by kernel_rfl
theorem fs4c337_16_run : chkFact fs4c337_16 (callR E0 idle0 L0 60 noY 337 fs4c337_16.args (heapOf fs4c337_16)) = true := by kernel_rfl
theorem fs4c337_17_run : chkFact fs4c337_17 (callR E0 idle0 L0 60 noY 337 fs4c337_17.args (heapOf fs4c337_17)) = true := by kernel_rfl

end Ev
end Go.Proofs.YtodemhmfnokomaaGreatDoor
namespace Go.Proofs.YtodemhmfnokomaaGreatDoor
namespace Ev
open Go

theorem fs4c268_0_run : chkFact fs4c268_0 (callR E0 idle0 S4_1 60 noY 268 fs4c268_0.args (heapOf fs4c268_0)) = true := by kernel_rfl

end Ev
end Go.Proofs.YtodemhmfnokomaaGreatDoor
namespace Go.Proofs.YtodemhmfnokomaaGreatDoor
namespace Ev
open Go

theorem fs4c277_0_run : chkFact fs4c277_0 (callR E0 idle0 S4_2 60 noY 277 fs4c277_0.args (heapOf fs4c277_0)) = true := by kernel_rfl

end Ev
end Go.Proofs.YtodemhmfnokomaaGreatDoor
namespace Go.Proofs.YtodemhmfnokomaaGreatDoor
namespace Ev
open Go

theorem fs4c218_0_run : chkFact fs4c218_0 (callR E0 idle0 S4_3 60 noY 218 fs4c218_0.args (heapOf fs4c218_0)) = true := by kernel_rfl

end Ev
end Go.Proofs.YtodemhmfnokomaaGreatDoor
namespace Go.Proofs.YtodemhmfnokomaaGreatDoor
namespace Ev
open Go

theorem fs4c219_0_run : chkFact fs4c219_0 (callR E0 idle0 S4_4 60 noY 219 fs4c219_0.args (heapOf fs4c219_0)) = true := by kernel_rfl

end Ev
end Go.Proofs.YtodemhmfnokomaaGreatDoor
namespace Go.Proofs.YtodemhmfnokomaaGreatDoor
namespace Ev
open Go

theorem fs4c55_0_run : chkFact fs4c55_0 (callR E0 idle0 S4_5 60 noY 55 fs4c55_0.args (heapOf fs4c55_0)) = true := by kernel_rfl

end Ev
end Go.Proofs.YtodemhmfnokomaaGreatDoor
namespace Go.Proofs.YtodemhmfnokomaaGreatDoor
namespace Ev
open Go

theorem fs4c9_0_run : chkFact fs4c9_0 (callR E0 idle0 S4_6 60 noY 9 fs4c9_0.args (heapOf fs4c9_0)) = true := by kernel_rfl

end Ev
end Go.Proofs.YtodemhmfnokomaaGreatDoor
