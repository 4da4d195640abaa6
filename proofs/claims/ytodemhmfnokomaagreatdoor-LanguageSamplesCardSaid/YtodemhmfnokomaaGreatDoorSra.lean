/- Facts of the samples 0 and 5, run by the kernel. Conditions: none. -/
import Derived.Test.YtodemhmfnokomaaGreatDoorSda
import Derived.KernelRfl
namespace Go.Proofs.YtodemhmfnokomaaGreatDoor
namespace Ev
open Go

theorem fs0c337_0_run : chkFact fs0c337_0 (callR E0 idle0 L0 60 noY 337 fs0c337_0.args (heapOf fs0c337_0)) = true := by kernel_rfl
theorem fs0c337_1_run : chkFact fs0c337_1 (callR E0 idle0 L0 60 noY 337 fs0c337_1.args (heapOf fs0c337_1)) = true := by kernel_rfl
theorem fs0c337_2_run : chkFact fs0c337_2 (callR E0 idle0 L0 60 noY 337 fs0c337_2.args (heapOf fs0c337_2)) = true := by kernel_rfl
theorem fs0c337_3_run : chkFact fs0c337_3 (callR E0 idle0 L0 60 noY 337 fs0c337_3.args (heapOf fs0c337_3)) = true := by kernel_rfl
theorem fs0c337_4_run : chkFact fs0c337_4 (callR E0 idle0 L0 60 noY 337 fs0c337_4.args (heapOf fs0c337_4)) = true := by kernel_rfl
theorem fs0c337_5_run : chkFact fs0c337_5 (callR E0 idle0 L0 60 noY 337 fs0c337_5.args (heapOf fs0c337_5)) = true := by kernel_rfl
theorem fs0c337_6_run : chkFact fs0c337_6 (callR E0 idle0 L0 60 noY 337 fs0c337_6.args (heapOf fs0c337_6)) = true := by kernel_rfl
theorem fs0c337_7_run : chkFact fs0c337_7 (callR E0 idle0 L0 60 noY 337 fs0c337_7.args (heapOf fs0c337_7)) = true := by kernel_rfl
theorem fs0c337_8_run : chkFact fs0c337_8 (callR E0 idle0 L0 60 noY 337 fs0c337_8.args (heapOf fs0c337_8)) = true := by kernel_rfl
theorem fs0c337_9_run : chkFact fs0c337_9 (callR E0 idle0 L0 60 noY 337 fs0c337_9.args (heapOf fs0c337_9)) = true := by kernel_rfl
theorem fs0c337_10_run : chkFact fs0c337_10 (callR E0 idle0 L0 60 noY 337 fs0c337_10.args (heapOf fs0c337_10)) = true := by kernel_rfl
theorem fs0c337_11_run : chkFact fs0c337_11 (callR E0 idle0 L0 60 noY 337 fs0c337_11.args (heapOf fs0c337_11)) = true := by kernel_rfl

end Ev
end Go.Proofs.YtodemhmfnokomaaGreatDoor
namespace Go.Proofs.YtodemhmfnokomaaGreatDoor
namespace Ev
open Go

theorem fs0c268_0_run : chkFact fs0c268_0 (callR E0 idle0 S0_1 60 noY 268 fs0c268_0.args (heapOf fs0c268_0)) = true := by kernel_rfl

end Ev
end Go.Proofs.YtodemhmfnokomaaGreatDoor
namespace Go.Proofs.YtodemhmfnokomaaGreatDoor
namespace Ev
open Go

theorem fs0c277_0_run : chkFact fs0c277_0 (callR E0 idle0 S0_2 60 noY 277 fs0c277_0.args (heapOf fs0c277_0)) = true := by kernel_rfl

end Ev
end Go.Proofs.YtodemhmfnokomaaGreatDoor
namespace Go.Proofs.YtodemhmfnokomaaGreatDoor
namespace Ev
open Go

theorem fs0c218_0_run : chkFact fs0c218_0 (callR E0 idle0 S0_3 60 noY 218 fs0c218_0.args (heapOf fs0c218_0)) = true := by kernel_rfl

end Ev
end Go.Proofs.YtodemhmfnokomaaGreatDoor
namespace Go.Proofs.YtodemhmfnokomaaGreatDoor
namespace Ev
open Go

theorem fs0c219_0_run : chkFact fs0c219_0 (callR E0 idle0 S0_4 60 noY 219 fs0c219_0.args (heapOf fs0c219_0)) = true := by kernel_rfl

end Ev
end Go.Proofs.YtodemhmfnokomaaGreatDoor
namespace Go.Proofs.YtodemhmfnokomaaGreatDoor
namespace Ev
open Go

theorem fs0c55_0_run : chkFact fs0c55_0 (callR E0 idle0 S0_5 60 noY 55 fs0c55_0.args (heapOf fs0c55_0)) = true := by kernel_rfl

end Ev
end Go.Proofs.YtodemhmfnokomaaGreatDoor
namespace Go.Proofs.YtodemhmfnokomaaGreatDoor
namespace Ev
open Go

theorem fs0c9_0_run : chkFact fs0c9_0 (callR E0 idle0 S0_6 60 noY 9 fs0c9_0.args (heapOf fs0c9_0)) = true := by kernel_rfl

end Ev
end Go.Proofs.YtodemhmfnokomaaGreatDoor
namespace Go.Proofs.YtodemhmfnokomaaGreatDoor
namespace Ev
open Go

theorem fs5c337_0_run : chkFact fs5c337_0 (callR E0 idle0 L0 60 noY 337 fs5c337_0.args (heapOf fs5c337_0)) = true := by kernel_rfl
theorem fs5c337_1_run : chkFact fs5c337_1 (callR E0 idle0 L0 60 noY 337 fs5c337_1.args (heapOf fs5c337_1)) = true := by kernel_rfl
theorem fs5c337_2_run : chkFact fs5c337_2 (callR E0 idle0 L0 60 noY 337 fs5c337_2.args (heapOf fs5c337_2)) = true := by kernel_rfl
theorem fs5c337_3_run : chkFact fs5c337_3 (callR E0 idle0 L0 60 noY 337 fs5c337_3.args (heapOf fs5c337_3)) = true := by kernel_rfl
theorem fs5c337_4_run : chkFact fs5c337_4 (callR E0 idle0 L0 60 noY 337 fs5c337_4.args (heapOf fs5c337_4)) = true := by kernel_rfl
theorem fs5c337_5_run : chkFact fs5c337_5 (callR E0 idle0 L0 60 noY 337 fs5c337_5.args (heapOf fs5c337_5)) = true := by kernel_rfl
theorem fs5c337_6_run : chkFact fs5c337_6 (callR E0 idle0 L0 60 noY 337 fs5c337_6.args (heapOf fs5c337_6)) = true := by kernel_rfl
theorem fs5c337_7_run : chkFact fs5c337_7 (callR E0 idle0 L0 60 noY 337 fs5c337_7.args (heapOf fs5c337_7)) = true := by kernel_rfl
theorem fs5c337_8_run : chkFact fs5c337_8 (callR E0 idle0 L0 60 noY 337 fs5c337_8.args (heapOf fs5c337_8)) = true := by kernel_rfl
theorem fs5c337_9_run : chkFact fs5c337_9 (callR E0 idle0 L0 60 noY 337 fs5c337_9.args (heapOf fs5c337_9)) = true := by kernel_rfl
theorem fs5c337_10_run : chkFact fs5c337_10 (callR E0 idle0 L0 60 noY 337 fs5c337_10.args (heapOf fs5c337_10)) = true := by kernel_rfl
theorem fs5c337_11_run : chkFact fs5c337_11 (callR E0 idle0 L0 60 noY 337 fs5c337_11.args (heapOf fs5c337_11)) = true := by kernel_rfl

end Ev
end Go.Proofs.YtodemhmfnokomaaGreatDoor
namespace Go.Proofs.YtodemhmfnokomaaGreatDoor
namespace Ev
open Go

theorem fs5c268_0_run : chkFact fs5c268_0 (callR E0 idle0 S5_1 60 noY 268 fs5c268_0.args (heapOf fs5c268_0)) = true := by kernel_rfl

end Ev
end Go.Proofs.YtodemhmfnokomaaGreatDoor
namespace Go.Proofs.YtodemhmfnokomaaGreatDoor
namespace Ev
open Go

theorem fs5c277_0_run : chkFact fs5c277_0 (callR E0 idle0 S5_2 60 noY 277 fs5c277_0.args (heapOf fs5c277_0)) = true := by kernel_rfl

end Ev
end Go.Proofs.YtodemhmfnokomaaGreatDoor
namespace Go.Proofs.YtodemhmfnokomaaGreatDoor
namespace Ev
open Go

theorem fs5c218_0_run : chkFact fs5c218_0 (callR E0 idle0 S5_3 60 noY 218 fs5c218_0.args (heapOf fs5c218_0)) = true := by kernel_rfl

end Ev
end Go.Proofs.YtodemhmfnokomaaGreatDoor
namespace Go.Proofs.YtodemhmfnokomaaGreatDoor
namespace Ev
open Go

theorem fs5c219_0_run : chkFact fs5c219_0 (callR E0 idle0 S5_4 60 noY 219 fs5c219_0.args (heapOf fs5c219_0)) = true := by kernel_rfl

end Ev
end Go.Proofs.YtodemhmfnokomaaGreatDoor
namespace Go.Proofs.YtodemhmfnokomaaGreatDoor
namespace Ev
open Go

theorem fs5c55_0_run : chkFact fs5c55_0 (callR E0 idle0 S5_5 60 noY 55 fs5c55_0.args (heapOf fs5c55_0)) = true := by kernel_rfl

end Ev
end Go.Proofs.YtodemhmfnokomaaGreatDoor
namespace Go.Proofs.YtodemhmfnokomaaGreatDoor
namespace Ev
open Go

theorem fs5c9_0_run : chkFact fs5c9_0 (callR E0 idle0 S5_6 60 noY 9 fs5c9_0.args (heapOf fs5c9_0)) = true := by kernel_rfl

end Ev
end Go.Proofs.YtodemhmfnokomaaGreatDoor
