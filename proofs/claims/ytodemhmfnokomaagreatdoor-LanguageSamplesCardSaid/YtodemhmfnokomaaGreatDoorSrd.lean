/- Facts of the sample 3, run by the kernel. Conditions: none. -/
import Derived.Test.YtodemhmfnokomaaGreatDoorSdb
import Derived.KernelRfl
namespace Go.Proofs.YtodemhmfnokomaaGreatDoor
namespace Ev
open Go

theorem fs3c337_0_run : chkFact fs3c337_0 (callR E0 idle0 S3_1 60 noY 337 fs3c337_0.args (heapOf fs3c337_0)) = true := by kernel_rfl
theorem fs3c337_1_run : chkFact fs3c337_1 (callR E0 idle0 S3_1 60 noY 337 fs3c337_1.args (heapOf fs3c337_1)) = true := by kernel_rfl
theorem fs3c337_2_run : chkFact fs3c337_2 (callR E0 idle0 S3_1 60 noY 337 fs3c337_2.args (heapOf fs3c337_2)) = true := by kernel_rfl
theorem fs3c337_3_run : chkFact fs3c337_3 (callR E0 idle0 S3_1 60 noY 337 fs3c337_3.args (heapOf fs3c337_3)) = true := by kernel_rfl
theorem fs3c337_4_run : chkFact fs3c337_4 (callR E0 idle0 S3_1 60 noY 337 fs3c337_4.args (heapOf fs3c337_4)) = true := by kernel_rfl
theorem fs3c337_5_run : chkFact fs3c337_5 (callR E0 idle0 S3_1 60 noY 337 fs3c337_5.args (heapOf fs3c337_5)) = true := by kernel_rfl
theorem fs3c337_6_run : chkFact fs3c337_6 (callR E0 idle0 S3_1 60 noY 337 fs3c337_6.args (heapOf fs3c337_6)) = true := by kernel_rfl
theorem fs3c337_7_run : chkFact fs3c337_7 (callR E0 idle0 S3_1 60 noY 337 fs3c337_7.args (heapOf fs3c337_7)) = true := by kernel_rfl
theorem fs3c337_8_run : chkFact fs3c337_8 (callR E0 idle0 S3_1 60 noY 337 fs3c337_8.args (heapOf fs3c337_8)) = true := by kernel_rfl
theorem fs3c337_9_run : chkFact fs3c337_9 (callR E0 idle0 S3_1 60 noY 337 fs3c337_9.args (heapOf fs3c337_9)) = true := by kernel_rfl
theorem fs3c337_10_run : chkFact fs3c337_10 (callR E0 idle0 S3_1 60 noY 337 fs3c337_10.args (heapOf fs3c337_10)) = true := by kernel_rfl
theorem fs3c337_11_run : chkFact fs3c337_11 (callR E0 idle0 S3_1 60 noY 337 fs3c337_11.args (heapOf fs3c337_11)) = true := by kernel_rfl

end Ev
end Go.Proofs.YtodemhmfnokomaaGreatDoor
namespace Go.Proofs.YtodemhmfnokomaaGreatDoor
namespace Ev
open Go

theorem fs3c268_0_run : chkFact fs3c268_0 (callR E0 idle0 S3_2 60 noY 268 fs3c268_0.args (heapOf fs3c268_0)) = true := by kernel_rfl

end Ev
end Go.Proofs.YtodemhmfnokomaaGreatDoor
namespace Go.Proofs.YtodemhmfnokomaaGreatDoor
namespace Ev
open Go

theorem fs3c277_0_run : chkFact fs3c277_0 (callR E0 idle0 S3_3 60 noY 277 fs3c277_0.args (heapOf fs3c277_0)) = true := by kernel_rfl

end Ev
end Go.Proofs.YtodemhmfnokomaaGreatDoor
namespace Go.Proofs.YtodemhmfnokomaaGreatDoor
namespace Ev
open Go

theorem fs3c218_0_run : chkFact fs3c218_0 (callR E0 idle0 S3_4 60 noY 218 fs3c218_0.args (heapOf fs3c218_0)) = true := by kernel_rfl

end Ev
end Go.Proofs.YtodemhmfnokomaaGreatDoor
namespace Go.Proofs.YtodemhmfnokomaaGreatDoor
namespace Ev
open Go

theorem fs3c219_0_run : chkFact fs3c219_0 (callR E0 idle0 S3_5 60 noY 219 fs3c219_0.args (heapOf fs3c219_0)) = true := by kernel_rfl

end Ev
end Go.Proofs.YtodemhmfnokomaaGreatDoor
namespace Go.Proofs.YtodemhmfnokomaaGreatDoor
namespace Ev
open Go

theorem fs3c55_0_run : chkFact fs3c55_0 (callR E0 idle0 S3_6 60 noY 55 fs3c55_0.args (heapOf fs3c55_0)) = true := by kernel_rfl

end Ev
end Go.Proofs.YtodemhmfnokomaaGreatDoor
namespace Go.Proofs.YtodemhmfnokomaaGreatDoor
namespace Ev
open Go

theorem fs3c9_0_run : chkFact fs3c9_0 (callR E0 idle0 S3_7 60 noY 9 fs3c9_0.args (heapOf fs3c9_0)) = true := by kernel_rfl

end Ev
end Go.Proofs.YtodemhmfnokomaaGreatDoor
