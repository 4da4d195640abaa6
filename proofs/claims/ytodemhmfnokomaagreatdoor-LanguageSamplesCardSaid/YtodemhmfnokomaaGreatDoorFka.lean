/- Facts, run by the kernel. Conditions: none. -/
import Derived.Test.YtodemhmfnokomaaGreatDoorFd
namespace Go.Proofs.YtodemhmfnokomaaGreatDoor
namespace Ev
open Go

theorem fc268_0_run : chkFact fc268_0 (callR E0 idle0 L1 60 noY 268 fc268_0.args (heapOf fc268_0)) = true := by kernel_rfl

end Ev
end Go.Proofs.YtodemhmfnokomaaGreatDoor
namespace Go.Proofs.YtodemhmfnokomaaGreatDoor
namespace Ev
open Go

theorem fc268_1_run : chkFact fc268_1 (callR E0 idle0 L1 60 noY 268 fc268_1.args (heapOf fc268_1)) = true := by kernel_rfl

end Ev
end Go.Proofs.YtodemhmfnokomaaGreatDoor
namespace Go.Proofs.YtodemhmfnokomaaGreatDoor
namespace Ev
open Go

theorem fc277_0_run : chkFact fc277_0 (callR E0 idle0 L2 60 noY 277 fc277_0.args (heapOf fc277_0)) = true := by kernel_rfl

end Ev
end Go.Proofs.YtodemhmfnokomaaGreatDoor
namespace Go.Proofs.YtodemhmfnokomaaGreatDoor
namespace Ev
open Go

theorem fc277_1_run : chkFact fc277_1 (callR E0 idle0 L2 60 noY 277 fc277_1.args (heapOf fc277_1)) = true := by kernel_rfl

end Ev
end Go.Proofs.YtodemhmfnokomaaGreatDoor
