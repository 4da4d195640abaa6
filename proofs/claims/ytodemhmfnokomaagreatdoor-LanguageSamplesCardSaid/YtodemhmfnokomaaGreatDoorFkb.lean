/- Facts, run by the kernel. Conditions: none. -/
import Derived.Test.YtodemhmfnokomaaGreatDoorFd
namespace Go.Proofs.YtodemhmfnokomaaGreatDoor
namespace Ev
open Go

theorem fc218_0_run : chkFact fc218_0 (callR E0 idle0 L3 60 noY 218 fc218_0.args (heapOf fc218_0)) = true := by kernel_rfl

end Ev
end Go.Proofs.YtodemhmfnokomaaGreatDoor
namespace Go.Proofs.YtodemhmfnokomaaGreatDoor
namespace Ev
open Go

theorem fc218_1_run : chkFact fc218_1 (callR E0 idle0 L3 60 noY 218 fc218_1.args (heapOf fc218_1)) = true := by kernel_rfl

end Ev
end Go.Proofs.YtodemhmfnokomaaGreatDoor
namespace Go.Proofs.YtodemhmfnokomaaGreatDoor
namespace Ev
open Go

theorem fc219_0_run : chkFact fc219_0 (callR E0 idle0 L4 60 noY 219 fc219_0.args (heapOf fc219_0)) = true := by kernel_rfl

end Ev
end Go.Proofs.YtodemhmfnokomaaGreatDoor
namespace Go.Proofs.YtodemhmfnokomaaGreatDoor
namespace Ev
open Go

theorem fc219_1_run : chkFact fc219_1 (callR E0 idle0 L4 60 noY 219 fc219_1.args (heapOf fc219_1)) = true := by kernel_rfl

end Ev
end Go.Proofs.YtodemhmfnokomaaGreatDoor
namespace Go.Proofs.YtodemhmfnokomaaGreatDoor
namespace Ev
open Go

theorem fc55_0_run : chkFact fc55_0 (callR E0 idle0 L5 60 noY 55 fc55_0.args (heapOf fc55_0)) = true := by kernel_rfl

end Ev
end Go.Proofs.YtodemhmfnokomaaGreatDoor
namespace Go.Proofs.YtodemhmfnokomaaGreatDoor
namespace Ev
open Go

theorem fc55_1_run : chkFact fc55_1 (callR E0 idle0 L5 60 noY 55 fc55_1.args (heapOf fc55_1)) = true := by kernel_rfl

end Ev
end Go.Proofs.YtodemhmfnokomaaGreatDoor
namespace Go.Proofs.YtodemhmfnokomaaGreatDoor
namespace Ev
open Go

theorem fc8_0_run : chkFact fc8_0 (callR E0 idle0 L6 60 noY 8 fc8_0.args (heapOf fc8_0)) = true := by kernel_rfl

end Ev
end Go.Proofs.YtodemhmfnokomaaGreatDoor
