/- LanguageSamples: the runs of the samples 3, 4 and 5. Conditions: none. -/
import Derived.Test.YtodemhmfnokomaaGreatDoorSu
namespace Go.Proofs.YtodemhmfnokomaaGreatDoor
namespace Ev
open Go Go.Proofs

theorem run_3 : RunOk 3 3 := fun n => by kernel_rfl
theorem fin_3_0 (n : Nat) : isT (saR3 3 n 0) = true := by kernel_rfl
theorem fin_3_1 (n : Nat) : isT (saR3 3 n 1) = true := by kernel_rfl
theorem fin_3_2 (n : Nat) : isT (saR3 3 n 2) = true := by kernel_rfl
theorem fin_3 (n x : Nat) (h : x < 3) : isT (saR3 3 n x) = true := by
  match x, h with
  | 0, _ => exact fin_3_0 n
  | 1, _ => exact fin_3_1 n
  | 2, _ => exact fin_3_2 n

end Ev
end Go.Proofs.YtodemhmfnokomaaGreatDoor
namespace Go.Proofs.YtodemhmfnokomaaGreatDoor
namespace Ev
open Go Go.Proofs

theorem run_4 : RunOk 4 4 := fun n => by kernel_rfl
theorem fin_4_0 (n : Nat) : isT (saR3 4 n 0) = true := by kernel_rfl
theorem fin_4_1 (n : Nat) : isT (saR3 4 n 1) = true := by kernel_rfl
theorem fin_4_2 (n : Nat) : isT (saR3 4 n 2) = true := by kernel_rfl
theorem fin_4_3 (n : Nat) : isT (saR3 4 n 3) = true := by kernel_rfl
theorem fin_4 (n x : Nat) (h : x < 4) : isT (saR3 4 n x) = true := by
  match x, h with
  | 0, _ => exact fin_4_0 n
  | 1, _ => exact fin_4_1 n
  | 2, _ => exact fin_4_2 n
  | 3, _ => exact fin_4_3 n

end Ev
end Go.Proofs.YtodemhmfnokomaaGreatDoor
namespace Go.Proofs.YtodemhmfnokomaaGreatDoor
namespace Ev
open Go Go.Proofs

theorem run_5 : RunOk 5 3 := fun n => by kernel_rfl
theorem fin_5_0 (n : Nat) : isT (saR3 5 n 0) = true := by kernel_rfl
theorem fin_5_1 (n : Nat) : isT (saR3 5 n 1) = true := by kernel_rfl
theorem fin_5_2 (n : Nat) : isT (saR3 5 n 2) = true := by kernel_rfl
theorem fin_5 (n x : Nat) (h : x < 3) : isT (saR3 5 n x) = true := by
  match x, h with
  | 0, _ => exact fin_5_0 n
  | 1, _ => exact fin_5_1 n
  | 2, _ => exact fin_5_2 n

end Ev
end Go.Proofs.YtodemhmfnokomaaGreatDoor
