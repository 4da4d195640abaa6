/- LanguageSamples: the runs of the samples 0, 1 and 2. Conditions: none. -/
import Derived.Test.YtodemhmfnokomaaGreatDoorSu
namespace Go.Proofs.YtodemhmfnokomaaGreatDoor
namespace Ev
open Go Go.Proofs

theorem run_0 : RunOk 0 3 := fun n => by kernel_rfl
theorem fin_0_0 (n : Nat) : isT (saR3 0 n 0) = true := by kernel_rfl
theorem fin_0_1 (n : Nat) : isT (saR3 0 n 1) = true := by kernel_rfl
theorem fin_0_2 (n : Nat) : isT (saR3 0 n 2) = true := by kernel_rfl
theorem fin_0 (n x : Nat) (h : x < 3) : isT (saR3 0 n x) = true := by
  match x, h with
  | 0, _ => exact fin_0_0 n
  | 1, _ => exact fin_0_1 n
  | 2, _ => exact fin_0_2 n

end Ev
end Go.Proofs.YtodemhmfnokomaaGreatDoor
namespace Go.Proofs.YtodemhmfnokomaaGreatDoor
namespace Ev
open Go Go.Proofs

theorem run_1 : RunOk 1 6 := fun n => by kernel_rfl
theorem fin_1_0 (n : Nat) : isT (saR3 1 n 0) = true := by kernel_rfl
theorem fin_1_1 (n : Nat) : isT (saR3 1 n 1) = true := by kernel_rfl
theorem fin_1_2 (n : Nat) : isT (saR3 1 n 2) = true := by kernel_rfl
theorem fin_1_3 (n : Nat) : isT (saR3 1 n 3) = true := by kernel_rfl
theorem fin_1_4 (n : Nat) : isT (saR3 1 n 4) = true := by kernel_rfl
theorem fin_1_5 (n : Nat) : isT (saR3 1 n 5) = true := by kernel_rfl
theorem fin_1 (n x : Nat) (h : x < 6) : isT (saR3 1 n x) = true := by
  match x, h with
  | 0, _ => exact fin_1_0 n
  | 1, _ => exact fin_1_1 n
  | 2, _ => exact fin_1_2 n
  | 3, _ => exact fin_1_3 n
  | 4, _ => exact fin_1_4 n
  | 5, _ => exact fin_1_5 n

end Ev
end Go.Proofs.YtodemhmfnokomaaGreatDoor
namespace Go.Proofs.YtodemhmfnokomaaGreatDoor
namespace Ev
open Go Go.Proofs

theorem run_2 : RunOk 2 6 := fun n => by kernel_rfl
theorem fin_2_0 (n : Nat) : isT (saR3 2 n 0) = true := by kernel_rfl
theorem fin_2_1 (n : Nat) : isT (saR3 2 n 1) = true := by kernel_rfl
theorem fin_2_2 (n : Nat) : isT (saR3 2 n 2) = true := by kernel_rfl
theorem fin_2_3 (n : Nat) : isT (saR3 2 n 3) = true := by kernel_rfl
theorem fin_2_4 (n : Nat) : isT (saR3 2 n 4) = true := by kernel_rfl
theorem fin_2_5 (n : Nat) : isT (saR3 2 n 5) = true := by kernel_rfl
theorem fin_2 (n x : Nat) (h : x < 6) : isT (saR3 2 n x) = true := by
  match x, h with
  | 0, _ => exact fin_2_0 n
  | 1, _ => exact fin_2_1 n
  | 2, _ => exact fin_2_2 n
  | 3, _ => exact fin_2_3 n
  | 4, _ => exact fin_2_4 n
  | 5, _ => exact fin_2_5 n

end Ev
end Go.Proofs.YtodemhmfnokomaaGreatDoor
