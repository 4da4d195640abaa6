/- LanguageSamples, the closed facts of the card. Conditions: none. -/
import Derived.Test.YtodemhmfnokomaaGreatDoorNr
namespace Go.Proofs.YtodemhmfnokomaaGreatDoor
namespace Ev
open Go Go.Proofs
set_option maxRecDepth 100000

theorem sa_k1 : Go.Proofs.YtodemhmfnokomaaGreatDoor.Rows.languageSamplesRow.wfByText (OpenSpec.ofChange Go.Proofs.YtodemhmfnokomaaGreatDoor.Rows.languageSamplesSpec) = true := by kernel_rfl
theorem sa_k4 : false = Go.Proofs.YtodemhmfnokomaaGreatDoor.Rows.languageSamplesRow.goesBy Tryz.prog := by kernel_rfl
theorem sa_k5 : Tryz.prog.funcNamed "emendate/emendatelaw46.LanguageSamples" = some 4 := by kernel_rfl
theorem sa_k6 : ([3, 5].all fun u => !Tryz.prog.wantsStandIn u) = true := by kernel_rfl

end Ev
end Go.Proofs.YtodemhmfnokomaaGreatDoor
