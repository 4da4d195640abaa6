/- LanguageNil, the closed facts of the card. Conditions: none. -/
import Derived.Test.YtodemhmfnokomaaGreatDoorNr
namespace Go.Proofs.YtodemhmfnokomaaGreatDoor
namespace Ev
open Go Go.Proofs
set_option maxRecDepth 100000

theorem nil_k1 : Go.Proofs.YtodemhmfnokomaaGreatDoor.Rows.languageNilRow.wfByText (OpenSpec.ofChange Go.Proofs.YtodemhmfnokomaaGreatDoor.Rows.languageNilSpec) = true := by kernel_rfl
theorem main_k2 : Tryz.prog.mainIs = some (true, ("1c4e2bf27764bbc304652920c5f47e0089326c9d3fc863d688f43119a33515f0" : String).toList) := by kernel_rfl
theorem looks_k3 : true = Tryz.prog.looks [] := by kernel_rfl
theorem nil_k4 : false = Go.Proofs.YtodemhmfnokomaaGreatDoor.Rows.languageNilRow.goesBy Tryz.prog := by kernel_rfl
theorem nil_k5 : Tryz.prog.funcNamed "emendate/emendatelaw46.LanguageNil" = some 5 := by kernel_rfl
theorem nil_k6 : ([9, 46].all fun u => !Tryz.prog.wantsStandIn u) = true := by kernel_rfl

end Ev
end Go.Proofs.YtodemhmfnokomaaGreatDoor
