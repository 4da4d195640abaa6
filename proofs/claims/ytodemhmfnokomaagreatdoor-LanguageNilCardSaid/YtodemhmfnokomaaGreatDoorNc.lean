/- LanguageNil holds, and its card. Conditions: none. -/
import Derived.Test.YtodemhmfnokomaaGreatDoorNr
import Derived.Test.YtodemhmfnokomaaGreatDoorNv
import Derived.Test.YtodemhmfnokomaaGreatDoorNk
namespace Go.Proofs.YtodemhmfnokomaaGreatDoor
namespace Ev
open Go Go.Proofs
open Go.RowKit Go.ChangeShapes Go.WideShapes Go.ChangeAt Go.WideMaps Go.ChangeMaps

theorem nil_holds : Go.Proofs.YtodemhmfnokomaaGreatDoor.Rows.LanguageNilSaid :=
  OpenClaim.holds_of_wide 5 Tryz.f5 rfl rfl rfl rfl rfl rfl rfl ⟨rfl, rfl, rfl, rfl, rfl⟩ rfl rfl rfl rfl rfl (by kernel_rfl) Tryz.func5 nil_facts
    (of_decide_eq_true (by kernel_rfl)) (by unfold Func.isWrapper; first | (rw [if_pos (by decide +kernel)]; kernel_rfl) | (rw [if_neg (by decide +kernel)]; exact ⟨rfl, rfl⟩))
    (fun os started H enc _ => nil_lifted os started H enc)

end Ev
end Go.Proofs.YtodemhmfnokomaaGreatDoor
namespace Go.Proofs.YtodemhmfnokomaaGreatDoor
namespace Ev
open Go Go.Proofs

theorem nil_looks (f : FuncId) (fn : Func) (hf : Tryz.prog.funcNamed "emendate/emendatelaw46.LanguageNil" = some f) (hfn : Tryz.prog.funcs[f]? = some fn) : true = Tryz.prog.looks [] ∧ ∀ (j : Nat) t, fn.params[j]? = some t → Tryz.prog.wantsStandIn t = false := by
  obtain rfl : f = 5 := (Option.some.inj (nil_k5.symm.trans hf)).symm
  obtain rfl : fn = Tryz.f5 := (Option.some.inj (Tryz.func5.symm.trans hfn)).symm
  refine ⟨looks_k3, fun j t ht => ?_⟩
  rw [Tryz.params5] at ht
  have hm : t ∈ [9, 46] := by simpa using Array.mem_of_getElem? ht
  simpa using List.all_eq_true.1 nil_k6 t hm

end Ev

theorem languageNil_card_holds : Go.Proofs.YtodemhmfnokomaaGreatDoor.Rows.LanguageNilCardSaid :=
  Claim7.holds_tied_plain_at .later [] [.data, .data, .data, .data, .sentinel, .sentinel, .widerDeep, .pinned] true (true, "1c4e2bf27764bbc304652920c5f47e0089326c9d3fc863d688f43119a33515f0") true
    Ev.nil_holds (fun _ h => by cases h) Ev.nil_k1 (fun _ h => by cases h) Go.Proofs.YtodemhmfnokomaaGreatDoor.languageNil_row_tie rfl ⟨rfl, rfl⟩ Ev.main_k2 rfl
    (fun f fn hf hfn => Ev.nil_looks f fn hf hfn)
    Ev.nil_k4
#print axioms languageNil_card_holds
end Go.Proofs.YtodemhmfnokomaaGreatDoor
