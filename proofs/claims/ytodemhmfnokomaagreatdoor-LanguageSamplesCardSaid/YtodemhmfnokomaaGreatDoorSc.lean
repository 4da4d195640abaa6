/- LanguageSamples holds, and its card. Conditions: none. -/
import Derived.Test.YtodemhmfnokomaaGreatDoorSl
import Derived.Test.YtodemhmfnokomaaGreatDoorSv
import Derived.Test.YtodemhmfnokomaaGreatDoorSw
import Derived.Test.YtodemhmfnokomaaGreatDoorNk
namespace Go.Proofs.YtodemhmfnokomaaGreatDoor
namespace Ev
open Go Go.Proofs
open Go.RowKit Go.ChangeShapes Go.WideShapes Go.ChangeAt Go.WideMaps Go.ChangeMaps

theorem samples_holds : Go.Proofs.YtodemhmfnokomaaGreatDoor.Rows.LanguageSamplesSaid :=
  OpenClaim.holds_of_wide 4 Tryz.f4 rfl rfl rfl rfl rfl rfl rfl ⟨rfl, rfl, rfl, rfl, rfl⟩ rfl rfl rfl rfl rfl (by kernel_rfl) Tryz.func4 sa_facts
    (of_decide_eq_true (by kernel_rfl)) (by unfold Func.isWrapper; first | (rw [if_pos (by decide +kernel)]; kernel_rfl) | (rw [if_neg (by decide +kernel)]; exact ⟨rfl, rfl⟩))
    (fun os started H enc _ => samples_lifted os started H enc)

theorem sa_looks (f : FuncId) (fn : Func) (hf : Tryz.prog.funcNamed "emendate/emendatelaw46.LanguageSamples" = some f) (hfn : Tryz.prog.funcs[f]? = some fn) : true = Tryz.prog.looks [] ∧ ∀ (j : Nat) t, fn.params[j]? = some t → Tryz.prog.wantsStandIn t = false := by
  obtain rfl : f = 4 := (Option.some.inj (sa_k5.symm.trans hf)).symm
  obtain rfl : fn = Tryz.f4 := (Option.some.inj (Tryz.func4.symm.trans hfn)).symm
  refine ⟨looks_k3, fun j t ht => ?_⟩
  rw [Tryz.params4] at ht
  have hm : t ∈ [3, 5] := by simpa using Array.mem_of_getElem? ht
  simpa using List.all_eq_true.1 sa_k6 t hm

end Ev

theorem languageSamples_card_holds : Go.Proofs.YtodemhmfnokomaaGreatDoor.Rows.LanguageSamplesCardSaid :=
  Claim7.holds_tied_plain_at .later [] [.data, .data, .data, .data, .sentinel, .sentinel, .widerDeep, .pinned] true (true, "1c4e2bf27764bbc304652920c5f47e0089326c9d3fc863d688f43119a33515f0") true
    Ev.samples_holds (fun _ h => by cases h) Ev.sa_k1 (fun _ h => by cases h) Go.Proofs.YtodemhmfnokomaaGreatDoor.languageSamples_row_tie rfl ⟨rfl, rfl⟩ Ev.main_k2 rfl
    (fun f fn hf hfn => Ev.sa_looks f fn hf hfn)
    Ev.sa_k4
#print axioms languageSamples_card_holds
end Go.Proofs.YtodemhmfnokomaaGreatDoor
