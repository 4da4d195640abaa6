/- LanguageNil, its walk. Conditions: what the row says of the package's variables. -/
import Derived.Test.YtodemhmfnokomaaGreatDoorFf
import Derived.Test.YtodemhmfnokomaaGreatDoorEvS
import Derived.WalkKit
namespace Go.Proofs.YtodemhmfnokomaaGreatDoor
namespace Ev
open Go

noncomputable def L7 : Summ := addFs 8 [fc8_0] L6
theorem L7_ok (base : Nat) : SummOk E0 base L7 := add_ok L6_ok (by
  intro F hF
  simp only [List.mem_cons, List.not_mem_nil, or_false] at hF
  rcases hF with rfl
  exact ⟨rfl, fc8_0_ok⟩) base
theorem bad_L7 : ∀ f, bad0 f = true → L7 f ≠ none := bad_add bad_L6

def fstC : Code → Code
  | .seq x _ => x
  | c => c
def sndC : Code → Code
  | .seq _ y => y
  | c => c
def thenC : Code → Code
  | .cond _ x _ => x
  | c => c
def bodyC (f : Func) : Code := match f.body with
  | some c => c
  | none => .skip

noncomputable def nilCond : Code := sndC (fstC (sndC (bodyC Tryz.f5)))
noncomputable def nilRest : Code := sndC (sndC (bodyC Tryz.f5))

theorem nil_run (b : Bool) : isTrue (tailR E0 idle0 L7 60 Tryz.f5.ntmps Tryz.f5.results.toList (.seq nilCond nilRest) (slotsT [(19, .bool b)]) ⟨0, .nil⟩) = true := by
  cases b
  · kernel_rfl
  · kernel_rfl
theorem nil_ok1 : codeOk nilCond = true := by kernel_rfl
theorem nil_ok2 : codeOk nilRest = true := by kernel_rfl

end Ev
end Go.Proofs.YtodemhmfnokomaaGreatDoor
namespace Go.Proofs.YtodemhmfnokomaaGreatDoor
namespace Ev
open Go Go.Proofs Go.RowKit

/-- what the runs know of memory -/
def Laid0 (w : World) : Prop := ∀ n cs, E0.glob n = some cs → n < w.heap.size ∧ ∃ C T fr, w.heap[n]? = some (.cells C T fr) ∧ VRels (fun _ => none) cs C.toList

theorem nil_tail {act : Act} {w : World} (hG : Laid0 w) (b : Bool) (hsz : act.tmps.size = 102) (hd : act.defers = []) (h19 : act.tmps.getD 19 undef = .bool b) :
    nilCond.wpIn (FW none) 0 Tryz.prog (Exit.then (nilRest.wpIn (FW none) 0 Tryz.prog (bodyPostM (FW none) 0 Tryz.prog Tryz.f5 fun e w' => e = .returned (.bool true) ∧ Below w.heap.size w w')) (bodyPostM (FW none) 0 Tryz.prog Tryz.f5 fun e w' => e = .returned (.bool true) ∧ Below w.heap.size w w')) act w :=
  tail2_true prog_ok L7_ok bad_L7 60 nil_ok1 nil_ok2 _ (nil_run b) hG hsz (by decide) hd fun p hp => by
    simp only [List.mem_cons, List.not_mem_nil, or_false] at hp
    subst hp
    exact ⟨by show 19 < 448; decide, by simp only [VRel]; exact h19⟩

set_option maxRecDepth 100000
theorem nil_walk (s : ByteArray) (p : Option Addr) (n c : Nat) (w : World) (hG : Laid0 w) : Calls Tryz.prog 5 #[.string s, .slice p n c] w fun e w' => e = .returned (.bool true) ∧ Below w.heap.size w w' := by
  refine (callsIn_wide (n := 0)).1 (callsIn_of_wp_marks Tryz.func5 rfl trivial ?_)
  simp only [Tryz.ntmps5, List.size_toArray, List.length_cons, List.length_nil, Nat.reduceAdd, Nat.reduceSub, Array.replicate_succ, Array.replicate_zero, List.push_toArray, List.append_toArray, List.nil_append, List.cons_append]
  refine wpIn_seq (wpIn_region_lit ?_)
  repeat' (first | (exact nil_tail hG _ rfl rfl rfl) | (refine wpIn_seq (wpIn_seq (wpIn_region_lit ?_))) | gi_guarded | gi_step | gi_upon)
end Ev
end Go.Proofs.YtodemhmfnokomaaGreatDoor
