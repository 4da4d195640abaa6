/- LanguageNil, lifted. Conditions: none. -/
import Derived.Test.YtodemhmfnokomaaGreatDoorNi
import Derived.Test.YtodemhmfnokomaaGreatDoorEvS
import Derived.Test.YtodemhmfnokomaaGreatDoorTie
import Derived.Test.YtodemhmfnokomaaGreatDoorCards
import Derived.LaidMore
import Derived.Lay
import Derived.OpenShut
import Derived.Stop.Joined
import Derived.Lib.LaidU8
import Derived.SevenTiedAt
namespace Go.Proofs.YtodemhmfnokomaaGreatDoor
namespace Ev
open Go Go.Proofs
open Go.RowKit Go.ChangeShapes Go.WideShapes Go.ChangeAt

theorem own46 : ownKnob Tryz.prog.godebug = none := by kernel_rfl
theorem out46 : laidOutB Tryz.prog = true := by kernel_rfl
theorem gTerms : Tryz.prog.globalNamed "emendate/lexspec.layoutTerms" = some 0 := by kernel_rfl
theorem tTerms : (Tryz.prog.globals[0]?).map (·.type) = some 208 := by kernel_rfl
theorem cells9 : Tryz.prog.cellsOf 9 = 1 := by kernel_rfl

/-- the variables as the rows have them -/
def laid46 : List (String × DataW Unit) := Go.Proofs.YtodemhmfnokomaaGreatDoor.Rows.languageNilRow.laid
theorem plain46 : (laid46.all fun x => x.2.handleName?.isNone) = true := by kernel_rfl

theorem string_at {x : Value} {bs : List UInt8} {m : Nat} {w : World} {q : List MemPlace} (h : DataW.trod (fun _ => ()) Tryz.prog w 0 (fun _ => true) false m 9 [x] = some (.lit (.string bs), q)) : ∃ s : ByteArray, x = .string s ∧ s.data.toList = bs := by
  obtain ⟨s, h1, h2, _⟩ := DataW.trod_string Tryz.underlying9 h
  simp only [List.cons.injEq, and_true] at h1
  simp only [Prod.mk.injEq, DataW.lit.injEq, Lit.string.injEq] at h2
  exact ⟨s, h1, h2.1.symm⟩

set_option maxRecDepth 100000 in
theorem laid0_of {W : World} (h : laidMetH Tryz.prog laid46 W) : Laid0 W := by
  rw [MakeChecks.laidMetH_plain _ _ _ plain46] at h
  obtain ⟨g, t, cs, fuel, p, h1, h2, h3, h4⟩ := Lib.laidMet.reads h (n := "emendate/lexspec.layoutTerms") (d := Go.Proofs.YtodemhmfnokomaaGreatDoor.Rows.laid_emendate_lexspec_layoutTerms) (by
    show _ ∈ Go.Proofs.YtodemhmfnokomaaGreatDoor.Rows.languageNilRow.laid
    simp [Go.Proofs.YtodemhmfnokomaaGreatDoor.Rows.languageNilRow])
  obtain rfl := Option.some.inj (gTerms.symm.trans h1)
  obtain rfl := Option.some.inj (tTerms.symm.trans h2)
  obtain ⟨xs, m, rfl, hx, hlen, hn, hel⟩ := DataW.trod_array Tryz.underlying208 h4
  have c208 : Tryz.prog.cellsOf 208 = 3 := by kernel_rfl
  rw [c208] at hlen
  simp only [Go.Proofs.YtodemhmfnokomaaGreatDoor.Rows.laid_emendate_lexspec_layoutTerms, Prod.mk.injEq, DataW.agg.injEq] at hx
  match hcs : cs.toList, hlen, xs, hn, hx with
  | [y0, y1, y2], _, [x0, x1, x2], _, hx =>
    simp only [List.map_cons, List.map_nil, List.cons.injEq, and_true] at hx
    obtain ⟨⟨e0, e1, e2⟩, _⟩ := hx
    have k0 := hel 0 (by decide)
    have k1 := hel 1 (by decide)
    have k2 := hel 2 (by decide)
    rw [cells9, hcs] at k0 k1 k2
    simp at k0 k1 k2
    obtain ⟨d0, q0⟩ := x0
    obtain ⟨d1, q1⟩ := x1
    obtain ⟨d2, q2⟩ := x2
    simp only at e0 e1 e2
    subst e0; subst e1; subst e2
    obtain ⟨s0, rfl, f0⟩ := string_at k0
    obtain ⟨s1, rfl, f1⟩ := string_at k1
    obtain ⟨s2, rfl, f2⟩ := string_at k2
    intro n l hl
    simp only [E0] at hl
    cases hb : Nat.beq n 0 with
    | false => rw [hb] at hl; cases hl
    | true =>
      rw [hb] at hl
      simp only [cond_true, Option.some.injEq] at hl
      subst hl
      obtain rfl := nbeq_iff hb
      unfold World.var? at h3
      rw [gTerms] at h3
      simp only [Option.bind_some] at h3
      split at h3
      · rename_i C T fr hC
        cases h3
        refine ⟨(Array.getElem?_eq_some_iff.1 hC).1, cs, T, fr, hC, ?_⟩
        rw [hcs]
        have sz : ∀ s : ByteArray, s.size = s.data.toList.length := fun s => (bsize s).symm
        refine ⟨_, _, rfl, ?_, _, _, rfl, ?_, _, _, rfl, ?_, ?_⟩
        · simp only [VRel]; exact ⟨s0, rfl, by rw [sz, f0]; rfl, by rw [f0]; rfl⟩
        · simp only [VRel]; exact ⟨s1, rfl, by rw [sz, f1]; rfl, by rw [f1]; rfl⟩
        · simp only [VRel]; exact ⟨s2, rfl, by rw [sz, f2]; rfl, by rw [f2]; rfl⟩
        · simp only [VRels]
      · cases h3



end Ev
end Go.Proofs.YtodemhmfnokomaaGreatDoor
namespace Go.Proofs.YtodemhmfnokomaaGreatDoor
namespace Ev
open Go Go.Proofs
open Go.RowKit Go.ChangeShapes Go.WideShapes Go.ChangeAt Go.WideMaps Go.ChangeMaps

theorem start46 (os : Os) (args : Array Value) : laidMetH Tryz.prog laid46 ((World.laidAll Tryz.prog os laid46).forCall (fun _ _ => 0) ⟨#[], args, []⟩).memory := by
  rw [MakeChecks.laidMetH_plain _ _ _ plain46]
  exact laidMet_laidAll _ (by kernel_rfl) (by kernel_rfl)

end Ev
end Go.Proofs.YtodemhmfnokomaaGreatDoor
namespace Go.Proofs.YtodemhmfnokomaaGreatDoor
namespace Ev
open Go Go.Proofs
open Go.RowKit Go.ChangeShapes Go.WideShapes Go.ChangeAt Go.WideMaps Go.ChangeMaps

set_option maxRecDepth 100000 in
theorem nil_lifted (os : Os) (started : os.Started) (H : Type) (enc : TypeId × Value → H) :
    ReturnsInHanded {} Tryz.checked os 5 .any (fun w args => (Go.Proofs.YtodemhmfnokomaaGreatDoor.Rows.languageNilSpec.pre enc Tryz.prog Tryz.f5 [] false w args ∧ laidMetH Tryz.prog laid46 w) ∧ sizedMet enc Tryz.prog Tryz.f5 (OpenSpec.ofChange Go.Proofs.YtodemhmfnokomaaGreatDoor.Rows.languageNilSpec) false w args)
      (Go.Proofs.YtodemhmfnokomaaGreatDoor.Rows.languageNilSpec.post enc Tryz.prog Tryz.f5 false true false false) := by
  refine returnsInHanded_of_change_and (C := Tryz.checked) (X := fun w _ => laidMetH Tryz.prog laid46 w) (fun _ _ _ hh h => h.of_heap hh) own46 started (by kernel_rfl) Tryz.func5
    (ChangeSpec.witness_shaped (enc := enc) (C := Tryz.checked) (os := os) (X := fun w _ => laidMetH Tryz.prog laid46 w) false (World.laidAll Tryz.prog os laid46) #[.string ⟨#[]⟩, .slice none 0 0] 8 (World.laidAll_os _ _ _)
      (World.shaped_of_ZipB (by kernel_rfl) (by kernel_rfl)) (by kernel_rfl) (by kernel_rfl) (by kernel_rfl) (start46 os _)) ?_
  intro W base args ds gs before hval0 hW _ _ hL _
  have hval : ∀ (j : Nat) t v, Tryz.f5.params[j]? = some t → args[j]? = some v → Value.okWide Tryz.prog W .any base t v := hval0
  have hW' := hW
  obtain ⟨p, q, hA0, hV, rfl, _, _⟩ := hW
  have hA : DataW.TrodAll enc Tryz.prog W 0 (fun _ => true) true Tryz.f5.params.toList args.toList ds p := hA0
  have hA' := hA
  rw [Tryz.params5] at hA hval
  obtain ⟨v0, v1, d0, d1, p0, p1, rfl, rfl, rfl, h0, h1⟩ := trodAll_two hA
  obtain ⟨rfl, rfl⟩ := trodVars_none hV
  obtain ⟨s, rfl, _, _, _⟩ := open_string Tryz.underlying9 (hval 0 9 v0 rfl rfl) h0
  have hslice := okWide_slice Tryz.underlying46 (hval 1 46 v1 rfl rfl)
  obtain ⟨pa, n, c, rfl⟩ := hslice
  simp only [List.append_nil] at hW'
  refine (nil_walk s pa n c W (laid0_of hL)).mono fun e W' ⟨he, hb⟩ => ?_
  subst he
  exact ⟨_, rfl, _, _, _, [], _, [], hW', trodAll_mk1 (shut_bool Tryz.underlying4 _), trodAll_below out46 hb _ _ _ _ hA' (by kernel_rfl) (fun x hx => by simpa using hW'.lt x hx), rfl, hb.frame _, fun h => by cases h⟩

end Ev
end Go.Proofs.YtodemhmfnokomaaGreatDoor
