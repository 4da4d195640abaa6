/- The program's facts, the library's contracts at this program, the first summaries. Conditions: none. -/
import Derived.Test.YtodemhmfnokomaaGreatDoorFd
import Derived.RecoverIn
import Derived.Tactics
import Derived.Tactics2
import Derived.Shelf.Strings.OnBuilder
import Derived.Shelf.SlIterI.Nil
import Derived.Shelf.SortM.Plain
import Derived.Shelf.SortM.SortNone
import Derived.Ground.GgzProg
import Derived.Ground.SlgmProg
import Derived.Test.YtodemhmfnokomaaGreatDoorProg
import Derived.Test.YtodemhmfnokomaaGreatDoorEvS
namespace Go.Proofs.YtodemhmfnokomaaGreatDoor
namespace Ev
open Go Go.Proofs

noncomputable def allI (p : Nat → Func → Bool) (l : List Func) : Nat → Bool := List.rec (motive := fun _ => Nat → Bool) (fun _ => true) (fun x _ ih i => Bool.rec (motive := fun _ => Bool) false (fN (Nat.succ i) ih) (p i x)) l

theorem allI_get (p : Nat → Func → Bool) : ∀ (l : List Func) (s : Nat), allI p l s = true → ∀ i fn, l[i]? = some fn → p (s + i) fn = true
  | [], _, _, i, fn, h => by simp at h
  | x :: l, s, e, i, fn, h => by
    have e' : Bool.rec (motive := fun _ => Bool) false (fN (Nat.succ s) (allI p l)) (p s x) = true := e
    rw [fN_eq] at e'
    cases hp : p s x with
    | false => rw [hp] at e'; cases e'
    | true =>
      rw [hp] at e'
      cases i with
      | zero => simp at h; subst h; exact hp
      | succ i =>
        simp at h
        have := allI_get p l (Nat.succ s) e' i fn h
        rwa [show Nat.succ s + i = s + (i + 1) by omega] at this

def funcFit (i : Nat) (fn : Func) : Bool := match fn.body with
  | none => true
  | some c => (bad0 i || codeOk c) && fn.name != "runtime.NumGoroutine"

theorem funcs_fit : allI funcFit Tryz.prog.funcs.toList 0 = true := by kernel_rfl

theorem func_fit {f : FuncId} {fn : Func} (h : Tryz.prog.funcs[f]? = some fn) : funcFit f fn = true := by
  have := allI_get funcFit _ 0 funcs_fit f fn (by rw [Array.getElem?_toList]; exact h)
  rwa [Nat.zero_add] at this

theorem idle92 : IdleOk E0 92 := by
  intro args w
  refine ⟨by simp [callFunc, E0, Tryz.func92, Tryz.f92], callsDIn_of_wpSIn Tryz.func92 rfl trivial fun c₀ cs hu => ?_⟩
  have hsz : 10 ≤ (args ++ Array.replicate (Tryz.f92.ntmps - args.size) undef).size := by
    have : Tryz.f92.ntmps = 10 := rfl
    simp; omega
  generalize args ++ Array.replicate (Tryz.f92.ntmps - args.size) undef = T at hsz
  apply wpSIn_seq
  apply wpSIn_region
  simp [wpOpsSIn, go_sem, recoverD, hu, Exit.thenS]
  have h4 : 4 < T.size := by omega
  have h3 : 3 < T.size := by omega
  have h5 : 5 < T.size := by omega
  have h6 : 6 < T.size := by omega
  simp only [h4, if_true]
  apply wpSIn_seq
  apply wpSIn_region
  simp [wpOpsSIn, go_sem, Exit.thenS, h3, h5, E0]
  refine wpSIn_cond (t := false) (by simp [Act.eval, h6]) ?_
  simp only [Bool.false_eq_true, if_false]
  refine wpSIn_of_wpIn rfl (wpIn_skip ?_)
  cases c₀
  simp_all [bodyPostS, results, Tryz.f92]

theorem idle200 : IdleOk E0 200 := by
  intro args w
  refine ⟨by simp [callFunc, E0, Tryz.func200, Tryz.f200], callsDIn_of_wpSIn Tryz.func200 rfl trivial fun c₀ cs hu => ?_⟩
  have hsz : 10 ≤ (args ++ Array.replicate (Tryz.f200.ntmps - args.size) undef).size := by
    have : Tryz.f200.ntmps = 10 := rfl
    simp; omega
  generalize args ++ Array.replicate (Tryz.f200.ntmps - args.size) undef = T at hsz
  apply wpSIn_seq
  apply wpSIn_region
  simp [wpOpsSIn, go_sem, recoverD, hu, Exit.thenS]
  have h4 : 4 < T.size := by omega
  have h3 : 3 < T.size := by omega
  have h5 : 5 < T.size := by omega
  have h6 : 6 < T.size := by omega
  simp only [h4, if_true]
  apply wpSIn_seq
  apply wpSIn_region
  simp [wpOpsSIn, go_sem, Exit.thenS, h3, h5, E0]
  refine wpSIn_cond (t := false) (by simp [Act.eval, h6]) ?_
  simp only [Bool.false_eq_true, if_false]
  refine wpSIn_of_wpIn rfl (wpIn_skip ?_)
  cases c₀
  simp_all [bodyPostS, results, Tryz.f200]

theorem prog_ok : ProgOk E0 idle0 bad0 where
  mix := by kernel_rfl
  names f fn c hf hb := by
    have := func_fit (show Tryz.prog.funcs[f]? = some fn from hf)
    unfold funcFit at this
    rw [hb] at this
    simp only [Bool.and_eq_true, bne_iff_ne, ne_eq] at this
    exact this.2
  code f fn c hbad hf hb := by
    have := func_fit (show Tryz.prog.funcs[f]? = some fn from hf)
    unfold funcFit at this
    rw [hb, hbad] at this
    simp only [Bool.false_or, Bool.and_eq_true] at this
    exact this.1
  idle f hi := by
    unfold idle0 at hi
    cases h : Nat.beq f 92 with
    | true => rw [nbeq_iff h]; exact idle92
    | false => rw [h] at hi; simp only [cond_false] at hi; rw [nbeq_iff hi]; exact idle200

end Ev
end Go.Proofs.YtodemhmfnokomaaGreatDoor
namespace Go.Proofs
open Go.Shelf
def Tryz.lays156_ren : Go.Shelf.Ren := ⟨fun | 156 => 45 | 165 => 71 | 166 => 72 | 169 => 73 | 240 => 132 | 241 => 133 | 276 => 198 | 277 => 199 | n => n, fun | 31 => 35 | 9 => 9 | 3 => 3 | 4 => 4 | 0 => 0 | 20 => 20 | 72 => 145 | 76 => 149 | 70 => 143 | 37 => 27 | 75 => 148 | 127 => 248 | 164 => 315 | 5 => 5 | 80 => 151 | n => n, fun | n => n⟩
theorem Tryz.lays156 : Go.Proofs.Lays.n156 Tryz.prog Tryz.lays156_ren := {
  mixed := by kernel_rfl
  f156 := Tryz.func45.trans (congrArg some (by kernel_rfl))
  f165 := Tryz.func71.trans (congrArg some (by kernel_rfl))
  f166 := Tryz.func72.trans (congrArg some (by kernel_rfl))
  f169 := Tryz.func73.trans (congrArg some (by kernel_rfl))
  f240 := Tryz.func132.trans (congrArg some (by kernel_rfl))
  f241 := Tryz.func133.trans (congrArg some (by kernel_rfl))
  f276 := Tryz.func198.trans (congrArg some (by kernel_rfl))
  f277 := Tryz.func199.trans (congrArg some (by kernel_rfl))
  t0 := Tryz.underlying0
  a0 := Tryz.isAgg0
  z0 := Tryz.sizeOf0
  v0 := Tryz.zeroValue0
  t3 := Tryz.underlying3
  a3 := Tryz.isAgg3
  z3 := Tryz.sizeOf3
  v3 := Tryz.zeroValue3
  t4 := Tryz.underlying4
  a4 := Tryz.isAgg4
  z4 := Tryz.sizeOf4
  v4 := Tryz.zeroValue4
  t9 := Tryz.underlying9
  a9 := Tryz.isAgg9
  z9 := Tryz.sizeOf9
  v9 := Tryz.zeroValue9
  t20 := Tryz.underlying20
  a20 := Tryz.isAgg20
  z20 := Tryz.sizeOf20
  v20 := Tryz.zeroValue20
  t31 := Tryz.underlying35
  a31 := Tryz.isAgg35
  z31 := Tryz.sizeOf35
  v31 := Tryz.zeroValue35
  t37 := Tryz.underlying27
  a37 := Tryz.isAgg27
  z37 := Tryz.sizeOf27
  v37 := Tryz.zeroValue27
  t70 := Tryz.underlying143
  a70 := Tryz.isAgg143
  z70 := Tryz.sizeOf143
  v70 := Tryz.zeroValue143
  t72 := Tryz.underlying145
  a72 := Tryz.isAgg145
  z72 := Tryz.sizeOf145
  v72 := Tryz.zeroValue145
  t75 := Tryz.underlying148
  a75 := Tryz.isAgg148
  z75 := Tryz.sizeOf148
  v75 := Tryz.zeroValue148
  t76 := Tryz.underlying149
  a76 := Tryz.isAgg149
  z76 := Tryz.sizeOf149
  v76 := Tryz.zeroValue149
  t127 := Tryz.underlying248
  a127 := Tryz.isAgg248
  z127 := Tryz.sizeOf248
  v127 := Tryz.zeroValue248
  t164 := Tryz.underlying315
  a164 := Tryz.isAgg315
  z164 := Tryz.sizeOf315
  v164 := Tryz.zeroValue315 }
theorem Tryz.Builder_Extra_156 : Builder.Extra Tryz.prog Tryz.lays156_ren := {
  sizeBuilder := by kernel_rfl
  liesBuilder := by kernel_rfl
  t5 := Tryz.underlying5
  a5 := Tryz.isAgg5
  z5 := Tryz.sizeOf5
  v5 := Tryz.zeroValue5
  infoByte := by kernel_rfl
  cellsByte := by kernel_rfl
  sizeByte := by kernel_rfl
  neB5 := by decide }
open Go.RowKit in
/-- No element: the empty string; the world is as it was. (Whatever the slice's address and capacity: a nil slice too.) (LAID: no walk: one application.) -/
theorem Tryz.strings_Join_none (a : Option Addr) (c : Nat) (sep : ByteArray) (w : World) :
    Calls Tryz.prog 45 #[.slice a 0 c, .string sep] w fun e w' => e = .returned (.string ⟨#[]⟩) ∧ w' = w := Any.strings_Join_none Tryz.lays156 Tryz.Builder_Extra_156 a c sep w
open Go.RowKit in
/-- strings.Join: "Join concatenates the elements of its first argument to create a single string. The separator string sep is placed between elements in the resulting string.": HOWEVER MANY ELEMENTS. Below the heap's end the world is as it was. (LAID: no walk: one application.) -/
theorem Tryz.strings_Join (bk o c : Nat) (xs : List ByteArray) (sep : ByteArray) (w : World) (hcells : ∀ (j : Nat) x, xs[j]? = some x → w.cell? ⟨bk, o + j, none⟩ = some (.string x)) (hbk : bk < w.heap.size) (hN : xs.length ≤ 140737488355328) (hcap : xs.length ≤ c) (hlen : (Lib.join (xs.map (·.data.toList)) sep.data.toList).length ≤ 140737488355328) :
    Calls Tryz.prog 45 #[.slice (some ⟨bk, o, none⟩) xs.length c, .string sep] w fun e w' => e = .returned (.string ⟨(Lib.join (xs.map (·.data.toList)) sep.data.toList).toArray⟩) ∧ Below w.heap.size w w' := Any.strings_Join Tryz.lays156 Tryz.Builder_Extra_156 bk o c xs sep w hcells hbk hN hcap hlen
def Tryz.keysA_ren : Go.Shelf.Ren := ⟨fun | 7 => 266 | 10 => 331 | n => n, fun | 23 => 385 | 26 => 3 | 3 => 4 | 28 => 396 | 0 => 0 | 27 => 395 | 33 => 105 | 4 => 4 | n => n, fun | n => n⟩
theorem Tryz.keysA : Go.Proofs.SlLaysZI.n7 Tryz.prog Tryz.keysA_ren := {
  mixed := by kernel_rfl
  f7 := ⟨Tryz.f266.name, by decide, Tryz.func266.trans (congrArg some (by kernel_rfl))⟩
  f10 := ⟨Tryz.f331.name, by decide, Tryz.func331.trans (congrArg some (by kernel_rfl))⟩
  t0 := Tryz.underlying0
  a0 := Tryz.isAgg0
  z0 := Tryz.sizeOf0
  v0 := Tryz.zeroValue0
  t4 := Tryz.underlying4
  a4 := Tryz.isAgg4
  z4 := Tryz.sizeOf4
  v4 := Tryz.zeroValue4
  t23 := Tryz.underlying385
  a23 := Tryz.isAgg385
  z23 := Tryz.sizeOf385
  v23 := Tryz.zeroValue385
  t26 := Tryz.underlying3
  a26 := Tryz.isAgg3
  z26 := Tryz.sizeOf3
  v26 := Tryz.zeroValue3
  t27 := Tryz.underlying395
  a27 := Tryz.isAgg395
  z27 := Tryz.sizeOf395
  v27 := Tryz.zeroValue395
  t28 := Tryz.underlying396
  a28 := Tryz.isAgg396
  z28 := Tryz.sizeOf396
  v28 := Tryz.zeroValue396
  t33 := Tryz.underlying105
  a33 := Tryz.isAgg105
  z33 := Tryz.sizeOf105
  v33 := Tryz.zeroValue105 }
def Tryz.sortedA_ren : Go.Shelf.Ren := ⟨fun | 6 => 265 | 8 => 330 | 9 => 176 | 11 => 362 | 13 => 234 | 12 => 233 | 23 => 296 | 24 => 297 | 14 => 287 | 15 => 288 | 16 => 289 | 17 => 290 | 18 => 291 | 19 => 292 | 20 => 293 | 21 => 294 | 22 => 295 | 25 => 340 | 26 => 341 | 27 => 342 | 28 => 343 | 29 => 344 | 30 => 345 | 31 => 364 | n => n, fun | 26 => 3 | 28 => 396 | 24 => 46 | 0 => 0 | 3 => 3 | 37 => 325 | 48 => 378 | 50 => 254 | 4 => 4 | 40 => 423 | 39 => 422 | 45 => 218 | 5 => 5 | 9 => 9 | 51 => 451 | 55 => 299 | 57 => 468 | 58 => 469 | 33 => 105 | n => n, fun | n => n⟩
theorem Tryz.sortedA : Go.Proofs.SlLaysZI.n6 Tryz.prog Tryz.sortedA_ren := {
  mixed := by kernel_rfl
  f6 := ⟨Tryz.f265.name, by decide, Tryz.func265.trans (congrArg some (by kernel_rfl))⟩
  f8 := ⟨Tryz.f330.name, by decide, Tryz.func330.trans (congrArg some (by kernel_rfl))⟩
  f11 := ⟨Tryz.f362.name, by decide, Tryz.func362.trans (congrArg some (by kernel_rfl))⟩
  t0 := Tryz.underlying0
  a0 := Tryz.isAgg0
  z0 := Tryz.sizeOf0
  v0 := Tryz.zeroValue0
  t24 := Tryz.underlying46
  a24 := Tryz.isAgg46
  z24 := Tryz.sizeOf46
  v24 := Tryz.zeroValue46
  t26 := Tryz.underlying3
  a26 := Tryz.isAgg3
  z26 := Tryz.sizeOf3
  v26 := Tryz.zeroValue3
  t28 := Tryz.underlying396
  a28 := Tryz.isAgg396
  z28 := Tryz.sizeOf396
  v28 := Tryz.zeroValue396
  i26 := by kernel_rfl }
def Tryz.sortA_ren : Go.Shelf.Ren := ⟨fun | 5 => 176 | 8 => 234 | 7 => 233 | 19 => 296 | 20 => 297 | 10 => 287 | 11 => 288 | 12 => 289 | 13 => 290 | 14 => 291 | 15 => 292 | 16 => 293 | 17 => 294 | 18 => 295 | 30 => 340 | 31 => 341 | 32 => 342 | 33 => 343 | 34 => 344 | 35 => 345 | 40 => 364 | n => n, fun | 23 => 46 | 25 => 3 | 3 => 3 | 32 => 325 | 22 => 46 | 0 => 0 | 44 => 378 | 46 => 254 | 4 => 4 | 36 => 423 | 35 => 422 | 41 => 218 | 5 => 5 | 9 => 9 | 53 => 451 | 57 => 299 | 63 => 468 | 64 => 469 | n => n, fun | n => n⟩
theorem Tryz.sortA : Go.Proofs.SlLaysM.n5 Tryz.prog Tryz.sortA_ren := {
  mixed := by kernel_rfl
  f5 := ⟨Tryz.f176.name, by decide, Tryz.func176.trans (congrArg some (by kernel_rfl))⟩
  f7 := ⟨Tryz.f233.name, by decide, Tryz.func233.trans (congrArg some (by kernel_rfl))⟩
  f8 := Tryz.func234.trans (congrArg some (by kernel_rfl))
  f10 := ⟨Tryz.f287.name, by decide, Tryz.func287.trans (congrArg some (by kernel_rfl))⟩
  f11 := ⟨Tryz.f288.name, by decide, Tryz.func288.trans (congrArg some (by kernel_rfl))⟩
  f12 := ⟨Tryz.f289.name, by decide, Tryz.func289.trans (congrArg some (by kernel_rfl))⟩
  f13 := ⟨Tryz.f290.name, by decide, Tryz.func290.trans (congrArg some (by kernel_rfl))⟩
  f14 := ⟨Tryz.f291.name, by decide, Tryz.func291.trans (congrArg some (by kernel_rfl))⟩
  f15 := ⟨Tryz.f292.name, by decide, Tryz.func292.trans (congrArg some (by kernel_rfl))⟩
  f16 := ⟨Tryz.f293.name, by decide, Tryz.func293.trans (congrArg some (by kernel_rfl))⟩
  f17 := ⟨Tryz.f294.name, by decide, Tryz.func294.trans (congrArg some (by kernel_rfl))⟩
  f18 := ⟨Tryz.f295.name, by decide, Tryz.func295.trans (congrArg some (by kernel_rfl))⟩
  f19 := Tryz.func296.trans (congrArg some (by kernel_rfl))
  f20 := Tryz.func297.trans (congrArg some (by kernel_rfl))
  f30 := ⟨Tryz.f340.name, by decide, Tryz.func340.trans (congrArg some (by kernel_rfl))⟩
  f31 := Tryz.func341.trans (congrArg some (by kernel_rfl))
  f32 := Tryz.func342.trans (congrArg some (by kernel_rfl))
  f33 := ⟨Tryz.f343.name, by decide, Tryz.func343.trans (congrArg some (by kernel_rfl))⟩
  f34 := ⟨Tryz.f344.name, by decide, Tryz.func344.trans (congrArg some (by kernel_rfl))⟩
  f35 := ⟨Tryz.f345.name, by decide, Tryz.func345.trans (congrArg some (by kernel_rfl))⟩
  f40 := ⟨Tryz.f364.name, by decide, Tryz.func364.trans (congrArg some (by kernel_rfl))⟩
  t0 := Tryz.underlying0
  a0 := Tryz.isAgg0
  z0 := Tryz.sizeOf0
  v0 := Tryz.zeroValue0
  t3 := Tryz.underlying3
  a3 := Tryz.isAgg3
  z3 := Tryz.sizeOf3
  v3 := Tryz.zeroValue3
  t4 := Tryz.underlying4
  a4 := Tryz.isAgg4
  z4 := Tryz.sizeOf4
  v4 := Tryz.zeroValue4
  t5 := Tryz.underlying5
  a5 := Tryz.isAgg5
  z5 := Tryz.sizeOf5
  v5 := Tryz.zeroValue5
  t9 := Tryz.underlying9
  a9 := Tryz.isAgg9
  z9 := Tryz.sizeOf9
  v9 := Tryz.zeroValue9
  t22 := Tryz.underlying46
  a22 := Tryz.isAgg46
  z22 := Tryz.sizeOf46
  v22 := Tryz.zeroValue46
  t23 := Tryz.underlying46
  a23 := Tryz.isAgg46
  z23 := Tryz.sizeOf46
  v23 := Tryz.zeroValue46
  t25 := Tryz.underlying3
  a25 := Tryz.isAgg3
  z25 := Tryz.sizeOf3
  v25 := Tryz.zeroValue3
  t32 := Tryz.underlying325
  a32 := Tryz.isAgg325
  z32 := Tryz.sizeOf325
  v32 := Tryz.zeroValue325
  t35 := Tryz.underlying422
  a35 := Tryz.isAgg422
  z35 := Tryz.sizeOf422
  v35 := Tryz.zeroValue422
  t36 := Tryz.underlying423
  a36 := Tryz.isAgg423
  z36 := Tryz.sizeOf423
  v36 := Tryz.zeroValue423
  t41 := Tryz.underlying218
  a41 := Tryz.isAgg218
  z41 := Tryz.sizeOf218
  v41 := Tryz.zeroValue218
  t44 := Tryz.underlying378
  a44 := Tryz.isAgg378
  z44 := Tryz.sizeOf378
  v44 := Tryz.zeroValue378
  t46 := Tryz.underlying254
  a46 := Tryz.isAgg254
  z46 := Tryz.sizeOf254
  v46 := Tryz.zeroValue254
  t53 := Tryz.underlying451
  a53 := Tryz.isAgg451
  z53 := Tryz.sizeOf451
  v53 := Tryz.zeroValue451
  t57 := Tryz.underlying299
  a57 := Tryz.isAgg299
  z57 := Tryz.sizeOf299
  v57 := Tryz.zeroValue299
  t63 := Tryz.underlying468
  a63 := Tryz.isAgg468
  z63 := Tryz.sizeOf468
  v63 := Tryz.zeroValue468
  t64 := Tryz.underlying469
  a64 := Tryz.isAgg469
  z64 := Tryz.sizeOf469
  v64 := Tryz.zeroValue469 }
end Go.Proofs
namespace Go.Proofs.YtodemhmfnokomaaGreatDoor
namespace Ev
open Go Go.Proofs Go.Maps Go.Shelf
open Go.RowKit (Below)

theorem flat0 : GlobFlat E0 := by
  intro n cs h ι κ l hv
  simp only [E0] at h
  cases hb : Nat.beq n 0 with
  | true =>
    rw [hb] at h
    simp only [cond_true, Option.some.injEq] at h
    subst h
    simpa only [VRels, VRel] using hv
  | false => rw [hb] at h; cases h

theorem idx_ok (base : Nat) : SummAt E0 base 360 idxFn := by
  refine idx_summ (by simp [hasBody, E0, Tryz.func360, Tryz.f360]) fun s c w => ?_
  show (callFunc 360 _).run Tryz.prog w = _
  rw [run_callFunc_extern Tryz.func360 (by kernel_rfl) (by kernel_rfl) (by kernel_rfl) (e := Extern.BytealgIndexByte.indexByte) (by kernel_rfl), run_indexByte_string]
  rfl

theorem cnt_ok (base : Nat) : SummAt E0 base 304 cntFn := by
  refine cnt_summ (by simp [hasBody, E0, Tryz.func304, Tryz.f304]) fun s c w => ?_
  show (callFunc 304 _).run Tryz.prog w = _
  rw [run_callFunc_extern Tryz.func304 (by kernel_rfl) (by kernel_rfl) (by kernel_rfl) (e := Extern.BytealgCount.count) (by kernel_rfl), Lib.run_countString]
  rw [count_foldlN, Nat.zero_add]
  rfl

theorem join_ok (base : Nat) : SummAt E0 base 45 joinFn :=
  join_summ (fun args w => enters_of Tryz.func45 (by kernel_rfl) rfl args w) (fun a c sep w => Tryz.strings_Join_none a c sep w)
    (fun bk o c xs sep w h1 h2 h3 h4 h5 => Tryz.strings_Join bk o c xs sep w h1 h2 h3 h4 h5)

theorem sortsA (m : Nat) : AnyZI.SortsIn Tryz.prog Tryz.sortedA_ren Fence.wide m :=
  ⟨fun blk off cap ss W hH hblk hsz => callsIn_wide.2 (AnyM.slices_Sort_int Tryz.sortA blk off cap ss W hH hblk hsz),
   fun p cap W => callsIn_wide.2 (AnyM.slices_Sort_int_none Tryz.sortA p cap W)⟩

theorem sort_ok (base : Nat) : SummAt E0 base 265 (sortFn 3 331) := by
  refine sort_summ (kt := 3) (et := 4) (fun args w => enters_of Tryz.func265 (by kernel_rfl) rfl args w) (by kernel_rfl) (by kernel_rfl) fun cell b nn D0 w hc hm hown hmax hbytes => ?_
  have hseq : SeqGives Fence.wide 2 Tryz.prog 331 #[.pointer (some ⟨cell, 0, none⟩)] encZ (fun ss => ss.Perm (intKeys D0)) (Maps.size D0) w :=
    AnyZI.keys_gives (ρ := Tryz.keysA_ren) { Tryz.keysA with } Fence.wide _ trivial rfl (by omega) cell b nn D0 _ hc hm hown
  have cS := AnyZI.sorted_in Tryz.sortedA Fence.wide 5 trivial trivial trivial trivial rfl (by omega) (sortsA _) (enters_of Tryz.func176 (by kernel_rfl) rfl) 331 #[.pointer (some ⟨cell, 0, none⟩)] trivial (enters_of Tryz.func331 (by kernel_rfl) rfl) _ _ hmax hbytes _ hseq
  exact (callsIn_wide (n := 5)).1 cS

theorem L0_ok (base : Nat) : SummOk E0 base L0 :=
  summOk_add (summOk_add (summOk_add (summOk_add (summOk_if summOk_none) (sort_ok base)) (join_ok base)) (cnt_ok base)) (idx_ok base)

theorem add_ok {g : FuncId} {l : List Fc} {S : Summ} (hS : ∀ base, SummOk E0 base S) (hl : ∀ F ∈ l, F.f = g ∧ FactOk E0 F) (base : Nat) : SummOk E0 base (addFs g l S) :=
  summOk_add (hS base) (tryFcs_summ flat0 l hl)

theorem bad_L0 (f : FuncId) (h : bad0 f = true) : L0 f ≠ none := by
  unfold L0
  rw [h]
  cases Nat.beq f 360 <;> cases Nat.beq f 304 <;> cases Nat.beq f 45 <;> cases Nat.beq f 265 <;> simp

theorem bad_add {g : FuncId} {l : List Fc} {S : Summ} (hS : ∀ f, bad0 f = true → S f ≠ none) (f : FuncId) (h : bad0 f = true) : addFs g l S f ≠ none := by
  unfold addFs
  cases Nat.beq f g with
  | true => simp
  | false => exact hS f h

/-- one fact, by its run -/
theorem fact_of {S : Summ} (hS : ∀ base, SummOk E0 base S) (hb : ∀ f, bad0 f = true → S f ≠ none) {F : Fc} (hr : chkFact F (callR E0 idle0 S 60 noY F.f F.args (heapOf F)) = true) : FactOk E0 F :=
  factOk_of prog_ok hS hb 60 F hr

end Ev
end Go.Proofs.YtodemhmfnokomaaGreatDoor
