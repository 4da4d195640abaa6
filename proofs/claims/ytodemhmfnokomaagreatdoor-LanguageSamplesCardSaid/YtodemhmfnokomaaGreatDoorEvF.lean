/- Frames, code and calls, first part. Conditions: none. -/
import Derived.Test.YtodemhmfnokomaaGreatDoorEvEc
import Derived.RangeFuncLeaves
import Derived.LoopNIn
namespace Go.Proofs.YtodemhmfnokomaaGreatDoor
namespace Ev
open Go

/-- deferred calls -/
def DRel (ι : Inj) : ADef → Deferred → Prop
  | .call f cap args, d => ∃ f' cap' args' : _, d = { target := .fn f' cap', args := args' } ∧ FnRel ι f f' ∧ VRels ι cap cap'.toList ∧ VRels ι args args'.toList
  | .mark b, d => ∃ g, ι b = some g ∧ d = { target := .collected g.cb, args := #[] }

def DRels (ι : Inj) : List ADef → List Deferred → Prop
  | [], l => l = []
  | x :: r, l => ∃ y q, l = y :: q ∧ DRel ι x y ∧ DRels ι r q

theorem DRel.mono {ι κ : Inj} (h : ι.le κ) {x : ADef} {d : Deferred} (r : DRel ι x d) : DRel κ x d := by
  cases x with
  | call f cap args => obtain ⟨f', c', a', e, h1, h2, h3⟩ := r; exact ⟨f', c', a', e, h1.mono h, h2.mono h, h3.mono h⟩
  | mark b => obtain ⟨g, hg, e⟩ := r; exact ⟨g, h _ _ hg, e⟩

theorem DRels.mono {ι κ : Inj} (h : ι.le κ) : ∀ {x : List ADef} {d : List Deferred}, DRels ι x d → DRels κ x d
  | [], _, r => r
  | _ :: _, _, ⟨y, q, e, h1, h2⟩ => ⟨y, q, e, h1.mono h, DRels.mono h h2⟩

structure FRel (ι : Inj) (a : AF) (act : Act) : Prop where
  sz : act.tmps.size = a.sz
  le : a.sz ≤ 448
  get : ∀ t, VRel ι (a.get t) (act.tmps.getD t undef)
  ds : DRels ι a.ds act.defers

section
variable {ι κ : Inj} {a : AF} {act : Act}

theorem FRel.mono (h : ι.le κ) (r : FRel ι a act) : FRel κ a act := ⟨r.sz, r.le, fun t => (r.get t).mono h, r.ds.mono h⟩

theorem AF.get_eq (a : AF) (t : Nat) : a.get t = tmpsGet a.tmps (pth t) := by cases a; rfl

theorem FRel.ev (r : FRel ι a act) (x : Operand) : VRel ι (a.ev x) (act.eval x) := by
  cases x with
  | tmp t => exact r.get t
  | const v => exact absV_rel ι v
  | global g => simp only [AF.ev, VRel]; rfl
  | func f => simp only [AF.ev, VRel]; exact ⟨_, _, _, rfl, rfl, VRels.nil ι, VRels.nil ι⟩

theorem FRel.evL (r : FRel ι a act) : ∀ l : List Operand, VRels ι (evL a l) (l.map act.eval)
  | [] => VRels.nil ι
  | x :: l => .cons (r.ev x) (r.evL l)

theorem FRel.evP (r : FRel ι a act) : ∀ l : List (Nat × Operand), PRels ι (evP a l) (l.map fun p => (p.1, act.eval p.2))
  | [] => rfl
  | (_i, x) :: l => ⟨_, _, rfl, r.ev x, r.evP l⟩

theorem FRel.evO (r : FRel ι a act) (x : Option Operand) : ORel ι (evO a x) (x.map act.eval) := by
  cases x with
  | none => rfl
  | some x => exact ⟨_, rfl, r.ev x⟩

theorem pth_ne {s t : Nat} (hs : s < 448) (hne : t ≠ s) : pth t ≠ pth s := by
  by_cases ht : t < 512
  · exact fun e => hne (pth_inj ht (by omega) e)
  · intro e
    have h1 : (pth t).x = (pth s).x := by rw [e]
    have h2 : (pth t).x = .d7 := by
      show dig (Nat.div t 64) = .d7
      have : 8 ≤ t / 64 := by omega
      have hb : ∀ n, n < 8 → Nat.beq (Nat.div t 64) n = false := fun n hn => nbeq_false (by
        show t / 64 ≠ n
        omega)
      unfold dig
      simp only [hb 0 (by omega), hb 1 (by omega), hb 2 (by omega), hb 3 (by omega), hb 4 (by omega), hb 5 (by omega), hb 6 (by omega), cond_false]
    have h3 : (pth s).x ≠ .d7 := by
      show dig (Nat.div s 64) ≠ .d7
      have : s / 64 < 7 := by omega
      have h4 := undig_dig (Nat.div s 64) (by show s / 64 < 8; omega)
      intro e'
      rw [e'] at h4
      have h5 : Nat.div s 64 = 7 := h4.symm.trans rfl
      have h6 : s / 64 = 7 := h5
      omega
    exact h3 (h1 ▸ h2)

/-- a slot set -/
theorem FRel.put (r : FRel ι a act) {d : Option Tmp} {v : AV} {v' : Value} (hv : VRel ι v v') {β : Type} {fail : β} {f : AF → β} {res : β} (hne : res ≠ fail) (h : putK fail a d v f = res) :
    ∃ a', f a' = res ∧ FRel ι a' (act.put d v') ∧ a'.sz = a.sz := by
  cases d with
  | none => exact ⟨a, h, r, rfl⟩
  | some t =>
    obtain ⟨sz, m, ds⟩ := a
    simp only [putK] at h
    cases hb : Nat.ble (Nat.succ t) sz <;> rw [hb] at h <;> simp only [cond_true, cond_false] at h
    · exact absurd h.symm hne
    · have hlt : @LT.lt Nat _ t sz := nble_iff hb
      have hle := r.le
      have hsz := r.sz
      simp only at hle hsz
      rw [tmpsSetK_eq] at h
      refine ⟨⟨sz, tmpsSet m (pth t) v, ds⟩, h, ⟨by simpa [Act.put] using r.sz, r.le, fun s => ?_, r.ds⟩, rfl⟩
      rw [AF.get_eq]
      simp only [Act.put]
      by_cases hs : s = t
      · subst hs
        rw [tmpsGet_set_same]
        simpa [Array.getD_eq_getD_getElem?, Array.getElem?_setIfInBounds, hsz, hlt] using hv
      · rw [tmpsGet_set_ne _ _ (pth_ne (Nat.lt_of_lt_of_le hlt hle) hs)]
        have := r.get s
        rw [AF.get_eq] at this
        simpa [Array.getD_eq_getD_getElem?, Array.getElem?_setIfInBounds, Ne.symm hs] using this

end
end Ev
end Go.Proofs.YtodemhmfnokomaaGreatDoor
namespace Go.Proofs.YtodemhmfnokomaaGreatDoor
namespace Ev
open Go

section
variable {E : Env} {base : Nat} {ι : Inj} {h : Heap} {w : World}

/-- what an operation brings: a value, or nothing -/
def OpRes (E : Env) (base : Nat) (ι : Inj) (h : Heap) (w : World) (v : AV) (h' : Heap) (s : Sem Next) : Prop :=
  ∃ ι' w', Stp E base ι h w ι' h' w' ∧ ((∃ v', VRel ι' v v' ∧ s.run E.P w = .ok (.value v') w') ∨ (v = undefA ∧ s.run E.P w = .ok .skip w'))

theorem pv_ok {r : PRes} {v : AV} {h' : Heap} (hd : pv r h = .ok v h') : r = .ok v ∧ h' = h := by
  cases r with
  | ok x => simp only [pv, VRes.ok.injEq] at hd; exact ⟨by rw [hd.1], hd.2.symm⟩
  | fail => cases hd

theorem OpRes.pure (H : HRel E base ι h w) {v : AV} {h' : Heap} {s : Sem Value} (hh : h' = h) {v' : Value} (hv : VRel ι v v') (hr : s.run E.P w = .ok v' w) :
    OpRes E base ι h w v h' (s >>= fun x => Pure.pure (Next.value x)) := by
  subst hh
  exact ⟨ι, w, Stp.refl H, .inl ⟨v', hv, by simp [hr]⟩⟩

theorem OpRes.val {v : AV} {h' : Heap} {s : Sem Value} (hx : ∃ ι' v' w', Stp E base ι h w ι' h' w' ∧ VRel ι' v v' ∧ s.run E.P w = .ok v' w') :
    OpRes E base ι h w v h' (s >>= fun x => Pure.pure (Next.value x)) := by
  obtain ⟨ι', v', w', h1, h2, h3⟩ := hx
  exact ⟨ι', w', h1, .inl ⟨v', h2, by simp [h3]⟩⟩

theorem OpRes.unit {v : AV} {h' : Heap} {s : Sem Unit} (hv : v = undefA) (hx : ∃ w', Stp E base ι h w ι h' w' ∧ s.run E.P w = .ok () w') :
    OpRes E base ι h w v h' (s >>= fun _ => Pure.pure Next.skip) := by
  obtain ⟨w', h1, h2⟩ := hx
  exact ⟨ι, w', h1, .inr ⟨hv, by simp [h2]⟩⟩

set_option maxHeartbeats 4000000 in
theorem evalOp_ok (H : HRel E base ι h w) {a : AF} {act : Act} (r : FRel ι a act) {callF : CallY} {Y : YF} (o : Oper) (hc : ∀ c, o.op ≠ .call c) {v : AV} {h' : Heap}
    (hd : evalOp E callF Y o.op a h = .ok v h') (hf : Free ι h.next h'.next) : OpRes E base ι h w v h' (execOp act.eval o) := by
  obtain ⟨dst, op, type, pos, after, guard⟩ := o
  cases op <;> simp only [evalOp, reduceCtorEq] at hd <;> simp only [execOp]
  case move x => cases hd; exact ⟨ι, w, Stp.refl H, .inl ⟨_, r.ev x, rfl⟩⟩
  case assign x => cases hd; exact ⟨ι, w, Stp.refl H, .inl ⟨_, r.ev x, rfl⟩⟩
  case pick c x y =>
    have hcr := r.ev c
    split at hd
    · rename_i b hb
      rw [hb] at hcr
      have hb' := hcr.bool_inv
      cases hd
      refine ⟨ι, w, Stp.refl H, .inl ⟨if b then act.eval x else act.eval y, ?_, by simp [hb', asBool]⟩⟩
      cases b
      · exact r.ev y
      · exact r.ev x
    · cases hd
  case alloc t => exact OpRes.val (doAlloc_ok H hd hf)
  case box t x =>
    have hx := r.ev x
    split at hd
    · cases hd
    · rename_i hne
      exact OpRes.val (doBox_ok H hd hf hx hne)
  case build t ps =>
    obtain ⟨h1, v', h2, h3⟩ := doBuild_ok hd (parts' := ps.map fun (i, x) => (i, act.eval x)) (by simpa using r.evP ps.toList)
    exact OpRes.pure H h1 h2 (h3 w)
  case buildSlice t n ps =>
    exact OpRes.val (doBuildSlice_ok H hd hf (parts' := ps.map fun (i, x) => (i, act.eval x)) (by simpa using r.evP ps.toList))
  case load t x =>
    obtain ⟨h1, v', h2, h3⟩ := doLoad_ok H hd (r.ev x)
    exact OpRes.pure H h1 h2 h3
  case store t x y =>
    obtain ⟨h1, h2, h3⟩ := doStore_ok H hd (r.ev x) (r.ev y)
    exact OpRes.unit h1 h3
  case nilCheck x =>
    have hx := r.ev x
    split at hd
    · rename_i b o he
      cases hd
      rw [he] at hx
      obtain ⟨g, hg, e⟩ := hx
      exact ⟨ι, w, Stp.refl H, .inl ⟨_, by simp only [VRel]; exact ⟨g, hg, rfl⟩, by rw [e]; rfl⟩⟩
    · rename_i b o he
      cases hd
      rw [he] at hx
      simp only [VRel] at hx
      exact ⟨ι, w, Stp.refl H, .inl ⟨.pointer (some ⟨b, o, none⟩), by simp only [VRel], by rw [hx]; rfl⟩⟩
    · rename_i f l q he
      rw [he] at hx
      split at hd
      · cases hd
      · rename_i hm
        cases hd
        have hx0 := hx
        obtain ⟨f', xs, ys, e, hfr, _⟩ := hx
        refine ⟨ι, w, Stp.refl H, .inl ⟨act.eval x, hx0, ?_⟩⟩
        rw [e]
        cases f' with
        | method n =>
          cases f <;> simp only [FnRel, reduceCtorEq, and_false, exists_false] at hfr
          case method n' => exact absurd rfl (hm n')
        | _ => rfl
    · rename_i t y he
      cases hd
      rw [he] at hx
      have hx0 := hx
      obtain ⟨z, e, _⟩ := hx
      exact ⟨ι, w, Stp.refl H, .inl ⟨act.eval x, hx0, by rw [e]; rfl⟩⟩
    · cases hd
  case binOp op t x y t' =>
    obtain ⟨h1, h2⟩ := pv_ok hd
    obtain ⟨v', h3, h4⟩ := binA_ok h1 (r.ev x) (r.ev y)
    exact OpRes.pure H h2 h3 (h4 w)
  case unOp op t x =>
    obtain ⟨h1, h2⟩ := pv_ok hd
    obtain ⟨v', h3, h4⟩ := unA_ok h1 (r.ev x)
    exact OpRes.pure H h2 h3 (h4 w)
  case convert s d x => exact OpRes.val (doConvert_ok H hd hf (r.ev x))
  case makeInterface t x =>
    split at hd
    · cases hd
    · rename_i D hni' hu
      cases hd
      refine OpRes.pure H rfl (v' := .iface t (act.eval x)) (by simp only [VRel]; exact ⟨_, rfl, r.ev x⟩) ?_
      simp only [Instr.makeInterface, Sem.run_bind, run_underlying hu, Result.andThen_ok]
      cases D <;> first | exact (hni' _ rfl).elim | rfl
    · cases hd
  case makeFunc fn first cap =>
    split at hd
    · cases hd
    · rename_i hny
      cases hd
      refine OpRes.pure H rfl (v' := .func fn (first.map act.eval) (cap.map act.eval)) ?_ rfl
      simp only [VRel]
      refine ⟨fn, _, _, rfl, ?_, by simpa using r.evL first.toList, by simpa using r.evL cap.toList⟩
      cases fn <;> first | exact absurd rfl (hny _) | rfl
  case makeMap t q =>
    cases q with
    | none =>
      obtain ⟨next, tr⟩ := h
      exact OpRes.val (makeMap_ok H (t := t) (v := v) (h' := h') hd hf)
    | some x => cases hd
  case makeSlice t l c => exact OpRes.val (doMakeSlice_ok H hd hf (r.ev l) (r.ev c))
  case slice t x lo hi mx =>
    obtain ⟨h1, v', h2, h3⟩ := doSlice_ok H hd (r.ev x) (r.evO lo) (r.evO hi) (r.evO mx)
    exact OpRes.pure H h1 h2 h3
  case fieldAddr s x i =>
    obtain ⟨h1, h2⟩ := pv_ok hd
    obtain ⟨v', h3, h4⟩ := doFieldAddr_ok h1 (r.ev x)
    exact OpRes.pure H h2 h3 (h4 w)
  case field t x i =>
    obtain ⟨h1, h2⟩ := pv_ok hd
    obtain ⟨v', h3, h4⟩ := doField_ok h1 (r.ev x)
    exact OpRes.pure H h2 h3 (h4 w)
  case indexAddr t x i =>
    obtain ⟨h1, h2⟩ := pv_ok hd
    obtain ⟨v', h3, h4⟩ := doIndexAddr_ok h1 (r.ev x) (r.ev i)
    exact OpRes.pure H h2 h3 (h4 w)
  case index t x i =>
    obtain ⟨h1, h2⟩ := pv_ok hd
    obtain ⟨v', h3, h4⟩ := doIndex_ok h1 (r.ev x) (r.ev i)
    exact OpRes.pure H h2 h3 (h4 w)
  case lookup t x k ok =>
    obtain ⟨h1, v', h2, h3⟩ := doLookup_ok H hd (r.ev x) (r.ev k)
    exact OpRes.pure H h1 h2 h3
  case mapUpdate t m k y =>
    obtain ⟨h1, h2, h3⟩ := doMapUpdate_ok H hd (r.ev m) (r.ev k) (r.ev y)
    exact OpRes.unit h1 h3
  case insert t m k y =>
    obtain ⟨h1, h2, h3⟩ := doMapUpdate_ok H hd (r.ev m) (r.ev k) (r.ev y)
    exact OpRes.unit h1 h3
  case mapEntry t m k =>
    obtain ⟨h1, v', w', h2⟩ := doMapEntry_ok H hd (r.ev m) (r.ev k)
    exact OpRes.val ⟨ι, v', w', h2⟩
  case entryStore t m s y =>
    obtain ⟨h1, h2, h3⟩ := doEntryStore_ok (t := t) H hd (r.ev m) (r.ev s) (r.ev y)
    exact OpRes.unit h1 h3
  case range t x => exact OpRes.val (doRange_ok H hd hf (r.ev x))
  case next it isS =>
    cases isS with
    | false =>
      obtain ⟨h1, v', w', h2⟩ := doNext_ok (ty := type) H hd (r.ev it)
      exact OpRes.val ⟨ι, v', w', h2⟩
    | true =>
      obtain ⟨h1, v', w', h2⟩ := doNextS_ok (ty := type) H hd (r.ev it)
      exact OpRes.val ⟨ι, v', w', h2⟩
  case entry it =>
    obtain ⟨h1, v', h2, h3⟩ := doEntry_ok H hd (r.ev it)
    exact OpRes.pure H h1 h2 h3
  case extract t i =>
    have ht := r.ev t
    split at hd
    · rename_i vs he
      rw [he] at ht
      obtain ⟨xs, e, hx⟩ := ht
      split at hd
      · rename_i u hu
        cases hd
        rw [nthO_eq] at hu
        obtain ⟨u', h1, h2⟩ := hx.get i _ hu
        refine OpRes.pure H rfl h2 ?_
        have h3 : xs[i]? = some u' := by simpa using h1
        simp [e, Instr.extract, h3]
      · cases hd
    · cases hd
  case call c => exact absurd rfl (hc c)

end
end Ev
end Go.Proofs.YtodemhmfnokomaaGreatDoor
namespace Go.Proofs.YtodemhmfnokomaaGreatDoor
namespace Ev
open Go

section
variable {E : Env} {base : Nat} {ι : Inj} {h : Heap} {w : World}

theorem VRels.one {x : AV} {l : List Value} (h : VRels ι [x] l) : ∃ a, l = [a] ∧ VRel ι x a := by
  obtain ⟨a, q, rfl, h1, h2⟩ := h
  simp only [VRels] at h2; subst h2
  exact ⟨a, rfl, h1⟩

theorem VRels.two {x y : AV} {l : List Value} (h : VRels ι [x, y] l) : ∃ a b, l = [a, b] ∧ VRel ι x a ∧ VRel ι y b := by
  obtain ⟨a, q, rfl, h1, h2⟩ := h
  obtain ⟨b, rfl, h3⟩ := h2.one
  exact ⟨a, b, rfl, h1, h3⟩

theorem toList_arr {α : Type} {xs : Array α} {l : List α} (h : xs.toList = l) : xs = l.toArray := by
  rw [← h]

theorem doCap_ok {ats : List TypeId} {ty : TypeId} {x : AV} {x' : Value} {v : AV} (hd : doCap E.P ats x = .ok v) (hx : VRel ι x x') :
    ∃ v', VRel ι v v' ∧ (Builtin.cap_ ats.toArray ty #[x']).run E.P w = .ok v' w := by
  unfold doCap at hd
  split at hd
  · rename_i t rest
    split at hd
    · rename_i e hu
      split at hd
      · cases hd
        simp only [VRel] at hx; subst hx
        exact ⟨goInt 0, by simp only [VRel, goInt]; rfl, by simp [Builtin.cap_, run_underlying hu]⟩
      · rename_i b o n z
        cases hd
        simp only [VRel] at hx
        obtain ⟨a, c, g, rfl, h1, h2, _⟩ := hx
        obtain rfl := h2 trivial
        exact ⟨goInt c, by simp only [VRel, goInt]; rfl, by simp [Builtin.cap_, run_underlying hu]⟩
      · cases hd
    · cases hd
  · cases hd

theorem doBuiltin_ok (H : HRel E base ι h w) {b : Builtin} {ats : Array TypeId} {ty : TypeId} {consts : Array Bool} {args : List AV} {args' : Array Value} {v : AV} {h' : Heap}
    (hd : doBuiltin E.P b ats.toList args h = .ok v h') (hf : Free ι h.next h'.next) (ha : VRels ι args args'.toList) : OpRes E base ι h w v h' (builtin b ats ty consts args') := by
  cases b <;> simp only [doBuiltin, reduceCtorEq] at hd <;> simp only [builtin]
  case append =>
    split at hd
    · rename_i s x
      obtain ⟨s', x', e, h1, h2⟩ := ha.two
      obtain rfl := toList_arr e
      have := doAppend_ok (ty := ty) H hd hf h1 h2
      exact OpRes.val (by simpa using this)
    · cases hd
  case cap =>
    split at hd
    · rename_i x
      obtain ⟨x', e, h1⟩ := ha.one
      obtain rfl := toList_arr e
      obtain ⟨h2, h3⟩ := pv_ok hd
      obtain ⟨v', h4, h5⟩ := doCap_ok (w := w) (ty := ty) h2 h1
      exact OpRes.pure H h3 h4 (by simpa using h5)
    · cases hd
  case copy =>
    split at hd
    · rename_i s x
      obtain ⟨s', x', e, h1, h2⟩ := ha.two
      obtain rfl := toList_arr e
      obtain ⟨_, v', w', h3⟩ := doCopy_ok (ty := ty) H hd h1 h2
      exact OpRes.val ⟨ι, v', w', by simpa using h3⟩
    · cases hd
  case delete =>
    split at hd
    · rename_i s x
      obtain ⟨s', x', e, h1, h2⟩ := ha.two
      obtain rfl := toList_arr e
      obtain ⟨_, v', w', h3⟩ := doDelete_ok (ty := ty) H hd h1 h2
      exact OpRes.val ⟨ι, v', w', by simpa using h3⟩
    · cases hd
  case len =>
    split at hd
    · rename_i x
      obtain ⟨x', e, h1⟩ := ha.one
      obtain rfl := toList_arr e
      obtain ⟨h2, h3⟩ := pv_ok hd
      obtain ⟨v', h4, h5⟩ := doLen_ok (ty := ty) H h2 h1
      exact OpRes.pure H h3 h4 (by simpa using h5)
    · cases hd
  case max =>
    split at hd
    · rename_i s x
      obtain ⟨s', x', e, h1, h2⟩ := ha.two
      obtain rfl := toList_arr e
      obtain ⟨h3, h4⟩ := pv_ok hd
      obtain ⟨v', h5, h6⟩ := minMax_ok (P := E.P) h3 h1 h2
      refine OpRes.pure H h4 h5 ?_
      have := h6 w
      simp only [cond_true] at this
      simp [Builtin.max_, this]
    · cases hd
  case min =>
    split at hd
    · rename_i s x
      obtain ⟨s', x', e, h1, h2⟩ := ha.two
      obtain rfl := toList_arr e
      obtain ⟨h3, h4⟩ := pv_ok hd
      obtain ⟨v', h5, h6⟩ := minMax_ok (P := E.P) h3 h1 h2
      refine OpRes.pure H h4 h5 ?_
      have := h6 w
      simp only [cond_false] at this
      simp [Builtin.min_, this]
    · cases hd

end
end Ev
end Go.Proofs.YtodemhmfnokomaaGreatDoor
namespace Go.Proofs.YtodemhmfnokomaaGreatDoor
namespace Ev
open Go

/-- a result's next number is not below n -/
def Mono (n : Nat) (r : VRes) : Prop := ∀ v h', r = .ok v h' → n ≤ h'.next

theorem Mono.fail (n : Nat) : Mono n .fail := fun _ _ e => by cases e
theorem Mono.ok {n : Nat} {v : AV} {h : Heap} (hn : n ≤ h.next) : Mono n (.ok v h) := fun _ _ e => by cases e; exact hn
theorem Mono.self {v : AV} {h : Heap} : Mono h.next (.ok v h) := .ok (Nat.le_refl _)
theorem Mono.mk {n : Nat} {v : AV} {tr : Tr Blk} : Mono n (.ok v ⟨n, tr⟩) := .ok (Nat.le_refl _)
theorem Mono.up {n : Nat} {v : AV} {tr : Tr Blk} : Mono n (.ok v ⟨Nat.succ n, tr⟩) := .ok (Nat.le_succ _)
theorem Mono.mk' {n n' : Nat} {v : AV} {tr tr' tr'' : Tr Blk} (e : (⟨n, tr⟩ : Heap) = ⟨n', tr'⟩) : Mono n (.ok v ⟨n', tr''⟩) := by cases e; exact .mk
theorem Mono.bif {n : Nat} {c : Bool} {x y : VRes} (hx : Mono n x) (hy : Mono n y) : Mono n (bif c then x else y) := by
  cases c
  · exact hy
  · exact hx
theorem Mono.le {n m : Nat} {r : VRes} (h : Mono m r) (hn : n ≤ m) : Mono n r := fun v h' e => Nat.le_trans hn (h v h' e)

theorem trOf_k (l : List AV) : ∀ (i : Nat) (t : Tr AV) (f : Tr AV → Nat → VRes), ∃ t' n, trOf l i t f = f t' n := by
  induction l with
  | nil => intro i t f; exact ⟨t, i, rfl⟩
  | cons x l ih => intro i t f; simp only [trOf, Tr.setK_eq]; exact ih _ _ f

theorem writeN_k (l : List AV) : ∀ (i : Nat) (t : Tr AV) (f : Tr AV → VRes), writeN l i t f = .fail ∨ ∃ t', writeN l i t f = f t' := by
  induction l with
  | nil => intro i t f; exact .inr ⟨t, rfl⟩
  | cons x l ih =>
    intro i t f
    simp only [writeN, Tr.setK_eq]
    cases x.one
    · exact .inl rfl
    · exact ih _ _ f

theorem Mono.pv {h : Heap} {r : PRes} : Mono h.next (pv r h) := by
  cases r with
  | ok v => exact .self
  | fail => exact .fail _

theorem Mono.newCells {ty : TypeId} {ex : Bool} {h : Heap} {l : List AV} {f : Nat → Heap → VRes} (hf : ∀ tr, Mono h.next (f h.next ⟨Nat.succ h.next, tr⟩)) : Mono h.next (newCells ty ex h l f) := by
  obtain ⟨next, tr⟩ := h
  obtain ⟨t', n, e⟩ := trOf_k l 0 .nil (fun t n => tr.setK (some (.cells ty n t false ex)) next fun tr' => f next ⟨Nat.succ next, tr'⟩)
  show Mono next (trOf l 0 .nil _)
  rw [e]
  simp only [Tr.setK_eq]
  exact hf _

theorem Mono.newBlk {ty : TypeId} {h : Heap} {l : List AV} : Mono h.next (newBlk ty h l) := .newCells fun _ => .up

theorem Mono.newB {h : Heap} {b : Blk} {f : Nat → AV} : Mono h.next (newB h b f) := by
  obtain ⟨next, tr⟩ := h
  simp only [Ev.newB, Tr.setK_eq]
  exact .up

theorem Mono.storeAtA {h : Heap} {b o : Nat} {l : List AV} : Mono h.next (storeAtA h b o l) := by
  obtain ⟨next, tr⟩ := h
  simp only [Ev.storeAtA]
  split
  · rename_i ty size t ex _
    refine .bif ?_ (.fail _)
    rcases writeN_k l o t (fun t' => tr.setK (some (.cells ty size t' false ex)) b fun tr' => VRes.ok undefA ⟨next, tr'⟩) with e | ⟨t', e⟩
    · rw [e]; exact .fail _
    · rw [e]; simp only [Tr.setK_eq]; exact .mk
  · exact .fail _

section
variable (P : Program) (h : Heap)

theorem Mono.load (glob : Nat → Option (List AV)) (t : TypeId) (x : AV) : Mono h.next (doLoad P glob t x h) := by
  unfold doLoad
  repeat' (first | exact .fail _ | exact .self | refine .bif ?_ ?_ | split)

theorem Mono.store (t : TypeId) (x v : AV) : Mono h.next (doStore P t x v h) := by
  unfold doStore
  repeat' (first | exact .fail _ | exact .storeAtA | refine .bif ?_ ?_ | split)

theorem Mono.alloc (t : TypeId) : Mono h.next (doAlloc P t h) := by
  unfold doAlloc
  repeat' (first | exact .fail _ | exact .newBlk | split)

theorem Mono.build (t : TypeId) (ps : List (Nat × AV)) : Mono h.next (doBuild P t ps h) := by
  unfold doBuild
  repeat' (first | exact .fail _ | exact .self | split)

theorem Mono.buildSlice (t : TypeId) (n : Nat) (ps : List (Nat × AV)) : Mono h.next (doBuildSlice P t n ps h) := by
  unfold doBuildSlice
  repeat' (first | exact .fail _ | exact .newCells fun _ => .up | refine .bif ?_ ?_ | split)

theorem Mono.makeSlice (t : TypeId) (l c : AV) : Mono h.next (doMakeSlice P t l c h) := by
  unfold doMakeSlice
  repeat' (first | exact .fail _ | exact .newCells fun _ => .up | refine .bif ?_ ?_ | split)

theorem Mono.slice (t : TypeId) (x : AV) (lo hi mx : Option AV) : Mono h.next (doSlice P t x lo hi mx h) := by
  unfold doSlice
  simp only [forceN_eq]
  repeat' (first | exact .fail _ | exact .self | refine .bif ?_ ?_ | split)

theorem Mono.convert (s d : TypeId) (x : AV) : Mono h.next (doConvert P s d x h) := by
  unfold doConvert
  repeat' (first | exact .fail _ | exact .self | exact .newCells fun _ => .up | refine .bif ?_ ?_ | split)

theorem Mono.lookup (t : TypeId) (x k : AV) (ok : Bool) : Mono h.next (doLookup P t x k ok h) := by
  unfold doLookup
  repeat' (first | exact .fail _ | exact .self | refine .bif ?_ ?_ | split)

theorem Mono.mapUpdate (t : TypeId) (m k v : AV) : Mono h.next (doMapUpdate P t m k v h) := by
  obtain ⟨next, tr⟩ := h
  unfold doMapUpdate
  simp only [Tr.setK_eq]
  repeat' (first | exact .fail _ | exact .mk | exact .mk' (by assumption) | refine .bif ?_ ?_ | split)

theorem Mono.delete (ats : List TypeId) (m k : AV) : Mono h.next (doDelete P ats m k h) := by
  obtain ⟨next, tr⟩ := h
  unfold doDelete
  simp only [Tr.setK_eq]
  repeat' (first | exact .fail _ | exact .mk | exact .mk' (by assumption) | refine .bif ?_ ?_ | split)

theorem Mono.mapEntry (t : TypeId) (m k : AV) : Mono h.next (doMapEntry P t m k h) := by
  obtain ⟨next, tr⟩ := h
  unfold doMapEntry
  simp only [Tr.setK_eq]
  repeat' (first | exact .fail _ | exact .mk | exact .mk' (by assumption) | refine .bif ?_ ?_ | split)

theorem Mono.entryStore (m s v : AV) : Mono h.next (doEntryStore m s v h) := by
  obtain ⟨next, tr⟩ := h
  unfold doEntryStore
  simp only [Tr.setK_eq]
  repeat' (first | exact .fail _ | exact .mk | exact .mk' (by assumption) | refine .bif ?_ ?_ | split)

theorem Mono.range (t : TypeId) (x : AV) : Mono h.next (doRange P t x h) := by
  unfold doRange
  repeat' (first | exact .fail _ | exact .newB | split)

theorem Mono.next (x : AV) : Mono h.next (doNext x h) := by
  obtain ⟨next, tr⟩ := h
  unfold doNext
  simp only [Tr.setK_eq]
  repeat' (first | exact .fail _ | exact .mk | exact .mk' (by assumption) | refine .bif ?_ ?_ | split)

theorem Mono.nextS (x : AV) : Mono h.next (doNextS x h) := by
  obtain ⟨next, tr⟩ := h
  unfold doNextS
  simp only [Tr.setK_eq, forceN_eq]
  repeat' (first | exact .fail _ | exact .mk | exact .mk' (by assumption) | refine .bif ?_ ?_ | split)

theorem Mono.entry (x : AV) : Mono h.next (doEntry x h) := by
  unfold doEntry
  repeat' (first | exact .fail _ | exact .self | refine .bif ?_ ?_ | split)

end
end Ev
end Go.Proofs.YtodemhmfnokomaaGreatDoor
namespace Go.Proofs.YtodemhmfnokomaaGreatDoor
namespace Ev
open Go

def MonoY (Y : YF) : Prop := ∀ l args h, Mono h.next (Y l args h)
def MonoC (callF : CallY) : Prop := ∀ Y f args h, MonoY Y → Mono h.next (callF Y f args h)
def MonoF (n : Nat) (r : FRes) : Prop := ∀ a' h', r = .ok a' h' → n ≤ h'.next
def MonoR (n : Nat) (r : CRes) : Prop := ∀ x a' h', r = .done x a' h' → n ≤ h'.next

theorem MonoF.fail (n : Nat) : MonoF n .fail := fun _ _ e => by cases e
theorem MonoR.fail (n : Nat) : MonoR n .fail := fun _ _ _ e => by cases e
theorem MonoF.le {n m : Nat} {r : FRes} (h : MonoF m r) (hn : n ≤ m) : MonoF n r := fun a' h' e => Nat.le_trans hn (h a' h' e)
theorem MonoR.le {n m : Nat} {r : CRes} (h : MonoR m r) (hn : n ≤ m) : MonoR n r := fun x a' h' e => Nat.le_trans hn (h x a' h' e)

section
variable (E : Env) {callF : CallY} {Y : YF}

theorem mono_appendOn (e b o m m' len' size : Nat) (new : List AV) (h : Heap) : Mono h.next (appendOn e b o m m' len' size new h) := by
  obtain ⟨next, tr⟩ := h
  simp only [appendOn]
  split
  · refine .bif (.bif ?_ ?_) (.fail _)
    · rename_i ty sz0 t ex _
      rcases writeN_k new m t (fun t' => tr.setK none b fun tr1 => tr1.setK (some (.cells e m' t' false false)) next fun tr2 => VRes.ok (.sl next 0 len' size false) ⟨Nat.succ next, tr2⟩) with q | ⟨t', q⟩
      · rw [q]; exact .fail _
      · rw [q]; simp only [Tr.setK_eq]; exact .up
    · split
      · rename_i old _
        obtain ⟨t', n, q⟩ := trOf_k (old ++ new) 0 .nil (fun t' n => tr.setK none b fun tr1 => tr1.setK (some (.cells e n t' false false)) next fun tr2 => VRes.ok (.sl next 0 len' size false) ⟨Nat.succ next, tr2⟩)
        rw [q]; simp only [Tr.setK_eq]; exact .up
      · exact .fail _
  · exact .fail _

theorem mono_appendS (P : Program) (e : TypeId) (s x : AV) (h : Heap) : Mono h.next (doAppendS P e s x h) := by
  unfold doAppendS
  simp only [forceN_eq]
  repeat' (first | exact .fail _ | exact .self | exact .newCells fun _ => .up | apply mono_appendOn | refine .bif ?_ ?_ | split)

theorem mono_builtin (b : Builtin) (ats : List TypeId) (args : List AV) (h : Heap) : Mono h.next (doBuiltin E.P b ats args h) := by
  cases b <;> simp only [doBuiltin] <;> (try exact .fail _) <;> split <;> (try exact .fail _) <;> (try exact .pv)
  · unfold doAppend
    split
    · split
      · unfold doAppendMake
        repeat' (first | exact .fail _ | exact .newCells fun _ => .up | refine .bif ?_ ?_ | split)
      · exact mono_appendS _ _ _ _ _
      · exact mono_appendS _ _ _ _ _
      · exact .fail _
    · exact .fail _
  · unfold doCopy
    simp only [forceN_eq]
    repeat' (first | exact .fail _ | exact .self | refine .bif ?_ ?_ | split)
    rename_i e
    exact .ok (Mono.storeAtA _ _ e)
  · exact .delete E.P h _ _ _

theorem mono_op (hC : MonoC callF) (hY : MonoY Y) (op : Op) (a : AF) (h : Heap) : Mono h.next (evalOp E callF Y op a h) := by
  cases op <;> simp only [evalOp] <;> (try exact .fail _) <;> (try exact .self) <;> (try exact .pv)
  case pick c x y => split <;> first | exact .self | exact .fail _
  case alloc t => apply Mono.alloc
  case box t x => split <;> first | exact .newBlk | exact .fail _
  case build t ps => apply Mono.build
  case buildSlice t n ps => apply Mono.buildSlice
  case load t x => apply Mono.load
  case store t x y => apply Mono.store
  case nilCheck x => repeat' (first | exact .fail _ | exact .self | split)
  case convert s d x => apply Mono.convert
  case makeInterface t x => repeat' (first | exact .fail _ | exact .self | split)
  case makeFunc f l c => repeat' (first | exact .fail _ | exact .self | split)
  case makeMap t q =>
    cases q with
    | none =>
      obtain ⟨next, tr⟩ := h
      simp only [Tr.setK_eq]
      exact .up
    | some x => exact .fail _
  case makeSlice t l c => apply Mono.makeSlice
  case slice t x lo hi mx => apply Mono.slice
  case lookup t x k ok => apply Mono.lookup
  case mapUpdate t m k y => apply Mono.mapUpdate
  case insert t m k y => apply Mono.mapUpdate
  case mapEntry t m k => apply Mono.mapEntry
  case entryStore t m s y => apply Mono.entryStore
  case range t x => apply Mono.range
  case next it isS =>
    cases isS
    · show Mono h.next (doNext _ h); apply Mono.next
    · show Mono h.next (doNextS _ h); apply Mono.nextS
  case entry it => apply Mono.entry
  case extract t i => repeat' (first | exact .fail _ | exact .self | split)
  case call c =>
    unfold doCall
    split
    · unfold doCallV
      split
      · exact hC _ _ _ _ hY
      · exact hY _ _ _
      · exact .fail _
    · exact mono_builtin E _ _ _ _
    · exact .fail _

theorem putK_mono {n : Nat} {a : AF} {d : Option Tmp} {v : AV} {f : AF → FRes} (hf : ∀ a', MonoF n (f a')) : MonoF n (putK .fail a d v f) := by
  cases d with
  | none => exact hf a
  | some t =>
    obtain ⟨sz, m, ds⟩ := a
    simp only [putK, tmpsSetK_eq]
    cases Nat.ble (Nat.succ t) sz
    · exact .fail _
    · exact hf _

theorem deferA_mono {n : Nat} {o : Op} {a : AF} {f : AF → FRes} (hf : ∀ a', MonoF n (f a')) : MonoF n (deferA o a f) := by
  unfold deferA
  split
  · split
    · split
      · exact hf _
      · exact .fail _
    · exact .fail _
  · exact .fail _

theorem mono_ops (hC : MonoC callF) (hY : MonoY Y) (inR : Bool) (ops : Array Oper) : ∀ (l : List Oper) (a : AF) (h : Heap), MonoF h.next (evalOps E callF Y inR ops l a h)
  | [], a, h => fun a' h' e => by simp only [evalOps, FRes.ok.injEq] at e; rw [e.2]; exact Nat.le_refl _
  | o :: rest, a, h => by
    simp only [evalOps]
    split
    · cases isDefer o.op
      · simp only [cond_false]
        split
        · rename_i v h' hd
          exact putK_mono fun a' => (mono_ops hC hY inR ops rest a' h').le (mono_op E hC hY o.op a h v h' hd)
        · exact .fail _
      · simp only [cond_true]
        cases inR <;> simp only [cond_true, cond_false]
        · exact deferA_mono fun a1 => putK_mono fun a' => mono_ops hC hY false ops rest a' h
        · exact .fail _
    · exact putK_mono fun a' => mono_ops hC hY inR ops rest a' h
    · exact .fail _

theorem mono_draw (hC : MonoC callF) (hY : MonoY Y) (ops : Array Oper) : ∀ (l : List PI) (a : AF) (h : Heap) (hs : List Heap) (k : Nat), MonoF h.next (evalDraw E callF Y ops l a h hs k)
  | [], a, h, hs, k => fun a' h' e => by simp only [evalDraw, FRes.ok.injEq] at e; rw [e.2]; exact Nat.le_refl _
  | p :: rest, a, h, hs, k => by
    simp only [evalDraw]
    split
    · split
      · split
        · exact putK_mono fun a' => mono_draw hC hY ops rest a' h hs k
        · exact .fail _
      · cases isDefer p.o.op
        · simp only [cond_false]
          split
          · rename_i v h' hd
            exact putK_mono fun a' => (mono_draw hC hY ops rest a' h' _ _).le (mono_op E hC hY p.o.op a h v h' hd)
          · exact .fail _
        · exact .fail _
      · split
        · rename_i v h' hd
          exact putK_mono fun a' => (mono_draw hC hY ops rest a' h' _ _).le (mono_op E hC hY p.o.op a h v h' hd)
        · exact .fail _
    · split
      · exact putK_mono fun a' => mono_draw hC hY ops rest a' h _ _
      · exact putK_mono fun a' => mono_draw hC hY ops rest a' h hs k
    · exact .fail _

/-- rounds -/
def MonoL (n : Nat) : LRes → Prop
  | .more _ h => n ≤ h.next
  | .stop r => MonoR n r

theorem mono_rnd {body : AF → Heap → CRes} (hb : ∀ a h, MonoR h.next (body a h)) (a : AF) (h : Heap) : MonoL h.next (rnd body a h) := by
  unfold rnd
  have := hb a h
  split
  · rename_i x a' h' e
    rw [e] at this
    split
    · exact this _ _ _ rfl
    · exact fun _ _ _ e' => by cases e'; exact this _ _ _ rfl
  · exact .fail _

theorem mono_iter {body : AF → Heap → CRes} (hb : ∀ a h, MonoR h.next (body a h)) : ∀ (k : Nat) (a : AF) (h : Heap), MonoL h.next (iter body k a h)
  | 0, a, h => mono_rnd hb a h
  | k + 1, a, h => by
    simp only [iter]
    have h1 := mono_iter hb k a h
    split
    · rename_i a' h' e
      rw [e] at h1
      have h2 := mono_iter hb k a' h'
      generalize iter body k a' h' = r at h2
      cases r with
      | more a2 h3 => exact Nat.le_trans h1 h2
      | stop r => exact MonoR.le h2 h1
    · rename_i r e
      rw [e] at h1
      exact h1

theorem mono_loop {body : AF → Heap → CRes} (hb : ∀ a h, MonoR h.next (body a h)) (a : AF) (h : Heap) : MonoR h.next (evalLoop body a h) := by
  unfold evalLoop
  have h1 := mono_iter hb 20 a h
  split
  · exact .fail _
  · rename_i r e
    rw [e] at h1
    exact h1

theorem mono_setParams {n : Nat} : ∀ (ps : List Tmp) (args : List AV) (sz : Nat) (m : Tmps) (f : Tmps → VRes), (∀ m', Mono n (f m')) → Mono n (setParams ps args sz m f)
  | [], [], sz, m, f, hf => hf m
  | [], _ :: _, sz, m, f, hf => .fail _
  | _ :: _, [], sz, m, f, hf => .fail _
  | t :: ps, x :: args, sz, m, f, hf => by
    simp only [setParams, tmpsSetK_eq]
    refine .bif (mono_setParams ps args sz _ f hf) (.fail _)

theorem mono_beginLp {n : Nat} {h : Heap} {l : Nat} {f : Heap → VRes} (hn : n ≤ h.next) (hf : ∀ h', n ≤ h'.next → Mono n (f h')) : Mono n (beginLp h l f) := by
  obtain ⟨next, tr⟩ := h
  simp only [beginLp, Tr.setK_eq]
  split
  · exact hf _ hn
  · exact .fail _

theorem mono_endLp {n : Nat} {h : Heap} {l : Nat} {x : Option AX} {f : Heap → VRes} (hn : n ≤ h.next) (hf : ∀ h', n ≤ h'.next → Mono n (f h')) : Mono n (endLp h l x f) := by
  obtain ⟨next, tr⟩ := h
  simp only [endLp, Tr.setK_eq]
  split
  · exact hf _ hn
  · exact .fail _

theorem mono_round {assign body : AF → Heap → CRes} (ha : ∀ a h, MonoR h.next (assign a h)) (hb : ∀ a h, MonoR h.next (body a h)) (l : Nat) (ps : List Tmp) (a : AF) (args : List AV) (h : Heap) :
    Mono h.next (roundA assign body l ps a args h) := by
  obtain ⟨sz, m, ds⟩ := a
  simp only [roundA]
  refine .bif ?_ (.fail _)
  refine mono_setParams _ _ _ _ _ fun m' => ?_
  split
  · rename_i a1 h1 e
    have h2 := ha _ _ _ _ _ e
    refine mono_beginLp h2 fun h3 h4 => ?_
    split
    · rename_i x a2 h5 e'
      have h6 := Nat.le_trans h4 (hb _ _ _ _ _ e')
      refine .bif ?_ (.fail _)
      split
      · exact mono_endLp h6 fun h' hn => .ok hn
      · exact mono_endLp h6 fun h' hn => .ok hn
    · exact .fail _
  · exact .fail _

theorem mono_endRange {a : AF} {h : Heap} {l : Nat} : MonoR h.next (endRange a h l) := by
  obtain ⟨next, tr⟩ := h
  simp only [endRange, Tr.setK_eq]
  split
  · split <;> exact fun _ _ _ e => by cases e; exact Nat.le_refl _
  · exact .fail _

theorem mono_range (hC : MonoC callF) (hY : MonoY Y) {assign body : AF → Heap → CRes} (ha : ∀ a h, MonoR h.next (assign a h)) (hb : ∀ a h, MonoR h.next (body a h)) (f : AV) (ps : List Tmp) (a : AF) (h : Heap) :
    MonoR h.next (evalRange E.P callF Y f ps assign body a h) := by
  unfold evalRange
  split
  · rename_i g first captured sz m ds next tr
    cases hasBody E.P g <;> simp only [cond_true, cond_false]
    · exact .fail _
    simp only [Tr.setK_eq]
    split
    · rename_i v h' e
      have := hC _ _ _ _ (fun l args h => ?_) _ _ e
      · exact mono_endRange.le (Nat.le_trans (Nat.le_succ _) (Nat.le_trans (Nat.le_succ _) this))
      · show Mono h.next (bif Nat.beq l (Nat.succ next) then _ else _)
        exact .bif (mono_round ha hb _ _ _ _ _) (hY _ _ _)
    · exact .fail _
  · exact .fail _

theorem mono_code (hC : MonoC callF) (hY : MonoY Y) : ∀ (c : Code) (inR : Bool) (a : AF) (h : Heap), MonoR h.next (evalC E callF Y inR c a h) := by
  intro c
  induction c with
  | skip => intro inR a h x a' h' e; simp only [evalC, CRes.done.injEq] at e; rw [e.2.2]; exact Nat.le_refl _
  | label l => intro inR a h x a' h' e; simp only [evalC, CRes.done.injEq] at e; rw [e.2.2]; exact Nat.le_refl _
  | ret => intro inR a h x a' h' e; simp only [evalC, CRes.done.injEq] at e; rw [e.2.2]; exact Nat.le_refl _
  | exit id => intro inR a h x a' h' e; simp only [evalC, CRes.done.injEq] at e; rw [e.2.2]; exact Nat.le_refl _
  | region id ops draw =>
    intro inR a h
    simp only [evalC]
    split
    · split
      · rename_i a' h' e
        exact fun _ _ _ e' => by cases e'; exact mono_ops E hC hY inR ops _ _ _ _ _ e
      · exact .fail _
    · split
      · rename_i a' h' e
        exact fun _ _ _ e' => by cases e'; exact mono_draw E hC hY ops _ _ _ _ _ _ _ e
      · exact .fail _
  | seq x y ihx ihy =>
    intro inR a h
    simp only [evalC]
    have h1 := ihx inR a h
    split
    · rename_i x1 a' h' e
      rw [e] at h1
      have h2 := h1 _ _ _ rfl
      split
      · exact (ihy inR a' h').le h2
      · exact fun _ _ _ e' => by cases e'; exact h2
    · exact .fail _
  | cond c x y ihx ihy =>
    intro inR a h
    simp only [evalC]
    split
    · rename_i b e
      cases b
      · exact ihy inR a h
      · exact ihx inR a h
    · exact .fail _
  | block id x ih =>
    intro inR a h
    simp only [evalC]
    have h1 := ih inR a h
    split
    · rename_i x1 a' h' e
      rw [e] at h1
      have h2 := h1 _ _ _ rfl
      split
      · rename_i id'
        cases Nat.beq id' id <;> exact fun _ _ _ e' => by cases e'; exact h2
      · exact fun _ _ _ e' => by cases e'; exact h2
    · exact .fail _
  | loop x ih => intro inR a h; simp only [evalC]; exact mono_loop (ih inR) a h
  | scope x ih =>
    intro inR a h
    simp only [evalC]
    have h1 := ih inR a h
    split
    · rename_i x1 a' h' e
      rw [e] at h1
      have h2 := h1 _ _ _ rfl
      split
      · exact .fail _
      · exact fun _ _ _ e' => by cases e'; exact h2
    · exact .fail _
  | rangeFunc f ps assign body iha ihb =>
    intro inR a h
    simp only [evalC]
    cases inR
    · exact mono_range E hC hY (iha true) (ihb true) _ _ _ _
    · exact .fail _
  | _ => intro inR a h; simp only [evalC]; exact .fail _

theorem mono_leave (idle : IdleF) : ∀ (l : List ADef) (h : Heap) (f : Heap → VRes), (∀ h', h.next ≤ h'.next → Mono h.next (f h')) → Mono h.next (leaveA idle l h f)
  | [], h, f, hf => hf h (Nat.le_refl _)
  | d :: r, h, f, hf => by
    simp only [leaveA]
    split
    · rename_i g c as
      exact .bif (mono_leave idle r h f hf) (.fail _)
    · rename_i b
      obtain ⟨next, tr⟩ := h
      simp only [Tr.setK_eq]
      split
      · exact mono_leave idle r ⟨next, _⟩ f hf
      · exact .fail _
    · exact .fail _

theorem mono_setArgs {n : Nat} : ∀ (l : List AV) (i : Nat) (m : Tmps) (f : Tmps → VRes), (∀ m', Mono n (f m')) → Mono n (setArgs l i m f)
  | [], i, m, f, hf => hf m
  | x :: r, i, m, f, hf => by simp only [setArgs, tmpsSetK_eq]; exact mono_setArgs r _ _ f hf

theorem mono_runBody (idle : IdleF) (hC : MonoC callF) (hY : MonoY Y) (fn : Func) (args : List AV) (h : Heap) : Mono h.next (runBody E idle callF Y fn args h) := by
  unfold runBody
  split
  · exact .fail _
  · rename_i c hc
    refine .bif ?_ (.fail _)
    refine mono_setArgs _ _ _ _ fun m => ?_
    split
    · rename_i x a' h' e
      have h1 := mono_code E hC hY c false _ _ _ _ _ e
      split
      · exact .fail _
      · exact .fail _
      · refine (mono_leave idle _ _ _ fun h2 h3 => ?_).le h1
        split
        · exact .ok h3
        · exact .fail _
    · exact .fail _

theorem mono_callN (idle : IdleF) {S : Summ} (hS : ∀ f s, S f = some s → ∀ args h, Mono h.next (s args h)) : ∀ n, MonoC (callN E idle S n)
  | 0 => fun _ _ _ _ _ => .fail _
  | n + 1 => fun Y f args h hY => by
    simp only [callN]
    split
    · rename_i s e
      exact hS f s e args h
    · split
      · exact mono_runBody E idle (mono_callN idle hS n) hY _ _ _
      · exact .fail _

end
end Ev
end Go.Proofs.YtodemhmfnokomaaGreatDoor
namespace Go.Proofs.YtodemhmfnokomaaGreatDoor
namespace Ev
open Go

def FW (ro : Option Nat) : Fence := { fn := fun _ => True, depth := none, alive := false, round := ro }

def CallPost (E : Env) (base : Nat) (ι : Inj) (h : Heap) (w : World) (v : AV) (h' : Heap) (e : Ending) (w' : World) : Prop :=
  ∃ ι' v', e = .returned v' ∧ VRel ι' v v' ∧ Stp E base ι h w ι' h' w'

/-- yields -/
def YOk (E : Env) (base : Nat) (ι : Inj) (Y : YF) : Prop :=
  ∀ κ, ι.le κ → ∀ l args h v h' (args' : Array Value) w, Y l args h = .ok v h' → HRel E base κ h w → Free κ h.next h'.next → VRels κ args args'.toList →
    ∃ g, ι l = some g ∧ ∃ f tmps assign body, (Instr.yield g.cb args').run E.P w = .ok (.round g.cb f tmps assign body) w ∧
      RoundIn (FW none) 0 E.P g.cb f tmps assign body w (CallPost E base κ h w v h')

theorem YOk.mono {E : Env} {base : Nat} {ι κ : Inj} {Y : YF} (hl : ι.le κ) (h : YOk E base ι Y) : YOk E base κ Y :=
  fun μ hm l args hp v h' args' w e H hf hr => let ⟨g, hg, r⟩ := h μ (Inj.le_trans hl hm) l args hp v h' args' w e H hf hr; ⟨g, hl _ _ hg, r⟩

def CallRes (E : Env) (f : FuncId) (args' : Array Value) (w : World) (R : Ending → World → Prop) : Prop :=
  (hasBody E.P f = false ∧ ∃ v' w', (callFunc f args').run E.P w = .ok (.value v') w' ∧ R (.returned v') w') ∨
  ((callFunc f args').run E.P w = .ok (.enter f args') w ∧ CallsIn (FW none) 0 E.P f args' w R)

def CallsOk (E : Env) (base : Nat) (callF : CallY) : Prop :=
  ∀ ι Y, MonoY Y → YOk E base ι Y → ∀ f args h v h' (args' : Array Value) w, callF Y f args h = .ok v h' → HRel E base ι h w → Free ι h.next h'.next → VRels ι args args'.toList →
    CallRes E f args' w (CallPost E base ι h w v h')

section
variable {E : Env} {base : Nat} {ι : Inj} {h : Heap} {w : World}

/-- a block of one's own given up, its object turned -/
theorem Stp.kill (H : HRel E base ι h w) {b : Nat} {B : Blk} {g : Gh} (hb : h.tr.get b = some B) (hown : B.own = true) (hg : ι b = some g) (o' : Obj) :
    Stp E base ι h w ι ⟨h.next, h.tr.set b none⟩ { w with heap := w.heap.setIfInBounds g.cb o' } := by
  have hget : ∀ c B0, (h.tr.set b none).get c = some B0 → c ≠ b ∧ h.tr.get c = some B0 := fun c B0 hc => by
    rw [Tr.get_set] at hc
    split at hc
    · cases hc
    · rename_i e; exact ⟨e, hc⟩
  have hk : ∀ k, k ≠ g.cb → (w.heap.setIfInBounds g.cb o')[k]? = w.heap[k]? := fun k hk => by
    simp only [Array.getElem?_setIfInBounds]; rw [if_neg (fun e => hk e.symm)]
  refine ⟨Nat.le_refl _, fun _ _ => rfl, ⟨?_, ?_, ?_, ?_, fun c B0 g0 hc => H.low c B0 g0 (hget _ _ hc).2, ?_⟩, rfl, rfl, rfl, by simp, fun k _ hno => ?_, ?_⟩
  · intro c B0 hc; exact H.keys c B0 (hget _ _ hc).2
  · intro c B0 hc
    obtain ⟨e, hc⟩ := hget _ _ hc
    obtain ⟨g0, hg0, r⟩ := H.blk c B0 hc
    refine ⟨g0, hg0, ?_⟩
    show BRel ι base g0 ((w.heap.setIfInBounds g.cb o')[g0.cb]?) B0
    rw [hk _ (H.sep c b B0 B g0 g hc hb hg0 hg e (.inr hown))]; exact r
  · intro c c' B0 B1 g0 g1 hc hc'
    exact H.sep c c' B0 B1 g0 g1 (hget _ _ hc).2 (hget _ _ hc').2
  · intro n cs hn'
    obtain ⟨h1, C, T, fr, h2, h3⟩ := H.glob n cs hn'
    refine ⟨h1, C, T, fr, ?_, h3⟩
    have := (H.rel_of hb hg).base_le hown
    show (w.heap.setIfInBounds g.cb o')[n]? = _
    rw [hk n (by omega)]; exact h2
  · show base ≤ (w.heap.setIfInBounds g.cb o').size
    rw [Array.size_setIfInBounds]; exact H.base
  · exact hk k fun e => hno ⟨b, B, g, hb, hown, hg, e.symm⟩
  · rintro k ⟨c, B0, g0, hc, hown', hg0, rfl⟩
    exact .inr ⟨c, B0, g0, (hget _ _ hc).2, hown', hg0, rfl⟩

end

section
variable {F : Fence} {n : Nat} {P : Program} {Q : Exit → Act → World → Prop} {a : Act} {w : World}

theorem stepR_scope {b : Frame} {k : List Item} {cs : List Frame} {c : Code} : step P (lone (b.atR a (.code (.scope c) :: k)) cs w) = .next (lone (b.atR a (.code c :: .inScope c :: k)) cs w) :=
  step_lone_go (by simp [stepG, stepG.exec, Frame.atR])

theorem stepR_inScope {b : Frame} {k : List Item} {cs : List Frame} {c : Code} : step P (lone (b.atR a (.inScope c :: k)) cs w) = .next (lone (b.atR a k) cs w) :=
  step_lone_go (by simp [stepG, stepG.exec, Frame.atR])

/-- a scope that no goto leaves -/
theorem wpIn_scope {c : Code} (h : c.wpIn F n P (fun e a w => (∀ l, e ≠ .goto l) ∧ Q e a w) a w) : (Code.scope c).wpIn F n P Q a w := by
  intro b k cs hro hb hr
  have h0 : (lone (b.atR a (.code (.scope c) :: k)) cs w).fenced P F := fenced_calm hb hr rfl
  obtain ⟨e, a₁, w₁, ⟨hng, hq⟩, harr⟩ := h b (.inScope c :: k) cs hro hb hr
  cases e with
  | normal => exact ⟨.normal, a₁, w₁, hq, .head h0 stepR_scope (StepsIn.trans harr (.one (fenced_calm hb hr rfl) stepR_inScope))⟩
  | exit id =>
    have hx : exitTo id (.inScope c :: k) = exitTo id k := by simp [exitTo]
    exact ⟨_, a₁, w₁, hq, fun k' hk => .head h0 stepR_scope (harr.1 k' (by rw [hx]; exact hk)),
      fun hr' hk => let ⟨k₁, h1, h2⟩ := harr.2 hr' (by rw [hx]; exact hk); ⟨k₁, h1, .head h0 stepR_scope h2⟩⟩
  | goto l => exact absurd rfl (hng l)
  | ret => exact ⟨_, a₁, w₁, hq, .of_steps (.one h0 stepR_scope) harr⟩
  | panic ch => exact ⟨_, a₁, w₁, hq, .of_steps (.one h0 stepR_scope) harr⟩
  | outgrown => exact ⟨_, a₁, w₁, hq, .of_steps (.one h0 stepR_scope) harr⟩

end
end Ev
end Go.Proofs.YtodemhmfnokomaaGreatDoor
