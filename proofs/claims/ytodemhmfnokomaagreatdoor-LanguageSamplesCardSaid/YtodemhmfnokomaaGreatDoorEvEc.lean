/- Maps and walks over them are right. Conditions: none. -/
import Derived.Test.YtodemhmfnokomaaGreatDoorEvEb
namespace Go.Proofs.YtodemhmfnokomaaGreatDoor
namespace Ev
open Go

section
variable {P : Program} {ι : Inj}

theorem checkKey_flat {t : TypeId} {c : FK} (hc : flatK P t = some c) (empty : Bool) (n : Nat) (v : Value) (w : World) : (Instr.checkKey empty (n + 1) t v).run P w = .ok () w := by
  unfold flatK at hc
  cases hu : P.underlying t with
  | none => rw [hu] at hc; cases hc
  | some D =>
    rw [hu] at hc
    cases D <;> simp only [Option.some.injEq, reduceCtorEq] at hc <;> (simp only [Instr.checkKey, Sem.run_bind, run_underlying hu, Result.andThen_ok]; rfl)

theorem checkKey_items {t : TypeId} {c : FK} (hc : flatK P t = some c) (hs : ∀ w, (sizeOf t).run P w = .ok 1 w) (empty : Bool) (n : Nat) (xs : Array Value) (w : World) : ∀ (m i : Nat), i + m ≤ xs.size →
    (forIn (List.range' i m) PUnit.unit (fun j (_ : PUnit) => do
      let a ← sizeOf t
      let b ← part t xs (j * a)
      Instr.checkKey empty (n + 1) t b
      pure (ForInStep.yield PUnit.unit)) : Sem PUnit).run P w = .ok PUnit.unit w
  | 0, i, _ => rfl
  | m + 1, i, h => by
    have hv : xs[i]? = some xs[i] := Array.getElem?_eq_getElem (by omega)
    simp only [List.range'_succ, List.forIn_cons, Sem.run_bind, hs, Result.andThen_ok, Nat.mul_one, run_part_flat hc hv, checkKey_flat hc, Sem.run_pure]
    exact checkKey_items hc hs empty n xs w m (i + 1) (by omega)

theorem checkKey_fields (empty : Bool) (n : Nat) (xs : Array Value) (w : World) : ∀ (fs : List Field) (i : Nat) (l : List FK), flatFields P fs i = some l → i + l.length ≤ xs.size →
    (forIn fs PUnit.unit (fun (f : Field) (_ : PUnit) => do
      if f.name ≠ "_" then do
        let b ← part f.type xs f.offset
        Instr.checkKey empty (n + 1) f.type b
        pure (ForInStep.yield PUnit.unit)
      else pure (ForInStep.yield PUnit.unit)) : Sem PUnit).run P w = .ok PUnit.unit w
  | [], i, l, _, _ => rfl
  | f :: fs, i, l, hf, h => by
    simp only [flatFields] at hf
    cases hn : (f.name != "_" && Nat.beq f.offset i) <;> rw [hn] at hf <;> simp only [cond_true, cond_false, reduceCtorEq] at hf
    rw [Bool.and_eq_true] at hn
    have hname : f.name ≠ "_" := by simpa using hn.1
    have hoff : f.offset = i := nbeq_iff hn.2
    split at hf
    · rename_i c l' hk hr
      simp only [Option.some.injEq] at hf; subst hf
      simp only [List.length_cons] at h
      have hv : xs[i]? = some xs[i] := Array.getElem?_eq_getElem (by omega)
      rw [List.forIn_cons, if_pos hname]
      simp only [Sem.run_bind, hoff, run_part_flat hk hv, Result.andThen_ok, checkKey_flat hk, Sem.run_pure]
      exact checkKey_fields empty n xs w fs (i + 1) l' hr (by omega)
    · cases hf

theorem checkKey_ok {t : TypeId} {k : AV} {eq : AV → AV → Option Bool} (he : keyEq P t k = some eq) {k' : Value} (hk : VRel ι k k') (empty : Bool) (n : Nat) (w : World) : (Instr.checkKey empty (n + 2) t k').run P w = .ok () w := by
  unfold keyEq at he
  split at he
  · rename_i c hc
    exact checkKey_flat hc empty (n + 1) k' w
  · split at he
    · rename_i l hl
      split at he
      · rename_i xs
        cases hb : Nat.beq xs.length l.length <;> rw [hb] at he <;> simp only [cond_true, cond_false, reduceCtorEq] at he
        have hlen := nbeq_iff hb
        simp only [VRel] at hk
        obtain ⟨ys, rfl, hr⟩ := hk
        have hys : ys.size = l.length := by have := hr.length; simp only [Array.length_toList] at this; omega
        unfold flatAgg at hl
        cases hu : P.underlying t with
        | none => rw [hu] at hl; cases hl
        | some D =>
          rw [hu] at hl
          cases D with
          | struct fields =>
            simp only at hl
            cases hs : (!P.stoodInHeld t && !P.eqGuardType P.depth t) <;> rw [hs] at hl <;> simp only [cond_true, cond_false, reduceCtorEq] at hl
            have := checkKey_fields (P := P) empty n ys w fields.toList 0 l hl (by omega)
            show (Instr.checkKey empty ((n + 1) + 1) t (.agg ys)).run P w = .ok () w
            generalize n + 1 = m at this ⊢
            simp only [Instr.checkKey, Sem.run_bind, run_underlying hu, Result.andThen_ok]
            rw [← Array.forIn_toList]
            simp at this ⊢
            rw [this]; rfl
          | array len e =>
            simp only at hl
            cases hs : (!P.eqGuardType P.depth t && Nat.ble len 64) <;> rw [hs] at hl <;> simp only [cond_true, cond_false, reduceCtorEq] at hl
            split at hl
            · rename_i c i hc hi
              cases h1 : Nat.beq i.size 1 <;> rw [h1] at hl <;> simp only [cond_true, cond_false, reduceCtorEq, Option.some.injEq] at hl
              have hsz : ∀ w, (sizeOf e).run P w = .ok 1 w := fun w => by simp [sizeOf, typeInfo, hi]; exact nbeq_iff h1
              have hl2 : l.length = len := by
                have key : ∀ n, (replK n c).length = n := by
                  intro n; induction n with
                  | zero => rfl
                  | succ n ih => simp [replK, ih]
                rw [← hl]; exact key len
              have := checkKey_items (P := P) hc hsz empty n ys w len 0 (by omega)
              show (Instr.checkKey empty ((n + 1) + 1) t (.agg ys)).run P w = .ok () w
              generalize n + 1 = m at this ⊢
              simp only [Instr.checkKey, Sem.run_bind, run_underlying hu, Result.andThen_ok]
              simp only [Std.Legacy.Range.forIn_eq_forIn_range', Std.Legacy.Range.size, Nat.sub_zero, Nat.add_one_sub_one, Nat.div_one]
              simp at this ⊢
              rw [this]; rfl
            · cases hl
          | _ => cases hl
      · cases he
    · cases he

theorem zeroV_run {t : TypeId} {z : AV} (hz : zeroV P t = some z) (ι : Inj) : ∃ zv, VRel ι z zv ∧ ∀ w, (zeroValue t).run P w = .ok zv w := by
  unfold zeroV at hz
  cases hi : P.info? t with
  | none => rw [hi] at hz; cases hz
  | some i =>
    rw [hi] at hz
    cases hzv : i.zero with
    | none => simp only [hzv] at hz; cases hz
    | some zv =>
      simp only [hzv, Option.some.injEq] at hz
      subst hz
      exact ⟨zv, absV_rel ι zv, fun w => by simp [zeroValue, typeInfo, hi, hzv]⟩

end

section
variable {E : Env} {base : Nat} {ι : Inj} {h : Heap} {w : World}

theorem getObj_map {P : Program} {r : Nat} {ents : Array MapEntry} {clock : Nat} (hh : w.heap[r]? = some (.map ents clock)) : (getObj r).run P w = .ok (.map ents clock) w := by
  simp [getObj, Sem.run, hh]

theorem ERels.length {ι : Inj} : ∀ {x : List Ent} {y : List MapEntry}, ERels ι x y → y.length = x.length
  | [], _, h => by simp only [ERels] at h; subst h; rfl
  | _ :: _, _, ⟨_, _, e, _, _, _, h⟩ => by subst e; simp [ERels.length h]

theorem doLookup_ok (H : HRel E base ι h w) {t : TypeId} {x k : AV} {x' k' : Value} {ok : Bool} {v : AV} {h' : Heap} (hd : doLookup E.P t x k ok h = .ok v h') (hx : VRel ι x x') (hk : VRel ι k k') :
    h' = h ∧ ∃ v', VRel ι v v' ∧ (Instr.lookup t x' k' ok).run E.P w = .ok v' w := by
  unfold doLookup at hd
  split at hd
  · rename_i kt et hu
    split at hd
    · rename_i eq z he hz
      obtain ⟨zv, hzr, hzrun⟩ := zeroV_run hz ι
      have hck := fun e => checkKey_ok he hk e 9998 w
      split at hd
      · rename_i es hes
        -- the entries
        have hent : ∃ ents : Array MapEntry, ERels ι es ents.toList ∧ ((x' = .map none ∧ ents = #[]) ∨ (∃ r clock, x' = .map (some r) ∧ w.heap[r]? = some (.map ents clock))) := by
          split at hes
          · cases hes
            simp only [VRel] at hx; subst hx
            exact ⟨#[], rfl, .inl ⟨rfl, rfl⟩⟩
          · rename_i b
            simp only [VRel] at hx
            obtain ⟨g, hg, rfl⟩ := hx
            split at hes
            · rename_i es0 clock hb
              cases hes
              obtain ⟨_, ents, h1, h2⟩ := H.rel_of hb hg
              exact ⟨ents, h2, .inr ⟨_, _, rfl, h1⟩⟩
            · cases hes
          · cases hes
        obtain ⟨ents, hr, hmap⟩ := hent
        split at hd
        · rename_i i vv hfind
          cases hd
          obtain ⟨res', h1, h2⟩ := findKey_ok he hk w hr hfind
          obtain ⟨v', rfl, hv'⟩ := h2
          refine ⟨rfl, if ok then .tuple #[v', .bool true] else v', ?_, ?_⟩
          · cases ok
            · exact hv'
            · simp only [cond_true, if_true, VRel]; exact ⟨_, rfl, .cons hv' (.cons (VRel.ofBool _ _) (.nil _))⟩
          · rcases hmap with ⟨rfl, rfl⟩ | ⟨r, clock, rfl, hh⟩
            · simp only [Instr.lookup, Sem.run_bind, run_underlying hu, Result.andThen_ok, Sem.run_pure, hck, h1]
            · simp only [Instr.lookup, Sem.run_bind, run_underlying hu, Result.andThen_ok, getObj_map hh, Sem.run_pure, hck, h1]
        · rename_i hfind
          cases hd
          obtain ⟨res', h1, h2⟩ := findKey_ok he hk w hr hfind
          obtain rfl : res' = none := h2
          refine ⟨rfl, if ok then .tuple #[zv, .bool false] else zv, ?_, ?_⟩
          · cases ok
            · exact hzr
            · simp only [cond_true, if_true, VRel]; exact ⟨_, rfl, .cons hzr (.cons (VRel.ofBool _ _) (.nil _))⟩
          · rcases hmap with ⟨rfl, rfl⟩ | ⟨r, clock, rfl, hh⟩
            · simp only [Instr.lookup, Sem.run_bind, run_underlying hu, Result.andThen_ok, Sem.run_pure, hck, h1, hzrun]
            · simp only [Instr.lookup, Sem.run_bind, run_underlying hu, Result.andThen_ok, getObj_map hh, Sem.run_pure, hck, h1, hzrun]
        · cases hd
      · cases hd
    · cases hd
  · cases hd

end
end Ev
end Go.Proofs.YtodemhmfnokomaaGreatDoor
namespace Go.Proofs.YtodemhmfnokomaaGreatDoor
namespace Ev
open Go

section
variable {P : Program} {ι : Inj}

theorem str_same {s u : ByteArray} (h : (s.toList == u.toList) = true) : s = u := by
  rw [ByteArray.toList_eq, ByteArray.toList_eq] at h
  have : s.data.toList = u.data.toList := by simpa using h
  exact ByteArray.ext (Array.toList_inj.1 this)

theorem eqK_same {c : FK} {x y : AV} {x' y' : Value} (h : eqK c x y = some true) (hx : VRel ι x x') (hy : VRel ι y y') : x' = y' ∧ ∀ n, Instr.sameBits n x' x' = true := by
  cases c <;> cases x <;> cases y <;> simp only [eqK, reduceCtorEq, Option.some.injEq] at h
  case b.bool.bool =>
    obtain rfl := hx.bool_inv; obtain rfl := hy.bool_inv
    refine ⟨by simpa using h, fun n => by cases n <;> simp [Instr.sameBits]⟩
  case i.nat.nat k m k' n =>
    cases hk : kEq k k' <;> rw [hk] at h <;> simp only [cond_true, cond_false, reduceCtorEq, Option.some.injEq] at h
    obtain rfl := kEq_true hk
    obtain rfl := hx.nat_inv; obtain rfl := hy.nat_inv
    rw [nbeq_iff h]
    exact ⟨rfl, fun n => by cases n <;> simp [Instr.sameBits]⟩
  case i.nat.neg k m k' n =>
    cases hk : kEq k k' <;> rw [hk] at h <;> simp only [cond_true, cond_false, reduceCtorEq, Option.some.injEq, Bool.false_eq_true] at h
  case i.neg.nat k m k' n =>
    cases hk : kEq k k' <;> rw [hk] at h <;> simp only [cond_true, cond_false, reduceCtorEq, Option.some.injEq, Bool.false_eq_true] at h
  case i.neg.neg k m k' n =>
    cases hk : kEq k k' <;> rw [hk] at h <;> simp only [cond_true, cond_false, reduceCtorEq, Option.some.injEq] at h
    obtain rfl := kEq_true hk
    obtain rfl := hx.neg_inv; obtain rfl := hy.neg_inv
    rw [nbeq_iff h]
    exact ⟨rfl, fun n => by cases n <;> simp [Instr.sameBits]⟩
  case s.str.str =>
    obtain ⟨s, rfl, rfl, rfl⟩ := hx.str_inv
    obtain ⟨u, rfl, rfl, rfl⟩ := hy.str_inv
    rw [str_beq] at h
    rw [str_same h]
    refine ⟨rfl, fun n => ?_⟩
    have hq : (u == u) = true := by rw [beq_toListBytes]; simp
    cases n <;> simp [Instr.sameBits, hq]

theorem eqKs_same : ∀ {l : List FK} {xs ys : List AV} {xs' ys' : List Value}, eqKs l xs ys = some true → VRels ι xs xs' → VRels ι ys ys' → xs' = ys' ∧ ∀ n, (xs'.zip xs').all (fun p => Instr.sameBits n p.1 p.2) = true
  | [], xs, ys, xs', ys', h, hx, hy => by
    cases xs <;> cases ys <;> simp only [eqKs, reduceCtorEq] at h
    simp only [VRels] at hx hy; subst hx; subst hy
    exact ⟨rfl, fun n => rfl⟩
  | c :: l, xs, ys, xs', ys', h, hx, hy => by
    obtain ⟨x, xr, y, yr, b, rfl, rfl, hb, h1, h2⟩ := eqKs_get h
    cases b with
    | false => exact absurd (h2 rfl) (by simp)
    | true =>
      simp only [VRels] at hx hy
      obtain ⟨x', xq, rfl, hx1, hx2⟩ := hx
      obtain ⟨y', yq, rfl, hy1, hy2⟩ := hy
      obtain ⟨e1, e2⟩ := eqK_same hb hx1 hy1
      obtain ⟨e3, e4⟩ := eqKs_same (h1 rfl) hx2 hy2
      exact ⟨by rw [e1, e3], fun n => by simp only [List.zip_cons_cons, List.all_cons, e2, e4, Bool.and_self]⟩

theorem eqAny_same {t : TypeId} {k0 : AV} {eq : AV → AV → Option Bool} (he : keyEq P t k0 = some eq) {x y : AV} {x' y' : Value} (h : eq x y = some true) (hx : VRel ι x x') (hy : VRel ι y y') : x' = y' ∧ Instr.sameBits 10000 x' x' = true := by
  unfold keyEq at he
  split at he
  · cases he
    obtain ⟨h1, h2⟩ := eqK_same h hx hy
    exact ⟨h1, h2 _⟩
  · split at he
    · split at he
      · rename_i l _ _ xs
        cases hb : Nat.beq xs.length l.length <;> rw [hb] at he <;> simp only [cond_true, cond_false, reduceCtorEq, Option.some.injEq] at he
        subst he
        cases x <;> cases y <;> simp only [eqAggV, reduceCtorEq] at h
        simp only [VRel] at hx hy
        obtain ⟨a, rfl, ha⟩ := hx
        obtain ⟨b, rfl, hb⟩ := hy
        obtain ⟨h1, h2⟩ := eqKs_same h ha hb
        have h3 : a = b := Array.toList_inj.1 h1
        subst h3
        refine ⟨rfl, ?_⟩
        show Instr.sameBits (9999 + 1) (.agg a) (.agg a) = true
        have := h2 9999
        simp only [Instr.sameBits, beq_self_eq_true, Bool.true_and]
        exact this
      · cases he
    · cases he

theorem findA_entry {eq : AV → AV → Option Bool} {k : AV} : ∀ (es : List Ent) (j i : Nat) (v : AV), findA eq k es j = some (some (i, v)) → j ≤ i ∧ ∃ e, es[i - j]? = some e ∧ e.v = v ∧ eq k e.k = some true
  | [], j, i, v, h => by simp [findA] at h
  | e :: es, j, i, v, h => by
    simp only [findA] at h
    cases hq : eq k e.k with
    | none => rw [hq] at h; cases h
    | some b =>
      rw [hq] at h
      cases b with
      | true =>
        simp only [Option.some.injEq, Prod.mk.injEq] at h
        obtain ⟨rfl, rfl⟩ := h
        exact ⟨Nat.le_refl _, e, by simp, rfl, hq⟩
      | false =>
        obtain ⟨h1, e', h2, h3, h4⟩ := findA_entry es (j + 1) i v h
        refine ⟨by omega, e', ?_, h3, h4⟩
        rw [show i - j = (i - (j + 1)) + 1 by omega, List.getElem?_cons_succ]; exact h2

theorem ERels.get {x : List Ent} {y : List MapEntry} (h : ERels ι x y) : ∀ (i : Nat) (e : Ent), x[i]? = some e → ∃ m, y[i]? = some m ∧ VRel ι e.k m.key ∧ VRel ι e.v m.val ∧ e.born = m.born := by
  induction x generalizing y with
  | nil => intro i e he; simp at he
  | cons a x ih =>
    obtain ⟨b, q, rfl, h1, h2, h3, h4⟩ := h
    intro i e he
    cases i with
    | zero => simp only [List.getElem?_cons_zero, Option.some.injEq] at he ⊢; subst he; exact ⟨b, rfl, h1, h2, h3⟩
    | succ i => simp only [List.getElem?_cons_succ] at he ⊢; exact ih h4 i e he

theorem ERels.snoc {x : List Ent} {y : List MapEntry} (h : ERels ι x y) {e : Ent} {m : MapEntry} (h1 : VRel ι e.k m.key) (h2 : VRel ι e.v m.val) (h3 : e.born = m.born) : ERels ι (x ++ [e]) (y ++ [m]) := by
  induction x generalizing y with
  | nil => simp only [ERels] at h; subst h; exact ⟨m, [], rfl, h1, h2, h3, rfl⟩
  | cons a x ih =>
    obtain ⟨b, q, rfl, k1, k2, k3, k4⟩ := h
    exact ⟨b, q ++ [m], rfl, k1, k2, k3, ih k4⟩

theorem ERels.setNth {x : List Ent} {y : List MapEntry} (h : ERels ι x y) {v : AV} {v' : Value} {k' : Value} (hv : VRel ι v v') : ∀ (i : Nat), (∀ m, y[i]? = some m → m.key = k') → ERels ι (setNth x i v) (y.modify i fun e => { e with key := k', val := v' }) := by
  induction x generalizing y with
  | nil => intro i _; simp only [ERels] at h; subst h; cases i <;> rfl
  | cons a x ih =>
    obtain ⟨b, q, rfl, k1, k2, k3, k4⟩ := h
    intro i hk
    cases i with
    | zero =>
      have := hk b rfl
      exact ⟨{ b with key := k', val := v' }, q, rfl, by rw [← this]; exact k1, hv, k3, k4⟩
    | succ i => exact ⟨b, _, rfl, k1, k2, k3, ih k4 i (fun m hm => hk m (by simpa using hm))⟩

theorem ERels.dropNth {x : List Ent} {y : List MapEntry} (h : ERels ι x y) : ∀ (i : Nat), ERels ι (dropNth x i) (y.eraseIdx i) := by
  induction x generalizing y with
  | nil => intro i; simp only [ERels] at h; subst h; cases i <;> rfl
  | cons a x ih =>
    obtain ⟨b, q, rfl, k1, k2, k3, k4⟩ := h
    intro i
    cases i with
    | zero => exact k4
    | succ i => exact ⟨b, _, rfl, k1, k2, k3, ih k4 i⟩

end

section
variable {E : Env} {base : Nat} {ι : Inj} {h : Heap} {w : World}

/-- an object of cells -/
def cellsO : Obj → Bool
  | .cells .. => true
  | _ => false

theorem setObj_run {P : Program} {r : Nat} {o o' : Obj} (hh : w.heap[r]? = some o) (hc : cellsO o = false) : (setObj r o').run P w = .ok () { w with heap := w.heap.setIfInBounds r o' } := by
  cases o <;> simp [cellsO] at hc <;> simp [setObj, Sem.run, hh]

/-- a map of one's own turned -/
theorem Stp.map (H : HRel E base ι h w) {b : Nat} {es es' : List Ent} {clock clock' : Nat} {g : Gh} (hb : h.tr.get b = some (.mp es clock)) (hg : ι b = some g) {ents' : Array MapEntry} (hr : ERels ι es' ents'.toList) :
    Stp E base ι h w ι ⟨h.next, h.tr.set b (some (.mp es' clock'))⟩ { w with heap := w.heap.setIfInBounds g.cb (.map ents' clock') } := by
  obtain ⟨h1, ents, h2, h3⟩ := H.rel_of hb hg
  have hlt := lt_of_some h2
  refine Stp.turn H hb rfl hg (B' := .mp es' clock') (o' := .map ents' clock') ⟨h1, ents', rfl, hr⟩ (fun k hk => ?_) ?_ (by simp) rfl rfl rfl
  · simp only [Array.getElem?_setIfInBounds]; rw [if_neg (fun e => hk e.symm)]
  · simp only [Array.getElem?_setIfInBounds, if_true]; rw [if_pos hlt]

theorem doMapUpdate_ok (H : HRel E base ι h w) {t : TypeId} {m k x : AV} {m' k' x' : Value} {v : AV} {h' : Heap} (hd : doMapUpdate E.P t m k x h = .ok v h') (hm : VRel ι m m') (hk : VRel ι k k') (hx : VRel ι x x') :
    v = undefA ∧ h'.next = h.next ∧ ∃ w', Stp E base ι h w ι h' w' ∧ (Instr.mapUpdate t m' k' x').run E.P w = .ok () w' := by
  unfold doMapUpdate at hd
  split at hd
  · rename_i kt et hu
    obtain ⟨next, tr⟩ := h
    split at hd
    · rename_i eq b next' tr' he heq
      cases heq
      have hck := checkKey_ok he hk false 9998 w
      simp only [VRel] at hm
      obtain ⟨g, hg, rfl⟩ := hm
      split at hd
      · rename_i es clock hb
        obtain ⟨h1, ents, h2, h3⟩ := H.rel_of hb hg
        split at hd
        · rename_i i vv hfind
          rw [Tr.setK_eq] at hd; cases hd
          obtain ⟨res', f1, f2⟩ := findKey_ok he hk w h3 hfind
          obtain ⟨v', rfl, hv'⟩ := f2
          obtain ⟨_, e, q1, q2, q3⟩ := findA_entry es 0 i vv hfind
          rw [Nat.sub_zero] at q1
          obtain ⟨me, r1, r2, r3, r4⟩ := h3.get i e q1
          obtain ⟨s1, s2⟩ := eqAny_same he q3 hk r2
          have hget : ents[i]? = some me := by simpa using r1
          refine ⟨rfl, rfl, _, Stp.map H hb hg (clock' := clock) (ents' := ents.modify i fun e => { e with key := k', val := x' }) ?_, ?_⟩
          · rw [Array.toList_modify]
            exact h3.setNth hx i (fun m0 hm0 => by rw [r1] at hm0; cases hm0; exact s1.symm)
          · have hkey : ((ents[i]?).map (·.key)).getD k' = k' := by rw [hget]; simp [s1]
            simp only [Instr.mapUpdate, Sem.run_bind, run_underlying hu, Result.andThen_ok, getObj_map h2, hck, f1, hkey, Instr.keyThatStays, s2, if_true, Sem.run_pure]
            exact setObj_run h2 rfl
        · rename_i hfind
          rw [Tr.setK_eq] at hd; cases hd
          obtain ⟨res', f1, f2⟩ := findKey_ok he hk w h3 hfind
          obtain rfl : res' = none := f2
          refine ⟨rfl, rfl, _, Stp.map H hb hg (clock' := clock + 1) (es' := snocE es ⟨k, x, clock⟩) (ents' := ents.push { key := k', val := x', born := clock }) ?_, ?_⟩
          · rw [Array.toList_push]
            exact h3.snoc hk hx rfl
          · simp only [Instr.mapUpdate, Sem.run_bind, run_underlying hu, Result.andThen_ok, getObj_map h2, hck, f1]
            exact setObj_run h2 rfl
        · cases hd
      · cases hd
    · cases hd
  · cases hd

theorem doDelete_ok (H : HRel E base ι h w) {ats : List TypeId} {ty : TypeId} {m k : AV} {m' k' : Value} {v : AV} {h' : Heap} (hd : doDelete E.P ats m k h = .ok v h') (hm : VRel ι m m') (hk : VRel ι k k') :
    h'.next = h.next ∧ ∃ v' w', Stp E base ι h w ι h' w' ∧ VRel ι v v' ∧ (Builtin.delete_ ats.toArray ty #[m', k']).run E.P w = .ok v' w' := by
  unfold doDelete at hd
  split at hd
  · rename_i t rest
    split at hd
    · rename_i kt et hu
      obtain ⟨next, tr⟩ := h
      split at hd
      · rename_i eq b next' tr' he heq
        cases heq
        simp only [VRel] at hm
        obtain ⟨g, hg, rfl⟩ := hm
        have hundef : VRel ι undefA (.tuple #[]) := by simp only [undefA, VRel]; exact ⟨_, rfl, .nil _⟩
        split at hd
        · rename_i es clock hb
          obtain ⟨h1, ents, h2, h3⟩ := H.rel_of hb hg
          have hck := checkKey_ok he hk ents.isEmpty 9998 w
          have hlt := lt_of_some h2
          split at hd
          · rename_i i vv hfind
            rw [Tr.setK_eq] at hd; cases hd
            obtain ⟨res', f1, f2⟩ := findKey_ok he hk w h3 hfind
            obtain ⟨v', rfl, hv'⟩ := f2
            refine ⟨rfl, .tuple #[], _, Stp.map H hb hg (clock' := clock) (es' := dropNth es i) (ents' := ents.eraseIdxIfInBounds i) ?_, hundef, ?_⟩
            · rw [Array.toList_eraseIdxIfInBounds]; exact h3.dropNth i
            · have := setObj_run (P := E.P) (o' := .map (ents.eraseIdxIfInBounds i) clock) h2 rfl
              simp [Builtin.delete_, run_underlying hu, getObj_map h2, hck, f1, this]
          · rename_i hfind
            cases hd
            obtain ⟨res', f1, f2⟩ := findKey_ok he hk w h3 hfind
            obtain rfl : res' = none := f2
            have hw : ({ w with heap := w.heap.setIfInBounds g.cb (.map ents clock) } : World) = w := by
              have : w.heap.setIfInBounds g.cb (.map ents clock) = w.heap := by
                apply Array.ext
                · simp
                · intro i h1 h2'
                  rw [Array.getElem_setIfInBounds (by simpa using h1)]
                  split
                  · rename_i e; subst e
                    rw [Array.getElem?_eq_getElem h2'] at h2; exact (Option.some.inj h2).symm
                  · rfl
              rw [this]
            refine ⟨rfl, .tuple #[], w, Stp.refl H, hundef, ?_⟩
            have := setObj_run (P := E.P) (o' := .map ents clock) h2 rfl
            rw [hw] at this
            simp [Builtin.delete_, run_underlying hu, getObj_map h2, hck, f1, this]
          · cases hd
        · cases hd
      · cases hd
    · cases hd
  · cases hd

end
end Ev
end Go.Proofs.YtodemhmfnokomaaGreatDoor
namespace Go.Proofs.YtodemhmfnokomaaGreatDoor
namespace Ev
open Go

section
variable {ι : Inj}

theorem bornAt_get : ∀ (es : List Ent) (i : Nat) (e : Ent), es[i]? = some e → bornAt es i = e.born
  | [], i, e, h => by simp at h
  | a :: es, 0, e, h => by simp only [List.getElem?_cons_zero, Option.some.injEq] at h; subst h; rfl
  | a :: es, i + 1, e, h => by simp only [List.getElem?_cons_succ] at h; exact bornAt_get es i e h

theorem getElem_id {α : Type} (l : List α) (i : Nat) (f : α → α) (h : ∀ x, l[i]? = some x → f x = x) : l.modify i f = l := by
  induction l generalizing i with
  | nil => cases i <;> rfl
  | cons a l ih =>
    cases i with
    | zero => simp only [List.modify_zero_cons, h a rfl]
    | succ i => simp only [List.modify_succ_cons, ih i (fun x hx => h x (by simpa using hx))]

theorem ERels.setBorn {v : AV} {v' : Value} (hv : VRel ι v v') {n : Nat} : ∀ {x x' : List Ent} {y : List MapEntry}, ERels ι x y → setBorn x n v = some x' →
    ∃ i, y.findIdx? (fun e => (e.born : Int) == (n : Int)) = some i ∧ ERels ι x' (y.modify i fun e => { e with val := v' })
  | [], x', y, h, hs => by simp [Ev.setBorn] at hs
  | a :: x, x', y, h, hs => by
    obtain ⟨b, q, rfl, k1, k2, k3, k4⟩ := h
    simp only [Ev.setBorn] at hs
    cases hb : Nat.beq a.born n <;> rw [hb] at hs <;> simp only [cond_true, cond_false] at hs
    · have hne : ((b.born : Int) == (n : Int)) = false := by
        have : a.born ≠ n := fun e => by rw [e, Nat.beq_refl] at hb; cases hb
        simp only [beq_eq_false_iff_ne, ne_eq]; omega
      split at hs
      · rename_i r' hr
        cases hs
        obtain ⟨i, h1, h2⟩ := ERels.setBorn hv k4 hr
        refine ⟨i + 1, by simp [List.findIdx?_cons, hne, h1], ?_⟩
        exact ⟨b, _, rfl, k1, k2, k3, h2⟩
      · cases hs
    · have hq := nbeq_iff hb
      cases hs
      refine ⟨0, by simp only [List.findIdx?_cons]; rw [show ((b.born : Int) == (n : Int)) = true by simp; omega]; rfl, ?_⟩
      exact ⟨_, q, rfl, k1, hv, k3, k4⟩

theorem memN_iff (n : Nat) : ∀ (l : List Nat), memN n l = l.contains n
  | [] => rfl
  | x :: l => by
    simp only [memN, memN_iff n l]
    cases hb : Nat.beq x n
    · have : (n == x) = false := by
        simp only [beq_eq_false_iff_ne, ne_eq]; intro e; rw [e, Nat.beq_refl] at hb; cases hb
      simp only [cond_false, List.contains_cons, this, Bool.false_or]
    · have := nbeq_iff hb
      subst this
      simp

theorem ERels.unseen (seen : List Nat) : ∀ {x : List Ent} {y : List MapEntry}, ERels ι x y → ERels ι (unseen seen x) (y.filter fun e => !seen.contains e.born)
  | [], y, h => by simp only [ERels] at h; subst h; rfl
  | a :: x, y, h => by
    obtain ⟨b, q, rfl, k1, k2, k3, k4⟩ := h
    simp only [Ev.unseen, List.filter_cons, memN_iff, k3]
    cases seen.contains b.born
    · exact ⟨b, _, rfl, k1, k2, k3, ERels.unseen seen k4⟩
    · simpa using ERels.unseen seen k4

theorem unseen_mem (seen : List Nat) (e : Ent) : ∀ {x : List Ent}, e ∈ unseen seen x → e ∈ x
  | [], h => by simp [unseen] at h
  | a :: x, h => by
    simp only [unseen] at h
    cases hm : memN a.born seen <;> rw [hm] at h <;> simp only [cond_true, cond_false] at h
    · rcases List.mem_cons.1 h with h | h
      · exact List.mem_cons.2 (.inl h)
      · exact List.mem_cons.2 (.inr (unseen_mem seen e h))
    · exact List.mem_cons.2 (.inr (unseen_mem seen e h))

theorem ERels.mem {x : List Ent} {y : List MapEntry} (h : ERels ι x y) {e : Ent} (he : e ∈ x) : ∃ m ∈ y, VRel ι e.k m.key ∧ VRel ι e.v m.val ∧ e.born = m.born := by
  obtain ⟨i, hi, e'⟩ := List.mem_iff_getElem.1 he
  obtain ⟨m, h1, h2⟩ := h.get i e (by rw [List.getElem?_eq_getElem hi, e'])
  exact ⟨m, List.mem_of_getElem? h1, h2⟩

theorem ERels.entryAt {n : Nat} {e : Ent} : ∀ {x : List Ent} {y : List MapEntry}, ERels ι x y → entryAt n x = some e → ∃ m, y.find? (fun e => e.born == n) = some m ∧ VRel ι e.k m.key ∧ VRel ι e.v m.val
  | [], y, h, he => by simp [Ev.entryAt] at he
  | a :: x, y, h, he => by
    obtain ⟨b, q, rfl, k1, k2, k3, k4⟩ := h
    simp only [Ev.entryAt] at he
    cases hb : Nat.beq a.born n <;> rw [hb] at he <;> simp only [cond_true, cond_false] at he
    · have : (b.born == n) = false := by
        simp only [beq_eq_false_iff_ne, ne_eq]; intro e; rw [k3, e, Nat.beq_refl] at hb; cases hb
      obtain ⟨m, h1, h2⟩ := ERels.entryAt k4 he
      exact ⟨m, by simp [this, h1], h2⟩
    · have := nbeq_iff hb
      cases he
      exact ⟨b, by simp [← k3, this], k1, k2⟩

end

section
variable {E : Env} {base : Nat} {ι : Inj} {h : Heap} {w : World}

theorem doMapEntry_ok (H : HRel E base ι h w) {t : TypeId} {m k : AV} {m' k' : Value} {v : AV} {h' : Heap} (hd : doMapEntry E.P t m k h = .ok v h') (hm : VRel ι m m') (hk : VRel ι k k') :
    h'.next = h.next ∧ ∃ v' w', Stp E base ι h w ι h' w' ∧ VRel ι v v' ∧ (Instr.mapEntry t m' k').run E.P w = .ok v' w' := by
  unfold doMapEntry at hd
  split at hd
  · rename_i kt et hu
    obtain ⟨next, tr⟩ := h
    split at hd
    · rename_i eq z b next' tr' he hz heq
      cases heq
      have hck := checkKey_ok he hk false 9998 w
      obtain ⟨zv, hzr, hzrun⟩ := zeroV_run hz ι
      simp only [VRel] at hm
      obtain ⟨g, hg, rfl⟩ := hm
      split at hd
      · rename_i es clock hb
        obtain ⟨h1, ents, h2, h3⟩ := H.rel_of hb hg
        have hlt := lt_of_some h2
        split at hd
        · rename_i i vv hfind
          cases hd
          obtain ⟨res', f1, f2⟩ := findKey_ok he hk w h3 hfind
          obtain ⟨v', rfl, hv'⟩ := f2
          obtain ⟨_, e, q1, q2, q3⟩ := findA_entry es 0 i vv hfind
          rw [Nat.sub_zero] at q1
          obtain ⟨me, r1, r2, r3, r4⟩ := h3.get i e q1
          obtain ⟨s1, s2⟩ := eqAny_same he q3 hk r2
          have hget : ents[i]? = some me := by simpa using r1
          have hkey : ((ents[i]?).map (·.key)).getD k' = k' := by rw [hget]; simp [s1]
          have hborn : (Option.map (fun x : MapEntry => (x.born : Int)) ents[i]?).getD 0 = (e.born : Int) := by rw [hget]; simp [r4]
          have hmod : (ents.modify i fun e => { e with key := k' }) = ents := by
            apply Array.toList_inj.1
            rw [Array.toList_modify]
            exact getElem_id _ _ _ (fun x hx => by rw [r1] at hx; cases hx; rw [s1])
          have hsame : ({ w with heap := w.heap.setIfInBounds g.cb (.map ents clock) } : World) = w := by
            have : w.heap.setIfInBounds g.cb (.map ents clock) = w.heap := by
              apply Array.ext
              · simp
              · intro i h1 h2'
                rw [Array.getElem_setIfInBounds (by simpa using h1)]
                split
                · rename_i e; subst e
                  rw [Array.getElem?_eq_getElem h2'] at h2; exact (Option.some.inj h2).symm
                · rfl
            rw [this]
          refine ⟨rfl, .tuple #[v', goInt e.born], w, Stp.refl H, ?_, ?_⟩
          · simp only [VRel]
            refine ⟨_, rfl, .cons hv' (.cons ?_ (.nil _))⟩
            rw [bornAt_get es i e q1]; simp only [VRel, goInt]; rfl
          · have hset := setObj_run (P := E.P) (o' := .map ents clock) h2 rfl
            rw [hsame] at hset
            simp only [Instr.mapEntry, Sem.run_bind, run_underlying hu, Result.andThen_ok, getObj_map h2, hck, f1, hkey, Instr.keyThatStays, s2, if_true, Sem.run_pure, hmod, hset, hborn]
        · rename_i hfind
          rw [Tr.setK_eq] at hd; cases hd
          obtain ⟨res', f1, f2⟩ := findKey_ok he hk w h3 hfind
          obtain rfl : res' = none := f2
          refine ⟨rfl, .tuple #[zv, goInt clock], _, Stp.map H hb hg (clock' := clock + 1) (es' := snocE es ⟨k, z, clock⟩) (ents' := ents.push { key := k', val := zv, born := clock }) ?_, ?_, ?_⟩
          · rw [Array.toList_push]
            exact h3.snoc hk hzr rfl
          · simp only [VRel]
            refine ⟨_, rfl, .cons hzr (.cons ?_ (.nil _))⟩
            simp only [VRel, goInt]; rfl
          · have hset := setObj_run (P := E.P) (o' := .map (ents.push { key := k', val := zv, born := clock }) (clock + 1)) h2 rfl
            simp only [Instr.mapEntry, Sem.run_bind, run_underlying hu, Result.andThen_ok, getObj_map h2, hck, f1, hzrun, hset, Sem.run_pure]
        · cases hd
      · cases hd
    · cases hd
  · cases hd

theorem doEntryStore_ok (H : HRel E base ι h w) {t : TypeId} {m s x : AV} {m' s' x' : Value} {v : AV} {h' : Heap} (hd : doEntryStore m s x h = .ok v h') (hm : VRel ι m m') (hs : VRel ι s s') (hx : VRel ι x x') :
    v = undefA ∧ h'.next = h.next ∧ ∃ w', Stp E base ι h w ι h' w' ∧ (Instr.entryStore t m' s' x').run E.P w = .ok () w' := by
  unfold doEntryStore at hd
  split at hd
  · rename_i b k n next tr
    simp only [VRel] at hm
    obtain ⟨g, hg, rfl⟩ := hm
    obtain rfl := hs.nat_inv
    split at hd
    · rename_i es clock hb
      obtain ⟨h1, ents, h2, h3⟩ := H.rel_of hb hg
      split at hd
      · rename_i es' he
        rw [Tr.setK_eq] at hd; cases hd
        obtain ⟨i, f1, f2⟩ := ERels.setBorn hx h3 he
        have f1' : ents.findIdx? (fun e => (e.born : Int) == (n : Int)) = some i := by
          rw [show ents = ents.toList.toArray from rfl, List.findIdx?_toArray]; exact f1
        refine ⟨rfl, rfl, _, Stp.map H hb hg (clock' := clock) (es' := es') (ents' := ents.modify i fun e => { e with val := x' }) (by rw [Array.toList_modify]; exact f2), ?_⟩
        have hset := setObj_run (P := E.P) (o' := .map (ents.modify i fun e => { e with val := x' }) clock) h2 rfl
        simp [Instr.entryStore, getObj_map h2, asInt, asIntOf, f1', hset]
      · cases hd
    · cases hd
  · cases hd

theorem newB_ok (H : HRel E base ι h w) {B : Blk} {f : Nat → AV} {v : AV} {h' : Heap} (hd : newB h B f = .ok v h') (hf : Free ι h.next h'.next) {o : Obj}
    (hB : BRel (ι.upd h.next ⟨w.heap.size, 0, 0, none⟩) base ⟨w.heap.size, 0, 0, none⟩ (some o) B) (hw : B.own = true := by rfl) :
    v = f h.next ∧ h'.next = h.next + 1 ∧ Stp E base ι h w (ι.upd h.next ⟨w.heap.size, 0, 0, none⟩) h' { w with heap := w.heap.push o } := by
  obtain ⟨next, tr⟩ := h
  simp only [newB, Tr.setK_eq] at hd
  cases hd
  exact ⟨rfl, rfl, Stp.new H B o ⟨w.heap.size, 0, 0, none⟩ rfl (hf next (Nat.le_refl _) (Nat.lt_succ_self _)) hB rfl rfl rfl rfl hw⟩

theorem newB_next {B : Blk} {f : Nat → AV} {v : AV} {h' : Heap} (hd : newB h B f = .ok v h') : v = f h.next ∧ h'.next = h.next + 1 := by
  obtain ⟨next, tr⟩ := h
  simp only [newB, Tr.setK_eq] at hd
  cases hd
  exact ⟨rfl, rfl⟩

theorem makeMap_ok (H : HRel E base ι h w) {t : TypeId} {v : AV} {h' : Heap} (hd : newB h (.mp [] 0) (fun n => .map n) = .ok v h') (hf : Free ι h.next h'.next) :
    ∃ ι' v' w', Stp E base ι h w ι' h' w' ∧ VRel ι' v v' ∧ (Instr.makeMap t none).run E.P w = .ok v' w' := by
  obtain ⟨h1, h2, h3⟩ := newB_ok H hd hf (o := .map #[] 0) ⟨H.base, #[], rfl, rfl⟩
  subst h1
  refine ⟨_, .map (some w.heap.size), _, h3, ?_, by simp [Instr.makeMap]⟩
  simp only [VRel]
  exact ⟨_, Inj.upd_same _ _ _, rfl⟩

theorem iterPtr (ι : Inj) (n r : Nat) : VRel (ι.upd n ⟨r, 0, 0, none⟩) (.ptr n 0) (.pointer (some ⟨r, 0, none⟩)) := by
  simp only [VRel]
  exact ⟨_, Inj.upd_same _ _ _, rfl⟩

theorem doRange_ok (H : HRel E base ι h w) {t : TypeId} {x : AV} {x' : Value} {v : AV} {h' : Heap} (hd : doRange E.P t x h = .ok v h') (hf : Free ι h.next h'.next) (hx : VRel ι x x') :
    ∃ ι' v' w', Stp E base ι h w ι' h' w' ∧ VRel ι' v v' ∧ (Instr.range t x').run E.P w = .ok v' w' := by
  unfold doRange at hd
  split at hd
  · rename_i kt et hu
    split at hd
    · simp only [VRel] at hx; subst hx
      obtain ⟨h1, h2, h3⟩ := newB_ok H hd hf (o := .mapIter none 0 #[] 0) ⟨H.base, none, #[], rfl, rfl, rfl, rfl⟩
      subst h1
      exact ⟨_, _, _, h3, iterPtr _ _ _, by simp [Instr.range, run_underlying hu]⟩
    · rename_i b
      simp only [VRel] at hx
      obtain ⟨g, hg, rfl⟩ := hx
      split at hd
      · rename_i es clock hb
        obtain ⟨h1, ents, h2, h3⟩ := H.rel_of hb hg
        have hne : b ≠ h.next := by have := H.keys b _ hb; omega
        obtain ⟨h4, h5, h6⟩ := newB_ok H hd hf (o := .mapIter (some g.cb) clock #[] clock) ⟨H.base, some g.cb, #[], rfl, rfl, ⟨g, by rw [Inj.upd_ne _ _ hne]; exact hg, rfl⟩, rfl⟩
        subst h4
        exact ⟨_, _, _, h6, iterPtr _ _ _, by simp [Instr.range, run_underlying hu, getObj_map h2]⟩
      · cases hd
    · cases hd
  · rename_i hu
    split at hd
    · obtain ⟨s, rfl, rfl, rfl⟩ := hx.str_inv
      obtain ⟨h1, h2, h3⟩ := newB_ok H hd hf (o := .stringIter s 0) ⟨H.base, s, rfl, rfl, rfl, rfl⟩
      subst h1
      exact ⟨_, _, _, h3, iterPtr _ _ _, by simp [Instr.range, run_underlying hu]⟩
    · cases hd
  · cases hd

theorem getObj_any {P : Program} {r : Nat} {o : Obj} (hh : w.heap[r]? = some o) (hc : cellsO o = false) : (getObj r).run P w = .ok o w := by
  cases o <;> simp [cellsO] at hc <;> simp [getObj, Sem.run, hh]

/-- a block of one's own, no row, turned -/
theorem Stp.obj (H : HRel E base ι h w) {b : Nat} {B B' : Blk} {g : Gh} {o' : Obj} (hb : h.tr.get b = some B) (hown : B.own = true) (hg : ι b = some g) (hB : BRel ι base g (some o') B') (hw : B'.own = true := by rfl) :
    Stp E base ι h w ι ⟨h.next, h.tr.set b (some B')⟩ { w with heap := w.heap.setIfInBounds g.cb o' } := by
  have hlt := H.cb_lt hb hg
  refine Stp.turn H hb hown hg (B' := B') (o' := o') hB (fun k hk => ?_) ?_ (by simp) rfl rfl rfl hw
  · simp only [Array.getElem?_setIfInBounds]; rw [if_neg (fun e => hk e.symm)]
  · simp only [Array.getElem?_setIfInBounds, if_true]; rw [if_pos hlt]

theorem boolTup (ι : Inj) (b : Bool) : VRel ι (.tup [.bool b]) (.tuple #[.bool b]) := by
  simp only [VRel]; exact ⟨_, rfl, .cons (VRel.ofBool _ _) (.nil _)⟩

end
end Ev
end Go.Proofs.YtodemhmfnokomaaGreatDoor
namespace Go.Proofs.YtodemhmfnokomaaGreatDoor
namespace Ev
open Go

section
variable {E : Env} {base : Nat} {ι : Inj} {h : Heap} {w : World}

theorem run_choose_one (P : Program) (w : World) : (choose (.mapNext 1)).run P w = .ok 0 w := by
  simp [choose, Sem.run, Question.forced]

theorem str_byte {s : ByteArray} {n : Nat} (hlt : n < s.size) : Nat.mod (Nat.div (strCode s.data.toList) (Nat.pow 256 (Nat.sub s.size (Nat.succ n)))) 256 = (s[n]).toNat := by
  have hlen := size_len s
  have h1 := strCode_piece s.data.toList n (n + 1) (by omega) (by omega)
  have h2 : (s.data.toList.drop n).take (n + 1 - n) = [s[n]] := by
    rw [List.drop_eq_getElem_cons (by omega)]
    simp only [Nat.add_sub_cancel_left, List.take_succ_cons, List.take_zero]
    rfl
  rw [h2, strCode_cons, strCode_nil] at h1
  simp only [List.length_nil, Nat.pow_zero, Nat.mul_one, Nat.add_zero, Nat.add_sub_cancel_left, Nat.pow_one, hlen] at h1
  exact h1.symm

theorem nble_iff {a b : Nat} (h : Nat.ble a b = true) : a ≤ b := Nat.le_of_ble_eq_true h

theorem iter_addr {b : Nat} {g : Gh} {x' : Value} (hg : ι b = some g) (hco : g.co = 0) (hx : VRel ι (.ptr b 0) x') : x' = .pointer (some ⟨g.cb, 0, none⟩) := by
  simp only [VRel] at hx
  obtain ⟨g', hg', rfl⟩ := hx
  rw [hg] at hg'; cases hg'
  rw [hco]

theorem filter_left {seen : List Nat} {seen' : Array Nat} (h : seen'.toList = seen.reverse) (ents : Array MapEntry) :
    (ents.filter fun e => !seen'.contains e.born) = (ents.toList.filter fun e => !seen.contains e.born).toArray := by
  apply Array.toList_inj.1
  rw [Array.toList_filter]
  refine List.filter_congr fun e _ => ?_
  rw [← Array.contains_toList, h]
  simp

theorem doNext_ok (H : HRel E base ι h w) {ty : TypeId} {x : AV} {x' : Value} {v : AV} {h' : Heap} (hd : doNext x h = .ok v h') (hx : VRel ι x x') :
    h'.next = h.next ∧ ∃ v' w', Stp E base ι h w ι h' w' ∧ VRel ι v v' ∧ (Instr.next x' false ty).run E.P w = .ok v' w' := by
  unfold doNext at hd
  split at hd
  · rename_i b next tr
    have hx0 := hx
    simp only [VRel] at hx
    obtain ⟨g, hg, _⟩ := hx
    split at hd
    · rename_i since seen last hb
      cases hd
      obtain ⟨h1, m', seen', h2, h3, h4, h5⟩ := H.rel_of hb hg
      simp only [mapOf] at h4; subst h4
      obtain rfl := iter_addr hg h5 hx0
      refine ⟨rfl, .tuple #[.bool false], w, Stp.refl H, boolTup _ _, ?_⟩
      simp [Instr.next, getObj_any h2 rfl]
    · rename_i m since seen last hb
      obtain ⟨h1, m', seen', h2, h3, ⟨gm, hgm, rfl⟩, h5⟩ := H.rel_of hb hg
      obtain rfl := iter_addr hg h5 hx0
      split at hd
      · rename_i es clock hm
        obtain ⟨_, ents, q1, q2⟩ := H.rel_of hm hgm
        cases hc : (Nat.beq clock since && Nat.beq clock last) <;> rw [hc] at hd <;> simp only [cond_true, cond_false, reduceCtorEq] at hd
        rw [Bool.and_eq_true] at hc
        have e1 := nbeq_iff hc.1
        have e2 := nbeq_iff hc.2
        subst e1
        subst e2
        have hfil := filter_left h3 ents
        have hun := ERels.unseen seen q2
        split at hd
        · rename_i hnil
          rw [hnil] at hun
          simp only [ERels] at hun
          rw [hun] at hfil
          have key : (Instr.next (.pointer (some ⟨g.cb, 0, none⟩)) false ty).run E.P w = .ok (.tuple #[.bool false]) w := by
            have hguard : (!seen'.isEmpty && !ents.isEmpty && ents.all (fun x => decide (x.born ≥ clock))) = false := by
              split at hd
              · simp only [ERels] at q2
                have : ents = #[] := Array.toList_inj.1 q2
                simp [this]
              · rename_i e r
                cases hl : Nat.ble (Nat.succ e.born) clock <;> rw [hl] at hd <;> simp only [cond_true, cond_false, reduceCtorEq] at hd
                have hlt := nble_iff hl
                obtain ⟨b0, q, heq, _, _, hborn, _⟩ := q2
                have : (ents.all fun x => decide (x.born ≥ clock)) = false := by
                  rw [← Array.all_toList, heq]
                  simp only [List.all_cons, Bool.and_eq_false_iff, decide_eq_false_iff_not]
                  left; omega
                simp [this]
            simp only [Instr.next, Sem.run_bind, getObj_any h2 rfl, getObj_map q1, Result.andThen_ok, hguard, hfil]
            simp [Question.forced]
          split at hd
          · cases hd
            exact ⟨rfl, .tuple #[.bool false], w, Stp.refl H, boolTup _ _, key⟩
          · rename_i e r
            cases hl : Nat.ble (Nat.succ e.born) clock <;> rw [hl] at hd <;> simp only [cond_true, cond_false, reduceCtorEq] at hd
            cases hd
            exact ⟨rfl, .tuple #[.bool false], w, Stp.refl H, boolTup _ _, key⟩
        · rename_i e hone
          rw [hone] at hun
          obtain ⟨me, q, heq, k1, k2, k3, k4⟩ := hun
          simp only [ERels] at k4
          subst k4
          rw [heq] at hfil
          cases hl : Nat.ble (Nat.succ e.born) clock <;> rw [hl] at hd <;> simp only [cond_true, cond_false, reduceCtorEq] at hd
          have hlt := nble_iff hl
          rw [Tr.setK_eq] at hd; cases hd
          have hmem : me ∈ ents.toList := by
            have : me ∈ (ents.toList.filter fun e => !seen.contains e.born) := by rw [heq]; exact List.mem_singleton.2 rfl
            exact (List.mem_filter.1 this).1
          have hguard : (!seen'.isEmpty && !ents.isEmpty && ents.all (fun x => decide (x.born ≥ clock))) = false := by
            have : (ents.all fun x => decide (x.born ≥ clock)) = false := by
              rw [← Array.all_toList]
              refine Bool.eq_false_iff.2 fun hall => ?_
              have := List.all_eq_true.1 hall me hmem
              simp only [decide_eq_true_eq] at this
              omega
            simp [this]
          refine ⟨rfl, .tuple #[.bool true, me.key, me.val], _, Stp.obj H hb rfl hg (B' := .it (some m) clock (e.born :: seen) clock) (o' := .mapIter (some gm.cb) clock (seen'.push me.born) clock) ?_, ?_, ?_⟩
          · exact ⟨h1, some gm.cb, _, rfl, by simp [h3, k3], ⟨gm, hgm, rfl⟩, h5⟩
          · simp only [VRel]
            exact ⟨_, rfl, .cons (VRel.ofBool _ _) (.cons k1 (.cons k2 (.nil _)))⟩
          · have hset := setObj_run (P := E.P) (o' := .mapIter (some gm.cb) clock (seen'.push me.born) clock) h2 rfl
            have hb1 : me.born < clock := by omega
            simp only [Instr.next, Sem.run_bind, getObj_any h2 rfl, getObj_map q1, Result.andThen_ok, hguard, hfil]
            simp [Question.forced, hb1, hset, Nat.not_le.2 hb1]
        · cases hd
      · cases hd
    · cases hd
  · cases hd

theorem doEntry_ok (H : HRel E base ι h w) {x : AV} {x' : Value} {v : AV} {h' : Heap} (hd : doEntry x h = .ok v h') (hx : VRel ι x x') :
    h' = h ∧ ∃ v', VRel ι v v' ∧ (Instr.entry x').run E.P w = .ok v' w := by
  unfold doEntry at hd
  split at hd
  · rename_i b
    have hx0 := hx
    simp only [VRel] at hx
    obtain ⟨g, hg, _⟩ := hx
    split at hd
    · rename_i m since stamp seen stepped hb
      obtain ⟨h1, m', seen', h2, h3, ⟨gm, hgm, rfl⟩, h5⟩ := H.rel_of hb hg
      obtain rfl := iter_addr hg h5 hx0
      split at hd
      · rename_i es clock hm
        obtain ⟨_, ents, q1, q2⟩ := H.rel_of hm hgm
        cases hc : Nat.beq clock stepped <;> rw [hc] at hd <;> simp only [cond_true, cond_false, reduceCtorEq] at hd
        have e1 := nbeq_iff hc
        subst e1
        split at hd
        · rename_i e he
          cases hd
          obtain ⟨me, k1, k2, k3⟩ := ERels.entryAt q2 he
          refine ⟨rfl, .tuple #[me.key, me.val], ?_, ?_⟩
          · simp only [VRel]
            exact ⟨_, rfl, .cons k2 (.cons k3 (.nil _))⟩
          · have hback : seen'.back? = some stamp := by
              rw [← Array.getLast?_toList, h3]; simp
            have hfind : ents.find? (fun e => e.born == stamp) = some me := by rw [← Array.find?_toList]; exact k1
            simp [Instr.entry, getObj_any h2 rfl, getObj_map q1, hback, hfind]
        · cases hd
      · cases hd
    · cases hd
  · cases hd

theorem doNextS_ok (H : HRel E base ι h w) {ty : TypeId} {x : AV} {x' : Value} {v : AV} {h' : Heap} (hd : doNextS x h = .ok v h') (hx : VRel ι x x') :
    h'.next = h.next ∧ ∃ v' w', Stp E base ι h w ι h' w' ∧ VRel ι v v' ∧ (Instr.next x' true ty).run E.P w = .ok v' w' := by
  unfold doNextS at hd
  split at hd
  · rename_i b next tr
    have hx0 := hx
    simp only [VRel] at hx
    obtain ⟨g, hg, _⟩ := hx
    split at hd
    · rename_i l c pos hb
      obtain ⟨h1, s, h2, h3, h4, h5⟩ := H.rel_of hb hg
      obtain rfl := iter_addr hg h5 hx0
      subst h3
      subst h4
      cases hp : Nat.ble (Nat.succ pos) s.size <;> rw [hp] at hd <;> simp only [cond_true, cond_false] at hd
      · cases hd
        have hn : ¬ pos < s.size := fun hlt => by rw [Nat.ble_eq_true_of_le hlt] at hp; cases hp
        refine ⟨rfl, .tuple #[.bool false], w, Stp.refl H, boolTup _ _, ?_⟩
        simp [Instr.next, getObj_any h2 rfl, hn]
      · have hlt : pos < s.size := nble_iff hp
        rw [forceN_eq] at hd
        have hbyte : Nat.mod (Nat.div (strCode s.data.toList) (Nat.pow 256 (Nat.sub s.size (Nat.succ pos)))) 256 = (s[pos]).toNat := str_byte hlt
        rw [hbyte] at hd
        cases hu : Nat.ble (s[pos]).toNat 127 <;> rw [hu] at hd <;> simp only [cond_true, cond_false, reduceCtorEq] at hd
        have hle := nble_iff hu
        rw [Tr.setK_eq] at hd; cases hd
        have hdec : Utf8.decode s pos = ((s[pos]).toNat, 1) := by
          unfold Utf8.decode
          have : (s.get! (pos + 0)).toNat = (s[pos]).toNat := by
            rw [Nat.add_zero]
            show (s.data[pos]!).toNat = _
            rw [getElem!_pos s.data pos hlt]; rfl
          simp only [this]
          rw [if_pos (by omega)]
        refine ⟨rfl, .tuple #[.bool true, goInt pos, .int .i32 (s[pos]).toNat], _, Stp.obj H hb rfl hg (B' := .sit s.size (strCode s.data.toList) (Nat.succ pos)) (o' := .stringIter s (pos + 1)) ⟨h1, s, rfl, rfl, rfl, h5⟩, ?_, ?_⟩
        · simp only [VRel]
          refine ⟨_, rfl, .cons (VRel.ofBool _ _) (.cons ?_ (.cons ?_ (.nil _)))⟩
          · simp only [VRel, goInt]; rfl
          · simp only [VRel]; rfl
        · have hset := setObj_run (P := E.P) (o' := .stringIter s (pos + 1)) h2 rfl
          simp [Instr.next, getObj_any h2 rfl, hlt, hdec, hset]
    · cases hd
  · cases hd

end
end Ev
end Go.Proofs.YtodemhmfnokomaaGreatDoor
