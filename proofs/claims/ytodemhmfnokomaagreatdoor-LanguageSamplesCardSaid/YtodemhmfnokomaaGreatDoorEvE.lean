/- Operations with memory are right, first part. Conditions: none. -/
import Derived.Test.YtodemhmfnokomaaGreatDoorEvD
import Derived.Laws.Cells
import Derived.Laws.Append
namespace Go.Proofs.YtodemhmfnokomaaGreatDoor
namespace Ev
open Go

theorem readN_spec (t : Tr AV) : ∀ (n i : Nat) (l : List AV), readN t n i = some l → l.length = n ∧ ∀ j, j < n → ∃ v, t.get (i + j) = some v ∧ l[j]? = some v
  | 0, i, l, h => by simp only [readN, Option.some.injEq] at h; subst h; exact ⟨rfl, fun j hj => by omega⟩
  | n + 1, i, l, h => by
    simp only [readN] at h
    cases hv : t.get i with
    | none => rw [hv] at h; cases h
    | some v =>
      rw [hv] at h
      cases hr : readN t n (Nat.succ i) with
      | none => rw [hr] at h; cases h
      | some r =>
        rw [hr] at h; cases h
        obtain ⟨h1, h2⟩ := readN_spec t n (i + 1) r hr
        refine ⟨by simp [h1], fun j hj => ?_⟩
        cases j with
        | zero => exact ⟨v, hv, rfl⟩
        | succ j =>
          obtain ⟨u, hu1, hu2⟩ := h2 j (by omega)
          exact ⟨u, by rw [← hu1]; congr 1; omega, hu2⟩

theorem trOf_spec (l : List AV) : ∀ (i : Nat) (t : Tr AV) (f : Tr AV → Nat → VRes), ∃ t', trOf l i t f = f t' (i + l.length) ∧ ∀ j, t'.get j = if i ≤ j ∧ j < i + l.length then l[j - i]? else t.get j := by
  induction l with
  | nil => intro i t f; exact ⟨t, rfl, fun j => by rw [if_neg (by simp only [List.length_nil]; omega)]⟩
  | cons x l ih =>
    intro i t f
    simp only [trOf, Tr.setK_eq]
    obtain ⟨t', h1, h2⟩ := ih (Nat.succ i) (t.set i (some x)) f
    refine ⟨t', by rw [h1]; congr 1; simp only [List.length_cons]; omega, fun j => ?_⟩
    rw [h2]
    by_cases hj : i ≤ j ∧ j < i + (x :: l).length
    · rw [if_pos hj]
      by_cases e : j = i
      · subst e; rw [if_neg (by omega), Tr.get_set_same]; simp
      · rw [if_pos (by simp only [List.length_cons] at hj; omega)]
        have : j - i = (j - Nat.succ i) + 1 := by omega
        rw [this, List.getElem?_cons_succ]
    · rw [if_neg hj, if_neg (by simp only [List.length_cons] at hj; omega), Tr.get_set_ne _ _ (by simp only [List.length_cons] at hj; omega)]

theorem writeN_spec (l : List AV) : ∀ (i : Nat) (t : Tr AV) (f : Tr AV → VRes), writeN l i t f = .fail ∨ ((∀ x ∈ l, x.one = true) ∧ ∃ t', writeN l i t f = f t' ∧ ∀ j, t'.get j = if i ≤ j ∧ j < i + l.length then l[j - i]? else t.get j) := by
  induction l with
  | nil => intro i t f; exact .inr ⟨by simp, t, rfl, fun j => by rw [if_neg (by simp only [List.length_nil]; omega)]⟩
  | cons x l ih =>
    intro i t f
    simp only [writeN, Tr.setK_eq]
    cases hx : x.one with
    | false => exact .inl rfl
    | true =>
      simp only [cond_true]
      rcases ih (Nat.succ i) (t.set i (some x)) f with h | ⟨ho, t', h1, h2⟩
      · exact .inl h
      · refine .inr ⟨by simp only [List.mem_cons, forall_eq_or_imp]; exact ⟨hx, ho⟩, t', h1, fun j => ?_⟩
        rw [h2]
        by_cases hj : i ≤ j ∧ j < i + (x :: l).length
        · rw [if_pos hj]
          by_cases e : j = i
          · subst e; rw [if_neg (by omega), Tr.get_set_same]; simp
          · rw [if_pos (by simp only [List.length_cons] at hj; omega)]
            have : j - i = (j - Nat.succ i) + 1 := by omega
            rw [this, List.getElem?_cons_succ]
        · rw [if_neg hj, if_neg (by simp only [List.length_cons] at hj; omega), Tr.get_set_ne _ _ (by simp only [List.length_cons] at hj; omega)]

theorem one_rel {ι : Inj} {x : AV} {v : Value} (ho : x.one = true) (h : VRel ι x v) : v.oneCell' = true := by
  cases x <;> simp only [AV.one, Bool.false_eq_true] at ho <;> simp only [VRel] at h
  case bool => subst h; rfl
  case nat => subst h; rfl
  case neg => subst h; rfl
  case str => obtain ⟨s, rfl, _⟩ := h; rfl
  case ptr => obtain ⟨g, _, rfl⟩ := h; rfl
  case gl => subst h; rfl
  case nilp => subst h; rfl
  case sl => obtain ⟨a, c, g, rfl, _⟩ := h; rfl
  case nils => subst h; rfl
  case map => obtain ⟨g, _, rfl⟩ := h; rfl
  case nilm => subst h; rfl
  case fn => obtain ⟨f', xs, ys, rfl, _⟩ := h; rfl
  case nilf => subst h; rfl
  case ifc => obtain ⟨y, rfl, _⟩ := h; rfl
  case nili => subst h; rfl

section
variable {E : Env} {base : Nat} {ι : Inj} {h : Heap} {w : World}

/-- the cells that the evaluator reads are there -/
theorem cellsAt_rel (H : HRel E base ι h w) {b o n : Nat} {l : List AV} (hc : cellsAt h b o n = some l) {g : Gh} (hg : ι b = some g) :
    ∃ vs, VRels ι l vs ∧ vs.length = n ∧ ∀ j v, vs[j]? = some v → w.cell? ⟨g.cb, g.co + o + j, none⟩ = some v := by
  unfold cellsAt at hc
  split at hc
  · rename_i ty size t ro ex hb
    cases hle : Nat.ble (Nat.add o n) size <;> rw [hle] at hc <;> simp only [cond_true, cond_false, reduceCtorEq] at hc
    have hle' := ble_true hle
    simp only [Nat.add_eq] at hle'
    obtain ⟨hl, hget⟩ := readN_spec t n o l hc
    obtain ⟨C, fr, h1, h2, h3, h4, _, _⟩ := H.rel_of hb hg
    have key : ∀ j, j < n → ∃ u v, C[g.co + (o + j)]? = some u ∧ l[j]? = some v ∧ VRel ι v u := fun j hj => by
      obtain ⟨v, hv1, hv2⟩ := hget j hj
      obtain ⟨u, hu, r⟩ := h4 (o + j) v (by omega) hv1
      exact ⟨u, v, hu, hv2, r⟩
    refine ⟨(C.toList.drop (g.co + o)).take n, ?_, ?_, ?_⟩
    · refine .of_get ?_ fun i a u e f => ?_
      · simp; omega
      · rw [List.getElem?_take] at f
        split at f
        · rename_i hi
          rw [List.getElem?_drop] at f
          obtain ⟨u', v', hu, hv, r⟩ := key i hi
          rw [e] at hv; cases hv
          rw [Nat.add_assoc] at f
          simp only [Array.getElem?_toList] at f
          rw [f] at hu; cases hu; exact r
        · cases f
    · simp; omega
    · intro j v e
      rw [List.getElem?_take] at e
      split at e
      · rw [List.getElem?_drop] at e
        simp only [Array.getElem?_toList] at e
        unfold World.cell?
        rw [h1]
        simpa using e
      · cases e
  · cases hc

theorem cell_glob (H : HRel E base ι h w) {n : Nat} {cs : List AV} (hn : E.glob n = some cs) : ∃ vs, VRels ι cs vs ∧ ∀ j v, vs[j]? = some v → w.cell? ⟨n, j, none⟩ = some v := by
  obtain ⟨_, C, T, fr, h1, h2⟩ := H.glob n cs hn
  refine ⟨C.toList, h2, fun j v e => ?_⟩
  unfold World.cell?
  rw [h1]
  simpa using e

/-- a load out of known cells -/
theorem loadVar_ok {P : Program} {t : TypeId} {g : Bool} {n : Nat} (hg : aggT P t = some g) (hn : szA P t = some n) {b o : Nat} {l : List AV} {vs : List Value} (hv : VRels ι l vs) (hl : vs.length = (bif g then n else 1))
    (hc : ∀ j v, vs[j]? = some v → w.cell? ⟨b, o + j, none⟩ = some v) : ∃ v', VRel ι (asOne g l) v' ∧ (Instr.loadAt t (.pointer (some ⟨b, o, none⟩))).run P w = .ok v' w := by
  cases g with
  | true =>
    refine ⟨.agg vs.toArray, asOne_agg (by simpa using hv), ?_⟩
    simp only [cond_true] at hl
    simp only [Instr.loadAt, Instr.sureAddr, loadVar, Sem.run_bind, Sem.run_pure, Result.andThen_ok, run_isAgg_of hg, if_true, szA_run hn]
    rw [← hl, run_loadCells_list w ⟨b, o, none⟩ vs (fun j v e => by rw [addr_add]; exact hc j v e)]
    rfl
  | false =>
    simp only [cond_false] at hl
    obtain ⟨u, rfl⟩ : ∃ u, vs = [u] := by
      match vs, hl with
      | [u], _ => exact ⟨u, rfl⟩
    obtain ⟨x, rfl⟩ : ∃ x, l = [x] := by
      have := hv.length
      match l, this with
      | [x], _ => exact ⟨x, rfl⟩
    simp only [VRels] at hv
    obtain ⟨y, q, e, h1, _⟩ := hv
    cases e
    refine ⟨u, h1, ?_⟩
    have := hc 0 u rfl
    simp only [Nat.add_zero] at this
    simp only [Instr.loadAt, Instr.sureAddr, loadVar, Sem.run_bind, Sem.run_pure, Result.andThen_ok, run_isAgg_of hg, Bool.false_eq_true, if_false, run_load, this]

theorem doLoad_ok (H : HRel E base ι h w) {t : TypeId} {x : AV} {x' : Value} {v : AV} {h' : Heap} (hd : doLoad E.P E.glob t x h = .ok v h') (hx : VRel ι x x') :
    h' = h ∧ ∃ v', VRel ι v v' ∧ (Instr.loadAt t x').run E.P w = .ok v' w := by
  unfold doLoad at hd
  split at hd
  · rename_i g n hg hn
    split at hd
    · rename_i b o
      simp only [VRel] at hx
      obtain ⟨gh, hgh, rfl⟩ := hx
      split at hd
      · rename_i l hl
        cases hd
        obtain ⟨vs, h1, h2, h3⟩ := cellsAt_rel H hl hgh
        exact ⟨rfl, loadVar_ok hg hn h1 h2 h3⟩
      · cases hd
    · rename_i b o
      simp only [VRel] at hx; subst hx
      split at hd
      · rename_i cs hcs
        cases hle : Nat.ble (Nat.add o (bif g then n else 1)) cs.length <;> rw [hle] at hd <;> simp only [cond_true, cond_false, reduceCtorEq] at hd
        have hle' := ble_true hle
        simp only [Nat.add_eq] at hle'
        cases hd
        obtain ⟨vs, h1, h2⟩ := cell_glob H hcs
        have hlen := h1.length
        refine ⟨rfl, loadVar_ok hg hn ((h1.drop o).take _) (by simp; omega) fun j v e => ?_⟩
        rw [List.getElem?_take] at e
        split at e
        · rw [List.getElem?_drop] at e; exact h2 _ _ e
        · cases e
      · cases hd
    · cases hd
  · cases hd

/-- storing cells into a row -/
theorem run_storeCells {P : Program} {cb o : Nat} {ty : TypeId} {fr : Nat × Nat} : ∀ (vs : List Value) (i : Nat) (w : World) (C : Array Value), w.heap[cb]? = some (.cells C ty fr) → o + i + vs.length ≤ C.size →
    (∀ v ∈ vs, v.oneCell' = true) → (∀ k, k < C.size → ¬ (fr.1 ≤ k ∧ k < fr.2)) →
    ∃ w' C', (storeCells ⟨cb, o, none⟩ vs i).run P w = .ok () w' ∧ w'.heap[cb]? = some (.cells C' ty fr) ∧ C'.size = C.size ∧ (∀ j, C'[j]? = if o + i ≤ j ∧ j < o + i + vs.length then vs[j - (o + i)]? else C[j]?) ∧
      (∀ k, k ≠ cb → w'.heap[k]? = w.heap[k]?) ∧ w'.heap.size = w.heap.size ∧ w'.os = w.os ∧ w'.tape = w.tape ∧ w'.output = w.output := by
  intro vs
  induction vs with
  | nil => intro i w C hc _ _ _; exact ⟨w, C, rfl, hc, rfl, fun j => by rw [if_neg (by simp only [List.length_nil]; omega)], fun _ _ => rfl, rfl, rfl, rfl, rfl⟩
  | cons v vs ih =>
    intro i w C hc hb ho hf
    simp only [List.length_cons] at hb
    have hlt : o + i < C.size := by omega
    have hcell : w.cell? ⟨cb, o + i, none⟩ = some C[o + i] := by
      unfold World.cell?; rw [hc]; simp [hlt]
    have hfz : w.frozen? ⟨cb, o + i, none⟩ = false := by
      unfold World.frozen?; rw [hc]
      have := hf _ hlt
      obtain ⟨lo, hi⟩ := fr
      simp only at this ⊢
      simp only [Bool.and_eq_false_imp, decide_eq_true_eq, decide_eq_false_iff_not]
      intro h1 h2; exact this ⟨h1, h2⟩
    have hw1 : (w.setCell ⟨cb, o + i, none⟩ v).heap[cb]? = some (.cells (C.setIfInBounds (o + i) v) ty fr) := by
      unfold World.setCell
      simp only [Array.getElem?_modify, if_true, hc, Option.map_some]
      rfl
    obtain ⟨w', C', h1, h2, h3, h4, h5, h6, h7, h8, h9⟩ := ih (i + 1) (w.setCell ⟨cb, o + i, none⟩ v) (C.setIfInBounds (o + i) v) hw1 (by simp; omega) (fun u hu => ho u (by simp [hu])) (by simpa using hf)
    refine ⟨w', C', ?_, h2, by simpa using h3, fun j => ?_, fun k hk => ?_, ?_, h7, h8, h9⟩
    · simp only [storeCells, Sem.run_bind, addr_add, run_store P w ⟨cb, o + i, none⟩ v .plain (ho v (by simp)), hcell, hfz, Bool.false_eq_true, if_false, Result.andThen_ok]
      exact h1
    · rw [h4]
      by_cases hj : o + i ≤ j ∧ j < o + i + (v :: vs).length
      · rw [if_pos hj]
        by_cases e : j = o + i
        · subst e
          rw [if_neg (by omega), Array.getElem?_setIfInBounds]
          simp [hlt]
        · simp only [List.length_cons] at hj
          rw [if_pos (by omega)]
          have : j - (o + i) = (j - (o + (i + 1))) + 1 := by omega
          rw [this, List.getElem?_cons_succ]
      · simp only [List.length_cons] at hj
        rw [if_neg (by omega), if_neg (by simp only [List.length_cons]; omega), Array.getElem?_setIfInBounds, if_neg (by omega)]
    · rw [h5 k hk]
      unfold World.setCell
      simp only [Array.getElem?_modify]
      rw [if_neg (fun e => hk e.symm)]
    · rw [h6]; unfold World.setCell; simp

end
end Ev
end Go.Proofs.YtodemhmfnokomaaGreatDoor
namespace Go.Proofs.YtodemhmfnokomaaGreatDoor
namespace Ev
open Go

theorem cells_one {v : Value} (h : v.oneCell' = true) : v.cells = #[v] := by cases v <;> first | rfl | cases h

theorem cells_rel {ι : Inj} {x : AV} {v : Value} (h : VRel ι x v) (ho : ∀ y ∈ x.cells, y.one = true) : VRels ι x.cells v.cells.toList := by
  by_cases ha : ∃ cs, x = .agg cs
  · obtain ⟨cs, rfl⟩ := ha
    simp only [VRel] at h
    obtain ⟨xs, rfl, hr⟩ := h
    exact hr
  · have e : x.cells = [x] := by cases x <;> first | rfl | exact absurd ⟨_, rfl⟩ ha
    rw [e] at ho ⊢
    have h1 := one_rel (ho x (by simp)) h
    rw [cells_one h1]
    exact .cons h (.nil _)

section
variable {E : Env} {base : Nat} {ι : Inj} {h : Heap} {w : World}

/-- what a block of cells of one's own becomes when some cells are written -/
theorem BRel.write {ty : TypeId} {size : Nat} {t t' : Tr AV} {ex : Bool} {g : Gh} {C C' : Array Value} {fr : Nat × Nat} {l : List AV} {vs : List Value} {o : Nat}
    (r : BRel ι base g (some (.cells C ty fr)) (.cells ty size t false ex)) (hl : VRels ι l vs) (hs : C'.size = C.size)
    (ht : ∀ j, t'.get j = if o ≤ j ∧ j < o + l.length then l[j - o]? else t.get j)
    (hC : ∀ j, C'[j]? = if g.co + o ≤ j ∧ j < g.co + o + vs.length then vs[j - (g.co + o)]? else C[j]?) :
    BRel ι base g (some (.cells C' ty fr)) (.cells ty size t' false ex) := by
  obtain ⟨C0, fr0, h1, h2, h3, h4, h5, h6⟩ := r
  cases h1
  refine ⟨C', fr, rfl, by rw [hs]; exact h2, h3, fun i v hi hv => ?_, h5, h6⟩
  rw [ht] at hv
  rw [hC]
  have hlen := hl.length
  by_cases hj : o ≤ i ∧ i < o + l.length
  · rw [if_pos hj] at hv
    rw [if_pos (by omega)]
    obtain ⟨u, hu, ru⟩ := hl.get _ _ hv
    exact ⟨u, by rw [← hu]; congr 1; omega, ru⟩
  · rw [if_neg hj] at hv
    rw [if_neg (by omega)]
    exact h4 i v hi hv

theorem storeAtA_ok (H : HRel E base ι h w) {b o : Nat} {l : List AV} {v : AV} {h' : Heap} (hs : storeAtA h b o l = .ok v h') {g : Gh} (hg : ι b = some g) :
    v = undefA ∧ h'.next = h.next ∧ (∀ y ∈ l, y.one = true) ∧ ∀ vs : List Value, VRels ι l vs → ∃ w', Stp E base ι h w ι h' w' ∧ (storeCells ⟨g.cb, g.co + o, none⟩ vs).run E.P w = .ok () w' := by
  unfold storeAtA at hs
  obtain ⟨next, tr⟩ := h
  simp only at hs
  split at hs
  · rename_i ty size t ex hb
    cases hle : Nat.ble (Nat.add o l.length) size <;> rw [hle] at hs <;> simp only [cond_true, cond_false, reduceCtorEq] at hs
    have hle' := ble_true hle
    simp only [Nat.add_eq] at hle'
    rcases writeN_spec l o t (fun t' => tr.setK (some (.cells ty size t' false ex)) b fun tr' => .ok undefA ⟨next, tr'⟩) with hf | ⟨ho, t', h1, h2⟩
    · rw [hf] at hs; cases hs
    · rw [h1, Tr.setK_eq] at hs
      cases hs
      refine ⟨rfl, rfl, ho, fun vs hv => ?_⟩
      have hr := H.rel_of hb hg
      obtain ⟨C, fr, e1, e2, e3, e4, e5, e6⟩ := hr
      obtain ⟨hbase, hfz⟩ := e5 rfl
      have hlen := hv.length
      have hone : ∀ u ∈ vs, u.oneCell' = true := by
        intro u hu
        obtain ⟨i, hi, rfl⟩ := List.getElem_of_mem hu
        have hil : i < l.length := by omega
        obtain ⟨u', hu', r⟩ := hv.get i l[i] (List.getElem?_eq_getElem hil)
        rw [List.getElem?_eq_getElem hi] at hu'; cases hu'
        exact one_rel (ho _ (List.getElem_mem _)) r
      obtain ⟨w', C', k1, k2, k3, k4, k5, k6, k7, k8, k9⟩ := run_storeCells (P := E.P) (cb := g.cb) (o := g.co + o) (ty := ty) (fr := fr) vs 0 w C e1 (by omega) hone (fun k hk => hfz k (by omega))
      exact ⟨w', Stp.turn H (b := b) (g := g) hb rfl hg (BRel.write (C := C) (C' := C') (fr := fr) (l := l) (vs := vs) (o := o) (by rw [← e1]; exact H.rel_of hb hg) hv k3 h2 (fun j => by simpa using k4 j)) k5 k2 k6 k7 k8 k9, k1⟩
  · cases hs

theorem doStore_ok (H : HRel E base ι h w) {t : TypeId} {x y : AV} {x' y' : Value} {v : AV} {h' : Heap} (hd : doStore E.P t x y h = .ok v h') (hx : VRel ι x x') (hy : VRel ι y y') :
    v = undefA ∧ h'.next = h.next ∧ ∃ w', Stp E base ι h w ι h' w' ∧ (Instr.storeAt t x' y').run E.P w = .ok () w' := by
  unfold doStore at hd
  split at hd
  · rename_i n hn
    split at hd
    · rename_i b o
      cases hb : Nat.beq y.cells.length n <;> rw [hb] at hd <;> simp only [cond_true, cond_false, reduceCtorEq] at hd
      have hlen := nbeq_iff hb
      simp only [VRel] at hx
      obtain ⟨g, hg, rfl⟩ := hx
      obtain ⟨h1, h2, h3, h4⟩ := storeAtA_ok H hd hg
      have hr := cells_rel hy h3
      obtain ⟨w', hs, hrun⟩ := h4 _ hr
      refine ⟨h1, h2, w', hs, ?_⟩
      have hsz : ¬ (y'.cells.size ≠ n) := by
        have := hr.length
        simp only [Array.length_toList] at this
        omega
      simp only [Instr.storeAt, Instr.sureAddr, storeVar, Sem.run_bind, Sem.run_pure, Result.andThen_ok, szA_run hn, hsz, if_false]
      exact hrun
    · cases hd
  · cases hd

/-- a new row of cells -/
theorem newCells_ok (H : HRel E base ι h w) {ty : TypeId} {ex : Bool} {l : List AV} {f : Nat → Heap → VRes} (hf : ι h.next = none) {C : Array Value}
    (hC : ∀ (i : Nat) (v : AV), l[i]? = some v → ∃ u, C[i]? = some u ∧ VRel ι v u) (hl : l.length ≤ C.size) (hex : ex = true → C.size = l.length) {w' : World}
    (hh : w'.heap = w.heap.push (.cells C ty)) (ho : w'.os = w.os) (ht : w'.tape = w.tape) (hu : w'.output = w.output) :
    ∃ tr', newCells ty ex h l f = f h.next ⟨h.next + 1, tr'⟩ ∧ Stp E base ι h w (ι.upd h.next ⟨w.heap.size, 0, C.size, none⟩) ⟨h.next + 1, tr'⟩ w' := by
  obtain ⟨next, tr⟩ := h
  obtain ⟨t', h1, h2⟩ := trOf_spec l 0 .nil (fun t n => tr.setK (some (.cells ty n t false ex)) next fun tr' => f next ⟨Nat.succ next, tr'⟩)
  refine ⟨tr.set next (some (.cells ty (0 + l.length) t' false ex)), ?_, ?_⟩
  · simp only [newCells]
    rw [h1, Tr.setK_eq]
  · refine Stp.new H (.cells ty (0 + l.length) t' false ex) (.cells C ty) ⟨w.heap.size, 0, C.size, none⟩ rfl hf ?_ hh ho ht hu
    refine ⟨C, (0, 0), rfl, rfl, by simpa using hl, fun i v hi hv => ?_, fun _ => ⟨H.base, fun o _ h => by simp at h⟩, fun e => ⟨rfl, by simpa using hex e⟩⟩
    rw [h2] at hv
    rw [if_pos (by omega)] at hv
    obtain ⟨u, hu, r⟩ := hC i v (by simpa using hv)
    exact ⟨u, by simpa using hu, r.mono (Inj.le_upd _ _ hf)⟩

theorem get_of_rels {ι : Inj} {l : List AV} {C : Array Value} (h : VRels ι l C.toList) : ∀ (i : Nat) (v : AV), l[i]? = some v → ∃ u, C[i]? = some u ∧ VRel ι v u := fun i v e => by
  obtain ⟨u, hu, r⟩ := h.get i v e
  exact ⟨u, by simpa using hu, r⟩

theorem newBlk_ok (H : HRel E base ι h w) {t : TypeId} {l : List AV} {v : AV} {h' : Heap} (hd : newBlk t h l = .ok v h') (hf : Free ι h.next h'.next) {C : Array Value} (hC : VRels ι l C.toList) :
    ∃ ι' v' w', Stp E base ι h w ι' h' w' ∧ VRel ι' v v' ∧ (do pure (.pointer (some (← newRow t C))) : Sem Value).run E.P w = .ok v' w' := by
  unfold newBlk at hd
  have hlen : C.size = l.length := by have := hC.length; simpa using this
  have hn : h.next < h'.next := by
    obtain ⟨next, tr⟩ := h
    obtain ⟨t', h1, _⟩ := trOf_spec l 0 .nil (fun t0 n => tr.setK (some (.cells t n t0 false true)) next fun tr' => VRes.ok (.ptr next 0) ⟨Nat.succ next, tr'⟩)
    simp only [newCells] at hd
    rw [h1, Tr.setK_eq] at hd; cases hd; exact Nat.lt_succ_self _
  have hfr := hf h.next (Nat.le_refl _) hn
  obtain ⟨tr', h1, h2⟩ := newCells_ok H (ty := t) (ex := true) (l := l) (f := fun b h' => .ok (.ptr b 0) h') hfr (get_of_rels hC) (by omega) (fun _ => hlen) (w' := { w with heap := w.heap.push (.cells C t) }) rfl rfl rfl rfl
  rw [h1] at hd; cases hd
  refine ⟨_, .pointer (some ⟨w.heap.size, 0, none⟩), _, h2, ?_, ?_⟩
  · simp only [VRel]; exact ⟨_, Inj.upd_same _ _ _, rfl⟩
  · simp only [newRow, Sem.run_bind, run_newObj, Result.andThen_ok, Sem.run_pure]

theorem zeroA_run {P : Program} {t : TypeId} {l : List AV} (hz : zeroA P t = some l) (ι : Inj) : ∃ z, VRels ι l z.cells.toList ∧ ∀ w, (zeroValue t).run P w = .ok z w := by
  unfold zeroA at hz
  cases hi : P.info? t with
  | none => rw [hi] at hz; cases hz
  | some i =>
    rw [hi] at hz
    cases hzv : i.zero with
    | none => simp only [hzv] at hz; cases hz
    | some z =>
      simp only [hzv, Option.some.injEq] at hz
      refine ⟨z, ?_, fun w => by simp [zeroValue, typeInfo, hi, hzv]⟩
      have hr := absV_rel ι z
      by_cases ha : ∃ xs, z = .agg xs
      · obtain ⟨⟨xs⟩, rfl⟩ := ha
        simp only [absV] at hz
        subst hz
        simp only [absV, VRel] at hr
        obtain ⟨ys, e, hr⟩ := hr
        cases e; exact hr
      · have hc : z.cells = #[z] := by cases z <;> first | rfl | exact absurd ⟨_, rfl⟩ ha
        rw [hc]
        have he : l = [absV z] := by
          rw [← hz]
          cases hA : absV z with
          | agg cs => rw [hA] at hr; simp only [VRel] at hr; obtain ⟨xs, e, _⟩ := hr; exact absurd ⟨_, e⟩ ha
          | _ => rfl
        rw [he]
        exact .cons hr (.nil _)

theorem doAlloc_ok (H : HRel E base ι h w) {t : TypeId} {v : AV} {h' : Heap} (hd : doAlloc E.P t h = .ok v h') (hf : Free ι h.next h'.next) :
    ∃ ι' v' w', Stp E base ι h w ι' h' w' ∧ VRel ι' v v' ∧ (Instr.alloc t true (.tuple #[])).run E.P w = .ok v' w' := by
  unfold doAlloc at hd
  split at hd
  · rename_i l hz
    obtain ⟨z, hr, hrun⟩ := zeroA_run hz ι
    obtain ⟨ι', v', w', h1, h2, h3⟩ := newBlk_ok H hd hf hr
    refine ⟨ι', v', w', h1, h2, ?_⟩
    simp only [Instr.alloc, Sem.run_bind, hrun, Result.andThen_ok, newVar]
    simpa only [Sem.run_bind] using h3
  · cases hd

theorem doBox_ok (H : HRel E base ι h w) {t : TypeId} {x : AV} {x' : Value} {v : AV} {h' : Heap} (hd : newBlk t h x.cells = .ok v h') (hf : Free ι h.next h'.next) (hx : VRel ι x x') (hany : x ≠ .any) :
    ∃ ι' v' w', Stp E base ι h w ι' h' w' ∧ VRel ι' v v' ∧ (Instr.box t x').run E.P w = .ok v' w' := by
  have hr : VRels ι x.cells x'.cells.toList := by
    by_cases ha : ∃ cs, x = .agg cs
    · obtain ⟨cs, rfl⟩ := ha
      simp only [VRel] at hx
      obtain ⟨xs, rfl, hr⟩ := hx
      exact hr
    · have e : x.cells = [x] := by cases x <;> first | rfl | exact absurd ⟨_, rfl⟩ ha
      have e' : x'.cells = #[x'] := by
        cases x' with
        | agg cs =>
          exfalso
          cases x <;> simp only [VRel, reduceCtorEq, false_and, and_false, exists_false] at hx <;> first | exact hany rfl | exact ha ⟨_, rfl⟩ | (obtain ⟨_, _, e⟩ := hx; cases e) | (obtain ⟨_, _, _, e, _⟩ := hx; cases e)
        | _ => rfl
      rw [e, e']; exact .cons hx (.nil _)
  obtain ⟨ι', v', w', h1, h2, h3⟩ := newBlk_ok H hd hf hr
  exact ⟨ι', v', w', h1, h2, h3⟩

end
end Ev
end Go.Proofs.YtodemhmfnokomaaGreatDoor
namespace Go.Proofs.YtodemhmfnokomaaGreatDoor
namespace Ev
open Go

theorem cells_rel2 {ι : Inj} {x : AV} {v : Value} (hx : VRel ι x v) (hany : x ≠ .any) : VRels ι x.cells v.cells.toList := by
  by_cases ha : ∃ cs, x = .agg cs
  · obtain ⟨cs, rfl⟩ := ha
    simp only [VRel] at hx
    obtain ⟨xs, rfl, hr⟩ := hx
    exact hr
  · have e : x.cells = [x] := by cases x <;> first | rfl | exact absurd ⟨_, rfl⟩ ha
    have e' : v.cells = #[v] := by
      cases v with
      | agg cs =>
        exfalso
        cases x <;> simp only [VRel, reduceCtorEq, false_and, and_false, exists_false] at hx <;> first | exact hany rfl | exact ha ⟨_, rfl⟩ | (obtain ⟨_, _, e⟩ := hx; cases e) | (obtain ⟨_, _, _, e, _⟩ := hx; cases e)
      | _ => rfl
    rw [e, e']; exact .cons hx (.nil _)

theorem fold_set (off : Nat) : ∀ (vs : List Value) (k : Nat) (C : Array Value), off + k + vs.length ≤ C.size →
    (List.foldl (fun cs (p : Value × Nat) => cs.setIfInBounds (off + p.2) p.1) C (vs.zipIdx k)).size = C.size ∧
    ∀ j, (List.foldl (fun cs (p : Value × Nat) => cs.setIfInBounds (off + p.2) p.1) C (vs.zipIdx k))[j]? = if off + k ≤ j ∧ j < off + k + vs.length then vs[j - (off + k)]? else C[j]?
  | [], k, C, _ => ⟨rfl, fun j => by rw [if_neg (by simp only [List.length_nil]; omega)]; rfl⟩
  | v :: vs, k, C, h => by
    simp only [List.length_cons] at h
    simp only [List.zipIdx_cons, List.foldl_cons]
    obtain ⟨h1, h2⟩ := fold_set off vs (k + 1) (C.setIfInBounds (off + k) v) (by simp; omega)
    refine ⟨by rw [h1]; simp, fun j => ?_⟩
    rw [h2]
    by_cases hj : off + k ≤ j ∧ j < off + k + (v :: vs).length
    · rw [if_pos hj]
      by_cases e : j = off + k
      · subst e
        rw [if_neg (by omega), Array.getElem?_setIfInBounds, if_pos rfl, if_pos (by omega)]; simp
      · simp only [List.length_cons] at hj
        rw [if_pos (by omega)]
        have : j - (off + k) = (j - (off + (k + 1))) + 1 := by omega
        rw [this, List.getElem?_cons_succ]
    · simp only [List.length_cons] at hj
      rw [if_neg (by omega), if_neg (by simp only [List.length_cons]; omega), Array.getElem?_setIfInBounds, if_neg (by omega)]

theorem putRange_get (cs : List AV) (off : Nat) (l : List AV) (h : off + l.length ≤ cs.length) : (putRange cs off l).length = cs.length ∧ ∀ j, (putRange cs off l)[j]? = if off ≤ j ∧ j < off + l.length then l[j - off]? else cs[j]? := by
  unfold putRange
  simp only [Nat.add_eq]
  refine ⟨by simp; omega, fun j => ?_⟩
  rw [List.append_assoc]
  by_cases h1 : j < off
  · rw [List.getElem?_append_left (by simp; omega), if_neg (by omega), List.getElem?_take, if_pos h1]
  · rw [List.getElem?_append_right (by simp; omega)]
    have e : (cs.take off).length = off := by simp; omega
    rw [e]
    by_cases h2 : j < off + l.length
    · rw [List.getElem?_append_left (by omega), if_pos (by omega)]
    · rw [List.getElem?_append_right (by omega), if_neg (by omega), List.getElem?_drop]
      congr 1; omega

def PRels (ι : Inj) : List (Nat × AV) → List (Nat × Value) → Prop
  | [], l => l = []
  | x :: r, l => ∃ y q, l = (x.1, y) :: q ∧ VRel ι x.2 y ∧ PRels ι r q

theorem fillA_ok {ι : Inj} {place place' : Nat → Option (Nat × Nat)} (hp : ∀ i, place i = place' i) : ∀ (parts : List (Nat × AV)) (parts' : List (Nat × Value)) (cells r : List AV) (C : Array Value), PRels ι parts parts' → VRels ι cells C.toList → fillA place cells parts = some r →
    ∃ R, Instr.fill place' C parts' = some R ∧ VRels ι r R.toList
  | [], parts', cells, r, C, h1, h2, h3 => by
    simp only [PRels] at h1; subst h1
    simp only [fillA, Option.some.injEq] at h3; subst h3
    exact ⟨C, rfl, h2⟩
  | (i, v) :: rest, parts', cells, r, C, h1, h2, h3 => by
    simp only [PRels] at h1
    obtain ⟨y, q, rfl, hv, hq⟩ := h1
    simp only [fillA] at h3
    cases hpl : place i with
    | none => rw [hpl] at h3; cases h3
    | some os =>
      obtain ⟨off, size⟩ := os
      rw [hpl] at h3
      simp only at h3
      cases hb : (v.known && Nat.beq v.cells.length size && Nat.ble (Nat.add off v.cells.length) cells.length) <;> rw [hb] at h3 <;> simp only [cond_true, cond_false, reduceCtorEq] at h3
      rw [Bool.and_eq_true, Bool.and_eq_true] at hb
      have hk : v ≠ .any := fun e => by rw [e] at hb; exact absurd hb.1.1 (by simp [AV.known])
      have hsz := nbeq_iff hb.1.2
      have hle := ble_true hb.2
      simp only [Nat.add_eq] at hle
      have hr := cells_rel2 hv hk
      have l1 := hr.length
      have l2 := h2.length
      simp only [Array.length_toList] at l1 l2
      obtain ⟨p1, p2⟩ := putRange_get cells off v.cells hle
      obtain ⟨f1, f2⟩ := fold_set off y.cells.toList 0 C (by simp; omega)
      have hfold : (y.cells.zipIdx.foldl (fun cs x => match x with | (c, j) => cs.setIfInBounds (off + j) c) C) = List.foldl (fun cs (p : Value × Nat) => cs.setIfInBounds (off + p.2) p.1) C (y.cells.toList.zipIdx 0) := by
        rw [← Array.foldl_toList, Array.toList_zipIdx]
      have hnew : VRels ι (putRange cells off v.cells) (y.cells.zipIdx.foldl (fun cs x => match x with | (c, j) => cs.setIfInBounds (off + j) c) C).toList := by
        rw [hfold]
        refine .of_get (by simp only [Array.length_toList]; omega) fun j a u e f => ?_
        simp only [Array.getElem?_toList] at f
        rw [p2] at e
        rw [f2] at f
        simp only [Nat.add_zero, Array.length_toList] at f
        by_cases hj : off ≤ j ∧ j < off + v.cells.length
        · rw [if_pos hj] at e
          rw [if_pos (by omega)] at f
          obtain ⟨u', hu', ru⟩ := hr.get _ _ e
          rw [f] at hu'; cases hu'; exact ru
        · rw [if_neg hj] at e
          rw [if_neg (by omega)] at f
          obtain ⟨u', hu', ru⟩ := h2.get _ _ e
          simp only [Array.getElem?_toList] at hu'
          rw [f] at hu'; cases hu'; exact ru
      obtain ⟨R, hR, hrel⟩ := fillA_ok hp rest q _ r _ hq hnew h3
      refine ⟨R, ?_, hrel⟩
      have hc : (y.cells.size ≠ size || off + y.cells.size > C.size) = false := by
        simp only [Bool.or_eq_false_iff, decide_eq_false_iff_not]
        constructor
        · simp; omega
        · omega
      simp only [Instr.fill, ← hp i, hpl, hc, Bool.false_eq_true, if_false]
      exact hR

theorem fieldPlaces_ok {P : Program} : ∀ (fs : List Field) (pl : List (Nat × Nat)), fieldPlaces P fs = some pl → pl = fs.map (fun f => (f.offset, P.cellsOf f.type)) ∧ ∀ w, (fs.mapM (fun f => (do pure (f.offset, ← sizeOf f.type) : Sem (Nat × Nat)))).run P w = .ok pl w
  | [], pl, h => by simp only [fieldPlaces, Option.some.injEq] at h; subst h; exact ⟨rfl, fun w => rfl⟩
  | f :: r, pl, h => by
    simp only [fieldPlaces] at h
    cases hs : szA P f.type with
    | none => rw [hs] at h; cases h
    | some n =>
      cases hr : fieldPlaces P r with
      | none => rw [hs, hr] at h; cases h
      | some l =>
        rw [hs, hr] at h; cases h
        obtain ⟨h1, h2⟩ := fieldPlaces_ok r l hr
        have hn : P.cellsOf f.type = n := by
          unfold szA at hs
          unfold Program.cellsOf
          cases hi : P.info? f.type with
          | none => rw [hi] at hs; cases hs
          | some i => rw [hi] at hs; cases hs; rfl
        refine ⟨by simp [h1, hn], fun w => ?_⟩
        rw [List.mapM_cons]
        simp only [Sem.run_bind, szA_run hs, Result.andThen_ok, Sem.run_pure, h2]

section
variable {E : Env} {base : Nat} {ι : Inj} {h : Heap} {w : World}

theorem doBuild_ok {t : TypeId} {parts : List (Nat × AV)} {parts' : Array (Nat × Value)} {v : AV} {h' : Heap} (hd : doBuild E.P t parts h = .ok v h') (hp : PRels ι parts parts'.toList) :
    h' = h ∧ ∃ v', VRel ι v v' ∧ ∀ w, (Instr.build t parts').run E.P w = .ok v' w := by
  unfold doBuild at hd
  split at hd
  · cases hd
  · rename_i zero hz
    obtain ⟨z, hzr, hzrun⟩ := zeroA_run hz ι
    split at hd
    · rename_i fields hu
      split at hd
      · rename_i pl hpl
        split at hd
        · rename_i cs hcs
          cases hd
          obtain ⟨h1, h2⟩ := fieldPlaces_ok _ _ hpl
          obtain ⟨R, hR, hrel⟩ := fillA_ok (place' := fun i => (pl.toArray)[i]?) (fun i => by rw [nthO_eq]; simp) parts parts'.toList zero cs z.cells hp hzr hcs
          refine ⟨rfl, .agg R, by simp only [VRel]; exact ⟨R, rfl, hrel⟩, fun w => ?_⟩
          have hm : ∀ w, (fields.mapM (fun f => (do pure (f.offset, ← sizeOf f.type) : Sem (Nat × Nat)))).run E.P w = .ok pl.toArray w := fun w => by
            rw [Array.mapM_eq_mapM_toList, Sem.run_map, h2]; rfl
          simp only [Instr.build, Sem.run_bind, hzrun, Result.andThen_ok, run_underlying hu, hm]
          rw [hR]; rfl
        · cases hd
      · cases hd
    · rename_i n e hu
      split at hd
      · rename_i sz hsz
        split at hd
        · rename_i cs hcs
          cases hd
          obtain ⟨R, hR, hrel⟩ := fillA_ok (place' := fun i => some (i * sz, sz)) (fun i => rfl) parts parts'.toList zero cs z.cells hp hzr hcs
          refine ⟨rfl, .agg R, by simp only [VRel]; exact ⟨R, rfl, hrel⟩, fun w => ?_⟩
          simp only [Instr.build, Sem.run_bind, hzrun, Result.andThen_ok, run_underlying hu, szA_run hsz]
          rw [hR]; rfl
        · cases hd
      · cases hd
    · cases hd

theorem repl_spec (z : List AV) : ∀ n, (repl n z).length = n * z.length ∧ ∀ i, i < n * z.length → (repl n z)[i]? = z[i % z.length]?
  | 0 => ⟨by simp [repl], fun i hi => by simp at hi⟩
  | n + 1 => by
    obtain ⟨h1, h2⟩ := repl_spec z n
    refine ⟨by simp only [repl, List.length_append, h1]; rw [Nat.add_mul]; omega, fun i hi => ?_⟩
    simp only [repl]
    by_cases hlt : i < z.length
    · rw [List.getElem?_append_left hlt, Nat.mod_eq_of_lt hlt]
    · have hge : z.length ≤ i := by omega
      rw [List.getElem?_append_right hge, h2 _ (by rw [Nat.add_mul] at hi; omega), Nat.mod_eq_sub_mod hge]

/-- zero cells, n elements -/
theorem repl_rel {z : List AV} {zs : Array Value} (hz : VRels ι z zs.toList) (n size : Nat) (hsz : z.length = size) : VRels ι (repl n z) ((Array.range (n * size)).map (zs[· % zs.size]!)).toList := by
  obtain ⟨h1, h2⟩ := repl_spec z n
  have hl := hz.length
  simp only [Array.length_toList] at hl
  refine .of_get (by simp [h1, hsz]) fun i a u e f => ?_
  have hi : i < n * z.length := by rw [← h1]; exact (List.getElem?_eq_some_iff.1 e).1
  rw [h2 i hi] at e
  have hpos : 0 < z.length := by
    rcases Nat.eq_zero_or_pos z.length with h0 | h0
    · rw [h0] at hi; simp at hi
    · exact h0
  have hmod : i % z.length < z.length := Nat.mod_lt _ hpos
  obtain ⟨u', hu', r⟩ := hz.get _ _ e
  simp only [Array.toList_map, Array.toList_range, List.getElem?_map] at f
  rw [List.getElem?_range (by rw [← hsz]; exact hi)] at f
  simp only [Option.map_some, Option.some.injEq] at f
  subst f
  simp only [Array.getElem?_toList] at hu'
  rw [hl, getElem!_def, hu']
  exact r

theorem doBuildSlice_ok (H : HRel E base ι h w) {t : TypeId} {len : Nat} {parts : List (Nat × AV)} {parts' : Array (Nat × Value)} {v : AV} {h' : Heap} (hd : doBuildSlice E.P t len parts h = .ok v h') (hf : Free ι h.next h'.next) (hp : PRels ι parts parts'.toList) :
    ∃ ι' v' w', Stp E base ι h w ι' h' w' ∧ VRel ι' v v' ∧ (Instr.buildSlice t len parts').run E.P w = .ok v' w' := by
  unfold doBuildSlice at hd
  split at hd
  · rename_i e hu
    split at hd
    · rename_i n z hn hz
      cases hb : (Nat.ble (Nat.mul len n) 16777216 && Nat.beq z.length n) <;> rw [hb] at hd <;> simp only [cond_true, cond_false, reduceCtorEq] at hd
      rw [Bool.and_eq_true] at hb
      have hle := ble_true hb.1
      have hzl := nbeq_iff hb.2
      simp only [Nat.mul_eq] at hle
      obtain ⟨zv, hzr, hzrun⟩ := zeroA_run hz ι
      split at hd
      · rename_i cs hcs
        have hzero : ∃ zs : Array Value, VRels ι (repl len z) ((Array.range (len * n)).map (zs[· % zs.size]!)).toList ∧ (len * n = 0 → zs = #[]) ∧ (¬ len * n = 0 → zs = zv.cells) := by
          by_cases h0 : len * n = 0
          · refine ⟨#[], ?_, fun _ => rfl, fun h => absurd h0 h⟩
            have := (repl_spec z len).1
            rw [hzl, h0] at this
            rw [List.eq_nil_of_length_eq_zero this, h0]
            simp [VRels]
          · exact ⟨zv.cells, repl_rel hzr len n hzl, fun h => absurd h h0, fun _ => rfl⟩
        obtain ⟨zs, hzs, hzs1, hzs2⟩ := hzero
        obtain ⟨R, hR, hrel⟩ := fillA_ok (place' := fun i => some (i * n, n)) (fun i => rfl) parts parts'.toList _ cs _ hp hzs hcs
        have hlen : R.size = cs.length := by have := hrel.length; simpa using this
        have hn' : h.next < h'.next := by
          obtain ⟨next, tr⟩ := h
          obtain ⟨t', h1, _⟩ := trOf_spec cs 0 .nil (fun t0 n0 => tr.setK (some (.cells e n0 t0 false true)) next fun tr' => VRes.ok (.sl next 0 len n true) ⟨Nat.succ next, tr'⟩)
          simp only [newCells] at hd
          rw [h1, Tr.setK_eq] at hd; cases hd; exact Nat.lt_succ_self _
        have hfr := hf h.next (Nat.le_refl _) hn'
        obtain ⟨tr', h1, h2⟩ := newCells_ok H (ty := e) (ex := true) (l := cs) (f := fun b h' => .ok (.sl b 0 len n true) h') hfr (get_of_rels hrel) (by omega) (fun _ => hlen) (w' := { w with heap := w.heap.push (.cells R e) }) rfl rfl rfl rfl
        rw [h1] at hd; cases hd
        have hcslen : cs.length = len * n := by
          have hfl : ∀ (ps : List (Nat × AV)) (c r : List AV), fillA (fun i => some (Nat.mul i n, n)) c ps = some r → r.length = c.length := by
            intro ps
            induction ps with
            | nil => intro c r e; simp only [fillA, Option.some.injEq] at e; rw [e]
            | cons p ps ih =>
              intro c r e
              obtain ⟨i, x⟩ := p
              simp only [fillA] at e
              cases hb : (x.known && Nat.beq x.cells.length n && Nat.ble (Nat.add (Nat.mul i n) x.cells.length) c.length) <;> rw [hb] at e <;> simp only [cond_true, cond_false, reduceCtorEq] at e
              rw [Bool.and_eq_true] at hb
              rw [ih _ _ e]; exact (putRange_get c _ _ (ble_true hb.2)).1
          rw [hfl _ _ _ hcs, (repl_spec z len).1, hzl]
        refine ⟨_, .slice (some ⟨w.heap.size, 0, none⟩) len len, _, h2, ?_, ?_⟩
        · simp only [VRel]
          exact ⟨_, _, _, rfl, Nat.le_refl _, fun _ => rfl, Inj.upd_same _ _ _, .inr ⟨rfl, by simp only [Nat.zero_add]; omega⟩⟩
        · have hsmall : ¬ (len * n > 2 ^ 24) := by simp only [gt_iff_lt]; omega
          simp only [Instr.buildSlice, Sem.run_bind, run_underlying hu, Result.andThen_ok, szA_run hn, hsmall, if_false]
          by_cases h0 : len * n = 0
          · obtain rfl := hzs1 h0
            simp only [if_pos h0, Sem.run_bind, Sem.run_pure, Result.andThen_ok]
            rw [hR]
            simp only [newRow, Sem.run_bind, run_newObj, Result.andThen_ok, Sem.run_pure]
          · obtain rfl := hzs2 h0
            simp only [if_neg h0, Sem.run_bind, hzrun, Sem.run_pure, Result.andThen_ok]
            rw [hR]
            simp only [newRow, Sem.run_bind, run_newObj, Result.andThen_ok, Sem.run_pure]
      · cases hd
    · cases hd
  · cases hd

end
end Ev
end Go.Proofs.YtodemhmfnokomaaGreatDoor
namespace Go.Proofs.YtodemhmfnokomaaGreatDoor
namespace Ev
open Go

theorem newCells_next {ty : TypeId} {ex : Bool} {h : Heap} {l : List AV} {f : Nat → AV} {v : AV} {h' : Heap} (hd : newCells ty ex h l (fun b h' => .ok (f b) h') = .ok v h') : h.next < h'.next ∧ h.next + 1 = h'.next := by
  obtain ⟨next, tr⟩ := h
  obtain ⟨t', h1, _⟩ := trOf_spec l 0 .nil (fun t0 n0 => tr.setK (some (.cells ty n0 t0 false ex)) next fun tr' => VRes.ok (f next) ⟨Nat.succ next, tr'⟩)
  simp only [newCells] at hd
  rw [h1, Tr.setK_eq] at hd; cases hd; exact ⟨Nat.lt_succ_self _, rfl⟩

section
variable {E : Env} {base : Nat} {ι : Inj} {h : Heap} {w : World}

theorem wrap_i64 (n : Nat) (h : n ≤ 9223372036854775807) : IntKind.i64.wrap (n : Int) = n := wrap_le .i64 n h

theorem doMakeSlice_ok (H : HRel E base ι h w) {t : TypeId} {len cap : AV} {len' cap' : Value} {v : AV} {h' : Heap} (hd : doMakeSlice E.P t len cap h = .ok v h') (hf : Free ι h.next h'.next) (hl : VRel ι len len') (hc : VRel ι cap cap') :
    ∃ ι' v' w', Stp E base ι h w ι' h' w' ∧ VRel ι' v v' ∧ (Instr.makeSlice t len' cap').run E.P w = .ok v' w' := by
  unfold doMakeSlice at hd
  split at hd
  · rename_i e hu
    split at hd
    · rename_i n z i k1 l k2 c hn hz hi
      obtain rfl := hl.nat_inv
      obtain rfl := hc.nat_inv
      cases hb : (Nat.ble l c && Nat.ble (Nat.mul c i.bytes) 140737488355328 && Nat.ble c 140737488355328 && Nat.beq z.length n) <;> rw [hb] at hd <;> simp only [cond_true, cond_false, reduceCtorEq] at hd
      rw [Bool.and_eq_true, Bool.and_eq_true, Bool.and_eq_true] at hb
      obtain ⟨⟨⟨b1, b2⟩, b3⟩, b4⟩ := hb
      have c1 := ble_true b1; have c2 := ble_true b2; have c3 := ble_true b3; have hzl := nbeq_iff b4
      simp only [Nat.mul_eq] at c2
      obtain ⟨hlt, _⟩ := newCells_next hd
      have hfr := hf h.next (Nat.le_refl _) hlt
      obtain ⟨zv, hzr, hzrun⟩ := zeroA_run hz ι
      have hzero : ∃ zs : Array Value, VRels ι (repl c z) ((Array.range (c * n)).map (zs[· % zs.size]!)).toList ∧ (c * n = 0 → zs = #[]) ∧ (¬ c * n = 0 → zs = zv.cells) := by
        by_cases h0 : c * n = 0
        · refine ⟨#[], ?_, fun _ => rfl, fun h => absurd h0 h⟩
          have := (repl_spec z c).1
          rw [hzl, h0] at this
          rw [List.eq_nil_of_length_eq_zero this, h0]
          simp [VRels]
        · exact ⟨zv.cells, repl_rel hzr c n hzl, fun h => absurd h h0, fun _ => rfl⟩
      obtain ⟨zs, hzs, hzs1, hzs2⟩ := hzero
      have hsize : ((Array.range (c * n)).map (zs[· % zs.size]!)).size = c * n := by simp
      have hrl : (repl c z).length = c * n := by rw [(repl_spec z c).1, hzl]
      obtain ⟨tr', h1, h2⟩ := newCells_ok H (ty := e) (ex := true) (l := repl c z) (f := fun b h' => .ok (.sl b 0 l n (Nat.beq l c)) h') hfr (get_of_rels hzs) (by omega) (fun _ => by omega)
        (w' := { w with heap := w.heap.push (.cells ((Array.range (c * n)).map (zs[· % zs.size]!)) e) }) rfl rfl rfl rfl
      rw [h1] at hd; cases hd
      refine ⟨_, .slice (some ⟨w.heap.size, 0, none⟩) l c, _, h2, ?_, ?_⟩
      · simp only [VRel]
        exact ⟨_, _, _, rfl, c1, fun e => (nbeq_iff e).symm, Inj.upd_same _ _ _, .inr ⟨rfl, by simp only [Nat.zero_add]; omega⟩⟩
      · have hti : ∀ w, (typeInfo e).run E.P w = .ok i w := fun w => by simp [typeInfo, hi]
        have w1 : IntKind.i64.wrap (Int.ofNat l) = l := wrap_i64 l (by omega)
        have w2 : IntKind.i64.wrap (Int.ofNat c) = c := wrap_i64 c (by omega)
        have t1 : (decide ((c : Int) < 0) || decide ((i.bytes : Int) * (c : Int) > 2 ^ 48)) = false := by
          have : (i.bytes : Int) * (c : Int) = ((c * i.bytes : Nat) : Int) := by rw [Nat.mul_comm]; simp
          rw [this]
          simp only [Bool.or_eq_false_iff, decide_eq_false_iff_not]
          omega
        have t2 : decide ((l : Int) < 0) = false := by simp
        have t3 : decide ((l : Int) > (c : Int)) = false := by simp; omega
        simp only [Instr.makeSlice, Sem.run_bind, run_underlying hu, Result.andThen_ok, asInt, asIntOf, Sem.run_pure, hti, w1, w2, t1, t2, t3, Bool.or_false, Bool.false_eq_true, if_false, run_askRoom, Int.toNat_natCast, szA_run hn]
        by_cases h0 : c * n = 0
        · obtain rfl := hzs1 h0
          simp only [if_pos h0, Sem.run_bind, Sem.run_pure, Result.andThen_ok, newRow, run_newObj]
        · obtain rfl := hzs2 h0
          simp only [if_neg h0, Sem.run_bind, hzrun, Sem.run_pure, Result.andThen_ok, newRow, run_newObj]
    · cases hd
  · cases hd

/-- the operands of a slice expression -/
def ORel (ι : Inj) : Option AV → Option Value → Prop
  | none, o => o = none
  | some x, o => ∃ v, o = some v ∧ VRel ι x v

theorem bound_ok {x : Option AV} {x' : Option Value} {d n : Nat} (h : bound x d = some n) (hx : ORel ι x x') : (x' = none ∧ n = d) ∨ ∃ k, x' = some (.int k (Int.ofNat n)) := by
  unfold bound at h
  split at h
  · cases h; exact .inl ⟨hx, rfl⟩
  · rename_i k m
    cases h
    obtain ⟨v, rfl, hv⟩ := hx
    exact .inr ⟨k, by rw [hv.nat_inv]⟩
  · cases h

theorem sliceBound_ok {P : Program} (k : IntKind) (n y : Nat) (code : BoundsCode) (h : n ≤ y) (w : World) : (Instr.sliceBound (.int k (Int.ofNat n)) y code).run P w = .ok n w := by
  have h0 : (0 : Int) ≤ (n : Int) ∧ (n : Int) ≤ (y : Int) := by omega
  simp only [Instr.sliceBound, asIntOf, Sem.run_bind, Sem.run_pure, Result.andThen_ok, Int.ofNat_eq_natCast, h0, and_self, if_true, Int.toNat_natCast]

theorem sliceBounds_two {P : Program} {isS : Bool} {lo hi : Option AV} {lo' hi' : Option Value} {len cap l r : Nat} (h1 : bound lo 0 = some l) (h2 : bound hi len = some r) (hlo : ORel ι lo lo') (hhi : ORel ι hi hi') (hrc : r ≤ cap) (hlr : l ≤ r) (w : World) :
    (Instr.sliceBounds isS len cap lo' hi' none).run P w = .ok (l, r, cap) w := by
  rcases bound_ok h2 hhi with ⟨rfl, rfl⟩ | ⟨k, rfl⟩ <;> rcases bound_ok h1 hlo with ⟨rfl, rfl⟩ | ⟨k', rfl⟩
  · rfl
  · simp only [Instr.sliceBounds, Sem.run_bind, Sem.run_pure, Result.andThen_ok, sliceBound_ok k' l _ _ hlr]
  · simp only [Instr.sliceBounds, Sem.run_bind, Sem.run_pure, Result.andThen_ok, sliceBound_ok k r cap _ hrc]
  · simp only [Instr.sliceBounds, Sem.run_bind, Sem.run_pure, Result.andThen_ok, sliceBound_ok k r cap _ hrc, sliceBound_ok k' l _ _ hlr]

theorem sliceBounds_three {P : Program} {isS : Bool} {lo hi : Option AV} {lo' hi' : Option Value} {len cap l r m : Nat} {k : IntKind} (h1 : bound lo 0 = some l) (h2 : bound hi len = some r) (hlo : ORel ι lo lo') (hhi : ORel ι hi hi') (hh : hi' ≠ none) (hrm : r ≤ m) (hmc : m ≤ cap) (hlr : l ≤ r) (w : World) :
    (Instr.sliceBounds isS len cap lo' hi' (some (.int k (Int.ofNat m)))).run P w = .ok (l, r, m) w := by
  obtain ⟨k', rfl⟩ : ∃ k', hi' = some (.int k' (Int.ofNat r)) := by
    rcases bound_ok h2 hhi with ⟨rfl, _⟩ | h
    · exact absurd rfl hh
    · exact h
  rcases bound_ok h1 hlo with ⟨rfl, rfl⟩ | ⟨k2, rfl⟩
  · simp only [Instr.sliceBounds, Sem.run_bind, Sem.run_pure, Result.andThen_ok, sliceBound_ok k m cap _ hmc, sliceBound_ok k' r m _ hrm]
  · simp only [Instr.sliceBounds, Sem.run_bind, Sem.run_pure, Result.andThen_ok, sliceBound_ok k m cap _ hmc, sliceBound_ok k' r m _ hrm, sliceBound_ok k2 l r _ hlr]

/-- part of a slice -/
theorem sub_slice {b o sz l r m : Nat} {c : Nat} {a : Addr} {g : Gh} (hg : ι b = some g) (hc : c = 0 ∨ (a = ⟨g.cb, g.co + o, none⟩ ∧ g.co + o + c * sz ≤ g.cs)) (hlr : l ≤ r) (hrm : r ≤ m) (hmc : m ≤ c) (f : Bool) (hfull : f = true → m = r) :
    VRel ι (.sl b (o + l * sz) (r - l) sz f) (.slice (if m = l then some a else (some a).map (·.add (l * sz))) (r - l) (m - l)) := by
  simp only [VRel]
  by_cases hml : m = l
  · rw [if_pos hml]
    refine ⟨a, m - l, g, rfl, by omega, fun e => by rw [hfull e], hg, .inl (by omega)⟩
  · rw [if_neg hml]
    rcases hc with hc | ⟨rfl, hc⟩
    · omega
    · refine ⟨_, m - l, g, rfl, by omega, fun e => by rw [hfull e], hg, .inr ⟨by show Addr.add _ _ = _; rw [addr_add]; congr 1; omega, ?_⟩⟩
      have : (l + (m - l)) * sz ≤ c * sz := Nat.mul_le_mul_right _ (by omega)
      rw [Nat.add_mul] at this
      omega

theorem doSlice_ok (H : HRel E base ι h w) {t : TypeId} {x : AV} {lo hi mx : Option AV} {x' : Value} {lo' hi' mx' : Option Value} {v : AV} {h' : Heap} (hd : doSlice E.P t x lo hi mx h = .ok v h') (hx : VRel ι x x') (hlo : ORel ι lo lo') (hhi : ORel ι hi hi') (hmx : ORel ι mx mx') :
    h' = h ∧ ∃ v', VRel ι v v' ∧ (Instr.sliceAt t x' lo' hi' mx').run E.P w = .ok v' w := by
  unfold doSlice at hd
  split at hd
  · -- strings
    rename_i hu
    split at hd
    · rename_i len c
      obtain rfl : mx' = none := hmx
      split at hd
      · rename_i l r hl hr
        cases hb : (Nat.ble r len && Nat.ble l r) <;> rw [hb] at hd <;> simp only [cond_true, cond_false, reduceCtorEq] at hd
        rw [Bool.and_eq_true] at hb
        have b1 := ble_true hb.1; have b2 := ble_true hb.2
        rw [forceN_eq, forceN_eq] at hd; cases hd
        obtain ⟨s, rfl, rfl, rfl⟩ := hx.str_inv
        refine ⟨rfl, .string (s.extract l r), ?_, ?_⟩
        · have hlen := size_len s
          have e0 : (s.extract l r).data.toList = (s.data.toList.drop l).take (r - l) := by
            rw [ByteArray.data_extract]; simp
          refine VRel.ofStr' ι _ ?_ ?_
          · rw [← size_len, e0]; simp; omega
          · rw [e0, strCode_piece _ _ _ b2 (by omega), hlen]; rfl
        · simp only [Instr.sliceAt, Sem.run_bind, run_underlying hu, Result.andThen_ok, Instr.slice]
          rw [if_neg (by simp)]
          simp only [Sem.run_bind, sliceBounds_two (P := E.P) hl hr hlo hhi b1 b2, Result.andThen_ok, Sem.run_pure]
      · cases hd
    · cases hd
  · -- slices
    rename_i e hu
    split at hd
    · rename_i z b o len sz full hz
      have hx0 := hx
      simp only [VRel] at hx
      obtain ⟨a, c, g, rfl, hc1, hc2, hg, hc3⟩ := hx
      split at hd
      · rename_i l r hl hr
        obtain rfl : mx' = none := hmx
        cases hb : (Nat.ble r len && Nat.ble l r && Nat.beq z sz) <;> rw [hb] at hd <;> simp only [cond_true, cond_false, reduceCtorEq] at hd
        rw [Bool.and_eq_true, Bool.and_eq_true] at hb
        have b1 := ble_true hb.1.1; have b2 := ble_true hb.1.2
        obtain rfl := nbeq_iff hb.2
        rw [forceN_eq, forceN_eq] at hd; cases hd
        refine ⟨rfl, _, sub_slice hg hc3 b2 (Nat.le_trans b1 hc1) (Nat.le_refl c) _ (fun e => ?_), ?_⟩
        · rw [Bool.and_eq_true] at e
          rw [hc2 e.1]; exact (nbeq_iff e.2).symm
        · simp only [Instr.sliceAt, Sem.run_bind, run_underlying hu, Result.andThen_ok, Instr.slice, sliceBounds_two (P := E.P) hl hr hlo hhi (Nat.le_trans b1 hc1) b2, szA_run hz, Sem.run_pure]
      · rename_i l r k m hl hr
        obtain ⟨mv, rfl, hmv⟩ := hmx
        obtain rfl := hmv.nat_inv
        cases hb : (hi.isSome && Nat.ble r m && Nat.ble m len && Nat.ble l r && Nat.beq z sz) <;> rw [hb] at hd <;> simp only [cond_true, cond_false, reduceCtorEq] at hd
        rw [Bool.and_eq_true, Bool.and_eq_true, Bool.and_eq_true, Bool.and_eq_true] at hb
        have b1 := ble_true hb.1.1.1.2; have b2 := ble_true hb.1.1.2; have b3 := ble_true hb.1.2
        obtain rfl := nbeq_iff hb.2
        have hhi' : hi' ≠ none := by
          cases hi with
          | none => exact absurd hb.1.1.1.1 (by simp)
          | some y => obtain ⟨y', rfl, _⟩ := hhi; simp
        rw [forceN_eq, forceN_eq] at hd; cases hd
        refine ⟨rfl, _, sub_slice hg hc3 b3 b1 (Nat.le_trans b2 hc1) _ (fun e => (nbeq_iff e).symm), ?_⟩
        simp only [Instr.sliceAt, Sem.run_bind, run_underlying hu, Result.andThen_ok, Instr.slice, sliceBounds_three (P := E.P) hl hr hlo hhi hhi' b1 (Nat.le_trans b2 hc1) b3, szA_run hz, Sem.run_pure]
      · cases hd
    · rename_i hz
      simp only [VRel] at hx; subst hx
      split at hd
      · rename_i hl hr
        obtain rfl : mx' = none := hmx
        cases hd
        refine ⟨rfl, .slice none 0 0, by simp only [VRel], ?_⟩
        rename_i z
        simp only [Instr.sliceAt, Sem.run_bind, run_underlying hu, Result.andThen_ok, Instr.slice, sliceBounds_two (P := E.P) hl hr hlo hhi (Nat.le_refl 0) (Nat.le_refl 0), szA_run hz, Sem.run_pure]
        rfl
      · cases hd
    · cases hd
  · -- an array behind its address
    rename_i len e hu
    split at hd
    · rename_i z b o hz
      obtain rfl : mx' = none := hmx
      simp only [VRel] at hx
      obtain ⟨g, hg, rfl⟩ := hx
      split at hd
      · rename_i l r hl hr
        cases hb : (Nat.ble r len && Nat.ble l r && holds h b (Nat.add o (Nat.mul len z))) <;> rw [hb] at hd <;> simp only [cond_true, cond_false, reduceCtorEq] at hd
        rw [Bool.and_eq_true, Bool.and_eq_true] at hb
        have b1 := ble_true hb.1.1; have b2 := ble_true hb.1.2
        have b3 : g.co + o + len * z ≤ g.cs := by
          have hh := hb.2
          unfold holds at hh
          split at hh
          · rename_i ty size tt ro ex hbb
            have := ble_true hh
            obtain ⟨C, fr, _, _, h3, _⟩ := H.rel_of hbb hg
            simp only [Nat.add_eq, Nat.mul_eq] at this
            omega
          · cases hh
        rw [forceN_eq, forceN_eq] at hd; cases hd
        refine ⟨rfl, _, sub_slice (c := len) hg (.inr ⟨rfl, b3⟩) b2 b1 (Nat.le_refl len) _ (fun e => (nbeq_iff e).symm), ?_⟩
        simp only [Instr.sliceAt, Sem.run_bind, run_underlying hu, Result.andThen_ok, Instr.sureAddr, Sem.run_pure, sliceBounds_two (P := E.P) hl hr hlo hhi b1 b2, szA_run hz]
        by_cases hml : len = l
        · simp only [if_pos hml]
        · simp only [if_neg hml]; rfl
      · cases hd
    · cases hd
  · rename_i arr hu
    split at hd
    · rename_i len e hu2
      split at hd
      · rename_i z b o hz
        obtain rfl : mx' = none := hmx
        simp only [VRel] at hx
        obtain ⟨g, hg, rfl⟩ := hx
        split at hd
        · rename_i l r hl hr
          cases hb : (Nat.ble r len && Nat.ble l r && holds h b (Nat.add o (Nat.mul len z))) <;> rw [hb] at hd <;> simp only [cond_true, cond_false, reduceCtorEq] at hd
          rw [Bool.and_eq_true, Bool.and_eq_true] at hb
          have b1 := ble_true hb.1.1; have b2 := ble_true hb.1.2
          have b3 : g.co + o + len * z ≤ g.cs := by
            have hh := hb.2
            unfold holds at hh
            split at hh
            · rename_i ty size tt ro ex hbb
              have := ble_true hh
              obtain ⟨C, fr, _, _, h3, _⟩ := H.rel_of hbb hg
              simp only [Nat.add_eq, Nat.mul_eq] at this
              omega
            · cases hh
          rw [forceN_eq, forceN_eq] at hd; cases hd
          refine ⟨rfl, _, sub_slice (c := len) hg (.inr ⟨rfl, b3⟩) b2 b1 (Nat.le_refl len) _ (fun e => (nbeq_iff e).symm), ?_⟩
          simp only [Instr.sliceAt, Sem.run_bind, run_underlying hu, run_underlying hu2, Result.andThen_ok, Instr.slice, asAddr, Sem.run_pure, sliceBounds_two (P := E.P) hl hr hlo hhi b1 b2, szA_run hz]
          by_cases hml : len = l
          · simp only [if_pos hml]
          · simp only [if_neg hml]; rfl
        · cases hd
      · cases hd
    · cases hd
  · cases hd

end
end Ev
end Go.Proofs.YtodemhmfnokomaaGreatDoor
