/- Regions that draw their order, second part; the evaluator is right. Conditions: the plans are checked; what is said of idle functions and summaries. -/
import Derived.Test.YtodemhmfnokomaaGreatDoorEvG
import Derived.OrdersIn
namespace Go.Proofs.YtodemhmfnokomaaGreatDoor
namespace Ev
open Go

def directs (ops : Array Oper) (i : Nat) : List Nat := match ops[i]? with
  | some o => (o.after.toList.filter (Region.binds .any)).map (·.on)
  | none => []

/-- j stands before i in every order -/
inductive Prec (ops : Array Oper) : Nat → Nat → Prop
  | one {j i : Nat} : j ∈ directs ops i → Prec ops j i
  | step {j m i : Nat} : Prec ops j m → m ∈ directs ops i → Prec ops j i

def looks (ops : Array Oper) (o : Oper) : Option Tmp → Bool
  | some t => (Oper.looksAt ops o).contains t
  | none => false

def okDst : Option Tmp → Option Tmp → Bool
  | some s, some t => not (Nat.beq s t)
  | _, _ => true

/-- p is listed before q -/
def okPair (ops : Array Oper) (anc : List Nat) (p q : PI) : Bool :=
  not (Nat.beq p.i q.i) && okDst p.o.dst q.o.dst && ((not (isChain q.kd) && not (looks ops q.o p.o.dst) && not (looks ops p.o q.o.dst)) || hasBit (natAt anc q.i) p.i)

def okPairs (ops : Array Oper) (anc : List Nat) : List PI → Bool
  | [] => true
  | p :: r => r.all (okPair ops anc p) && okPairs ops anc r

def firstIn : Nat → List PI → Nat → Bool
  | 0, _, _ => true
  | _ + 1, [], _ => false
  | n + 1, c :: r, m => hasBit m c.i && firstIn n r m

def okRead (anc : List Nat) (chain : List PI) (p : PI) : Bool := match p.kd with
  | .read => firstIn p.a chain (natAt anc p.i)
  | _ => true

def planOk (ops : Array Oper) : Bool :=
  let pl := plan ops
  let anc := (Region.before ops).toList
  okPairs ops anc pl && pl.all (okRead anc (pl.filter fun p => isChain p.kd)) && (List.range ops.size).all (fun i => pl.any fun p => Nat.beq p.i i) &&
    (List.range ops.size).all fun i => (directs ops i).all fun j => Nat.blt j i

section
variable {ops : Array Oper}

theorem hasBit_eq (m i : Nat) : hasBit m i = m.testBit i := by
  rw [Nat.testBit_eq_decide_div_mod_eq, hasBit, nbeq_decide]
  rfl

theorem mem_directs {o : Oper} {i : Nat} (ho : ops[i]? = some o) {e : Edge} (he : e ∈ o.after.toList) (hb : Region.binds .any e = true) : e.on ∈ directs ops i := by
  unfold directs
  rw [ho]
  exact List.mem_map.2 ⟨e, List.mem_filter.2 ⟨he, hb⟩, rfl⟩

theorem before_prec (ops : Array Oper) : ∀ i j, ((Region.before ops).getD i 0).testBit j = true → Prec ops j i := by
  unfold Region.before
  have key := Array.foldl_induction (as := ops) (motive := fun n (acc : Array Nat) => acc.size = n ∧ ∀ i j, (acc.getD i 0).testBit j = true → Prec ops j i) (init := #[])
    ⟨rfl, fun i j h => by simp at h⟩
    (f := fun acc o => acc.push (o.after.foldl (fun s e => if Region.binds .any e then s ||| 2 ^ e.on ||| acc.getD e.on 0 else s) 0)) (by
      intro i acc ⟨hs, ih⟩
      refine ⟨by rw [Array.size_push, hs], fun k j hk => ?_⟩
      have ho : ops[i.val]? = some ops[i.val] := by simp
      rw [Array.getD_eq_getD_getElem?, Array.getElem?_push] at hk
      split at hk
      · rename_i e
        rw [e, hs]
        simp only [Option.getD_some] at hk
        revert hk
        have inner := Array.foldl_induction (as := ops[i.val].after) (motive := fun _ (s : Nat) => s.testBit j = true → Prec ops j i.val) (init := 0) (fun h => by simp at h)
          (f := fun s e => if Region.binds .any e then s ||| 2 ^ e.on ||| acc.getD e.on 0 else s) (by
            intro n s ihs h
            have he : ops[i.val].after[n.val] ∈ ops[i.val].after.toList := by simp
            split at h
            · rename_i hb
              rw [Nat.testBit_or, Nat.testBit_or, Bool.or_eq_true, Bool.or_eq_true] at h
              rcases h with (h | h) | h
              · exact ihs h
              · rw [Nat.testBit_two_pow, decide_eq_true_eq] at h
                exact h ▸ .one (mem_directs ho he hb)
              · exact .step (ih _ _ h) (mem_directs ho he hb)
            · exact ihs h)
        exact inner
      · exact ih k j (by rw [Array.getD_eq_getD_getElem?]; exact hk))
  exact key.2

theorem natAt_eq : ∀ (l : List Nat) (i : Nat), natAt l i = l[i]?.getD 0
  | [], i => by simp [natAt]
  | x :: l, 0 => by simp [natAt]
  | x :: l, i + 1 => by simp only [natAt, List.getElem?_cons_succ]; exact natAt_eq l i

theorem anc_prec {i j : Nat} (h : hasBit (natAt (Region.before ops).toList i) j = true) : Prec ops j i := by
  refine before_prec ops i j ?_
  rw [hasBit_eq, natAt_eq, Array.getElem?_toList] at h
  rw [Array.getD_eq_getD_getElem?]
  exact h

theorem items_ok (ops : List Oper) (anc ch : List Nat) : ∀ (l : List Nat) (p : PI), p ∈ items ops anc ch l → ops[p.i]? = some p.o ∧ p.kd = kindOf p.o.op
  | [], p, h => by simp [items] at h
  | i :: r, p, h => by
    simp only [items] at h
    split at h
    · rename_i o ho
      rcases List.mem_cons.1 h with rfl | h
      · rw [nthO_eq] at ho; exact ⟨ho, rfl⟩
      · exact items_ok ops anc ch r p h
    · exact items_ok ops anc ch r p h

theorem plan_item {p : PI} (h : p ∈ plan ops) : ops[p.i]? = some p.o ∧ p.kd = kindOf p.o.op := by
  have := items_ok _ _ _ _ p h
  rw [Array.getElem?_toList] at this
  exact this

theorem okPairs_split {anc : List Nat} : ∀ {l1 l2 : List PI} {p q : PI}, okPairs ops anc (l1 ++ p :: l2) = true → q ∈ l2 → okPair ops anc p q = true
  | [], l2, p, q, h, hq => by
    simp only [List.nil_append, okPairs, Bool.and_eq_true, List.all_eq_true] at h
    exact h.1 q hq
  | x :: l1, l2, p, q, h, hq => by
    simp only [List.cons_append, okPairs, Bool.and_eq_true] at h
    exact okPairs_split h.2 hq

theorem firstIn_get : ∀ (n : Nat) (l : List PI) (m : Nat), firstIn n l m = true → n ≤ l.length ∧ ∀ i c, i < n → l[i]? = some c → hasBit m c.i = true
  | 0, l, m, _ => ⟨Nat.zero_le _, fun i c h => by omega⟩
  | n + 1, [], m, h => by simp [firstIn] at h
  | n + 1, c :: r, m, h => by
    simp only [firstIn, Bool.and_eq_true] at h
    obtain ⟨h1, h2⟩ := firstIn_get n r m h.2
    refine ⟨by simp; omega, fun i c' hi hc => ?_⟩
    cases i with
    | zero => simp at hc; rw [← hc]; exact h.1
    | succ i => simp at hc; exact h2 i c' (by omega) hc

/-- what the check says -/
structure PlanSpec (ops : Array Oper) : Prop where
  item : ∀ p ∈ plan ops, ops[p.i]? = some p.o ∧ p.kd = kindOf p.o.op
  ne : ∀ l1 p l2 q, plan ops = l1 ++ p :: l2 → q ∈ l2 → p.i ≠ q.i
  dst : ∀ l1 p l2 q t, plan ops = l1 ++ p :: l2 → q ∈ l2 → p.o.dst = some t → q.o.dst ≠ some t
  chain : ∀ l1 p l2 q, plan ops = l1 ++ p :: l2 → q ∈ l2 → isChain q.kd = true → Prec ops p.i q.i
  raw : ∀ l1 p l2 q t, plan ops = l1 ++ p :: l2 → q ∈ l2 → p.o.dst = some t → t ∈ Oper.looksAt ops q.o → Prec ops p.i q.i
  war : ∀ l1 p l2 q t, plan ops = l1 ++ p :: l2 → q ∈ l2 → q.o.dst = some t → t ∈ Oper.looksAt ops p.o → Prec ops p.i q.i
  read : ∀ p ∈ plan ops, p.kd = .read → p.a ≤ ((plan ops).filter fun p => isChain p.kd).length ∧ ∀ i c, i < p.a → ((plan ops).filter fun p => isChain p.kd)[i]? = some c → Prec ops c.i p.i
  all : ∀ i, i < ops.size → ∃ p ∈ plan ops, p.i = i
  down : ∀ i j, i < ops.size → j ∈ directs ops i → j < i

theorem planOk_spec (h : planOk ops = true) : PlanSpec ops := by
  simp only [planOk, Bool.and_eq_true, List.all_eq_true] at h
  obtain ⟨⟨⟨h1, h2⟩, h3⟩, h4⟩ := h
  have pair : ∀ l1 p l2 q, plan ops = l1 ++ p :: l2 → q ∈ l2 → okPair ops (Region.before ops).toList p q = true := fun l1 p l2 q e hq => by
    rw [e] at h1; exact okPairs_split h1 hq
  have third : ∀ p q, okPair ops (Region.before ops).toList p q = true → (isChain q.kd = true ∨ looks ops q.o p.o.dst = true ∨ looks ops p.o q.o.dst = true) → Prec ops p.i q.i := by
    intro p q hp ho
    simp only [okPair, Bool.and_eq_true, Bool.or_eq_true, Bool.not_eq_true'] at hp
    rcases hp.2 with ⟨⟨k1, k2⟩, k3⟩ | k
    · rcases ho with ho | ho | ho
      · rw [k1] at ho; cases ho
      · rw [k2] at ho; cases ho
      · rw [k3] at ho; cases ho
    · exact anc_prec k
  refine ⟨fun p hp => plan_item hp, ?_, ?_, ?_, ?_, ?_, ?_, ?_, ?_⟩
  · intro l1 p l2 q e hq hn
    have := pair l1 p l2 q e hq
    simp only [okPair, Bool.and_eq_true, Bool.not_eq_true'] at this
    exact nbeq_ne this.1.1 hn
  · intro l1 p l2 q t e hq hp hn
    have := pair l1 p l2 q e hq
    simp only [okPair, Bool.and_eq_true] at this
    have := this.1.2
    rw [hp, hn] at this
    simp only [okDst, Bool.not_eq_true'] at this
    exact nbeq_ne this rfl
  · exact fun l1 p l2 q e hq hc => third p q (pair l1 p l2 q e hq) (.inl hc)
  · exact fun l1 p l2 q t e hq hp ht => third p q (pair l1 p l2 q e hq) (.inr (.inl (by rw [hp]; simpa [looks] using ht)))
  · exact fun l1 p l2 q t e hq hp ht => third p q (pair l1 p l2 q e hq) (.inr (.inr (by rw [hp]; simpa [looks] using ht)))
  · intro p hp hk
    have := h2 p hp
    simp only [okRead, hk] at this
    obtain ⟨k1, k2⟩ := firstIn_get _ _ _ this
    exact ⟨k1, fun i c hi hc => anc_prec (k2 i c hi hc)⟩
  · intro i hi
    have := h3 i (List.mem_range.2 hi)
    simp only [List.any_eq_true] at this
    obtain ⟨p, hp, e⟩ := this
    exact ⟨p, hp, nbeq_iff e⟩
  · intro i j hi hj
    have := h4 i (List.mem_range.2 hi) j hj
    simp [Nat.blt] at this
    omega

end
end Ev
end Go.Proofs.YtodemhmfnokomaaGreatDoor
namespace Go.Proofs.YtodemhmfnokomaaGreatDoor
namespace Ev
open Go

def onL (listed : Array Bool) (i : Nat) : Prop := listed.getD i false = true

section
variable {E : Env} {base : Nat} {callF : CallY} {Y : YF} {ops : Array Oper}

theorem runs_k : ∀ (l : List Sd) (a : AF) (h : Heap) (hs : List Heap) (k : Nat) (aF : AF) (hF : Heap), Runs E callF Y ops l a h hs k aF hF →
    ∀ q ∈ l, q.k ≤ k + (chs l).length ∧ q.Good E callF Y ops
  | [], _, _, _, _, _, _, _, q, hq => by cases hq
  | s :: l, a, h, hs, k, aF, hF, R, q, hq => by
    obtain ⟨e1, e2, e3, e4, hg, a1, ha1, R⟩ := R
    rcases List.mem_cons.1 hq with rfl | hq
    · exact ⟨by omega, hg⟩
    · obtain ⟨h1, h2⟩ := runs_k l _ _ _ _ _ _ R q hq
      rw [chs_cons]
      refine ⟨?_, h2⟩
      cases hc : s.ch <;> simp only [hc, cond_true, cond_false, List.length_cons] at h1 ⊢ <;> omega

theorem mk_next {s : Sd} (hk : s.p.kd = kindOf s.p.o.op) (hg : s.Good E callF Y ops) {B : Blk} (hm : s.Mk ops B) : s.h'.next = s.h.next + 1 := by
  obtain ⟨h1, h2, _⟩ := hm
  rcases hg with ⟨h3, _⟩ | ⟨_, h3⟩
  · rw [h1] at h3; cases h3
  · rw [h2] at h3
    obtain ⟨B, _, h4, _⟩ := make_u s.p.o.op (by rw [← hk, h2]) h3
    rw [h4]

/-- what is fixed while a region runs -/
structure Ctx (E : Env) (base : Nat) (callF : CallY) (Y : YF) (ops : Array Oper) (sts : List Sd) (ι0 : Inj) (a0 : AF) (h0 : Heap) (w0 : World) (aF : AF) (hF : Heap) : Prop where
  spec : PlanSpec ops
  pl : sts.map (·.p) = plan ops
  run : Runs E callF Y ops sts a0 h0 [h0] 0 aF hF
  hC : CallsOk E base callF
  hmC : MonoC callF
  hmY : MonoY Y
  hY : YOk E base ι0 Y
  H0 : HRel E base ι0 h0 w0
  free : Free ι0 h0.next hF.next
  sz : a0.sz ≤ 448

structure Inv (E : Env) (base : Nat) (ops : Array Oper) (sts : List Sd) (ι0 : Inj) (a0 : AF) (h0 : Heap) (w0 : World) (hF : Heap) (listed : Array Bool) (act : Act) (w : World)
    (ι : Inj) (look : Nat → Option Blk) (aS : AF) (c1 c2 : List Sd) : Prop where
  size : listed.size = ops.size
  down : ∀ i, onL listed i → ∀ j ∈ directs ops i, onL listed j
  rs : RS E base ι0 h0 w0 h0.next hF.next ι look w
  cut : chs sts = c1 ++ c2
  on1 : ∀ q ∈ c1, onL listed q.p.i
  on2 : ∀ q ∈ c2, ¬ onL listed q.p.i
  tl : ∀ b B, (Tl c1 h0).tr.get b = some B → b < (Tl c1 h0).next ∧ look b = some B
  mks : ∀ q ∈ sts, ∀ B, onL listed q.p.i → q.Mk ops B → c1.length ≤ q.k → look q.h.next = some B
  free : ∀ q ∈ sts, ¬ onL listed q.p.i → Free ι q.h.next q.h'.next
  fr : FRel ι aS act
  sz : aS.sz = a0.sz
  ds : aS.ds = a0.ds
  slot : ∀ t, (∃ q ∈ sts, onL listed q.p.i ∧ q.p.o.dst = some t ∧ aS.get t = q.v) ∨ ((∀ q ∈ sts, onL listed q.p.i → q.p.o.dst ≠ some t) ∧ aS.get t = a0.get t)

section
variable {sts : List Sd} {ι0 : Inj} {a0 aF : AF} {h0 hF : Heap} {w0 : World}

theorem Ctx.item (C : Ctx E base callF Y ops sts ι0 a0 h0 w0 aF hF) {q : Sd} (hq : q ∈ sts) : q.p ∈ plan ops ∧ ops[q.p.i]? = some q.p.o ∧ q.p.kd = kindOf q.p.o.op := by
  have h : q.p ∈ plan ops := by rw [← C.pl]; exact List.mem_map_of_mem hq
  exact ⟨h, C.spec.item _ h⟩

theorem Ctx.kd (C : Ctx E base callF Y ops sts ι0 a0 h0 w0 aF hF) : KdOk sts := fun _ hq => (C.item hq).2.2

/-- a split of the run is a split of the plan -/
theorem Ctx.before (C : Ctx E base callF Y ops sts ι0 a0 h0 w0 aF hF) {l1 l2 : List Sd} {x q : Sd} (e : sts = l1 ++ x :: l2) (hq : q ∈ l1) : ∃ k1 k2, plan ops = k1 ++ q.p :: k2 ∧ x.p ∈ k2 := by
  obtain ⟨m1, m2, rfl⟩ := List.append_of_mem hq
  refine ⟨m1.map (·.p), m2.map (·.p) ++ x.p :: l2.map (·.p), ?_, by simp⟩
  rw [← C.pl, e]; simp

theorem Ctx.behind (C : Ctx E base callF Y ops sts ι0 a0 h0 w0 aF hF) {l1 l2 : List Sd} {x q : Sd} (e : sts = l1 ++ x :: l2) (hq : q ∈ l2) : ∃ k1 k2, plan ops = k1 ++ x.p :: k2 ∧ q.p ∈ k2 :=
  ⟨l1.map (·.p), l2.map (·.p), by rw [← C.pl, e]; simp, List.mem_map_of_mem hq⟩

theorem Ctx.same_dst (C : Ctx E base callF Y ops sts ι0 a0 h0 w0 aF hF) {q1 q2 : Sd} {t : Tmp} (h1 : q1 ∈ sts) (h2 : q2 ∈ sts) (e1 : q1.p.o.dst = some t) (e2 : q2.p.o.dst = some t) : q1 = q2 := by
  obtain ⟨l1, l2, e⟩ := List.append_of_mem h1
  rw [e] at h2
  rcases List.mem_append.1 h2 with h | h
  · obtain ⟨k1, k2, p1, p2⟩ := C.before e h
    exact absurd e1 (C.spec.dst _ _ _ _ t p1 p2 e2)
  · rcases List.mem_cons.1 h with h | h
    · exact h.symm
    · obtain ⟨k1, k2, p1, p2⟩ := C.behind e h
      exact absurd e2 (C.spec.dst _ _ _ _ t p1 p2 e1)

theorem Ctx.same_i (C : Ctx E base callF Y ops sts ι0 a0 h0 w0 aF hF) {q1 q2 : Sd} (h1 : q1 ∈ sts) (h2 : q2 ∈ sts) (e : q1.p.i = q2.p.i) : q1 = q2 := by
  obtain ⟨l1, l2, e1⟩ := List.append_of_mem h1
  rw [e1] at h2
  rcases List.mem_append.1 h2 with h | h
  · obtain ⟨k1, k2, p1, p2⟩ := C.before e1 h
    exact absurd e.symm (C.spec.ne _ _ _ _ p1 p2)
  · rcases List.mem_cons.1 h with h | h
    · exact h.symm
    · obtain ⟨k1, k2, p1, p2⟩ := C.behind e1 h
      exact absurd e (C.spec.ne _ _ _ _ p1 p2)

/-- where a step's new blocks lie -/
theorem Ctx.apart (C : Ctx E base callF Y ops sts ι0 a0 h0 w0 aF hF) {l1 l2 : List Sd} {x : Sd} (e : sts = l1 ++ x :: l2) :
    (∀ q ∈ l1, q.h'.next ≤ x.h.next) ∧ (∀ q ∈ l2, x.h'.next ≤ q.h.next) ∧ h0.next ≤ x.h.next ∧ x.h.next ≤ x.h'.next ∧ x.h'.next ≤ hF.next := by
  have R := C.run
  rw [e] at R
  obtain ⟨a1, h1, R1, R2⟩ := runs_append _ _ _ _ _ _ _ _ R
  obtain ⟨p1, p2⟩ := runs_mono C.hmC C.hmY _ _ _ _ _ _ _ R1
  obtain ⟨e1, e2, _, _, hg, a2, _, R3⟩ := R2
  obtain ⟨p3, p4⟩ := runs_mono C.hmC C.hmY _ _ _ _ _ _ _ R3
  exact ⟨fun q hq => by rw [e2]; exact (p2 q hq).2.2, fun q hq => (p4 q hq).1, by rw [e2]; exact p1, good_mono C.hmC C.hmY hg, p3⟩

theorem onL_set {listed : Array Bool} {i j : Nat} (hi : i < listed.size) : onL (listed.setIfInBounds i true) j ↔ onL listed j ∨ j = i := by
  unfold onL
  rw [Array.getD_eq_getD_getElem?, Array.getD_eq_getD_getElem?, Array.getElem?_setIfInBounds]
  split
  · rename_i e; subst e; simp
  · rename_i e
    constructor
    · exact .inl
    · rintro (h | h)
      · exact h
      · exact absurd h.symm e

theorem down_prec {listed : Array Bool} (hd : ∀ i, onL listed i → ∀ j ∈ directs ops i, onL listed j) {i j : Nat} (hp : Prec ops j i) : onL listed i → onL listed j := by
  induction hp with
  | one h => exact fun hi => hd _ hi _ h
  | step _ h ih => exact fun hi => ih (hd _ hi _ h)

/-- what a ready operation has behind it -/
theorem ready_spec {listed : Array Bool} {i : Nat} (h : i ∈ Region.ready .any ops listed) : i < ops.size ∧ (∃ o, ops[i]? = some o) ∧ listed.getD i true = false ∧ ∀ j ∈ directs ops i, onL listed j := by
  obtain ⟨h1, h2⟩ := List.mem_filter.1 h
  have hi := List.mem_range.1 h1
  simp only [Bool.and_eq_true, Bool.not_eq_true'] at h2
  have ho : ops[i]? = some ops[i] := by simp [hi]
  rw [ho] at h2
  simp only [Option.map_some, Option.getD_some, Array.all_eq_true_iff_forall_mem] at h2
  refine ⟨hi, ⟨_, ho⟩, h2.1, fun j hj => ?_⟩
  unfold directs at hj
  rw [ho] at hj
  obtain ⟨e, he, rfl⟩ := List.mem_map.1 hj
  obtain ⟨he1, he2⟩ := List.mem_filter.1 he
  have := h2.2 e (by simpa using he1)
  simp only [he2, Bool.not_true, Bool.false_or] at this
  exact this

theorem putA_of {a a1 b : AF} {d : Option Tmp} {v : AV} (h : putA a d v = some a1) (e : b.sz = a.sz) : ∃ b1, putA b d v = some b1 := by
  cases d with
  | none => exact ⟨b, rfl⟩
  | some t =>
    obtain ⟨sz, m, ds⟩ := a
    obtain ⟨sz', m', ds'⟩ := b
    simp only at e
    subst e
    simp only [putA, putK] at h ⊢
    cases hb : Nat.ble (Nat.succ t) sz' <;> rw [hb] at h <;> simp only [cond_true, cond_false, reduceCtorEq] at h ⊢
    rw [tmpsSetK_eq]
    exact ⟨_, rfl⟩

/-- one step taken -/
theorem Inv.advance (C : Ctx E base callF Y ops sts ι0 a0 h0 w0 aF hF) {listed : Array Bool} {act : Act} {w : World} {ι : Inj} {look : Nat → Option Blk} {aS : AF} {c1 c2 : List Sd}
    (I : Inv E base ops sts ι0 a0 h0 w0 hF listed act w ι look aS c1 c2) {l1 l2 : List Sd} {x : Sd} (e : sts = l1 ++ x :: l2) (hr : x.p.i ∈ Region.ready .any ops listed)
    {hx hx' : Heap} {look' : Nat → Option Blk} {c1' c2' : List Sd} {ι' : Inj} {w' : World} {v' : Value}
    (hs : ∀ b B, hx.tr.get b = some B → look b = some B) (s : Stp E base ι hx w ι' hx' w') (hf : Free ι hx.next hx'.next) (hn : h0.next ≤ hx.next) (hm : hx'.next ≤ hF.next)
    (hl : ∀ b B, look' b = some B → hx'.tr.get b = some B ∨ (look b = some B ∧ hx.tr.get b = none ∧ (b < hx.next ∨ hx'.next ≤ b)))
    (rng : ∀ b, hx.next ≤ b → b < hx'.next → x.h.next ≤ b ∧ b < x.h'.next)
    (hc : chs sts = c1' ++ c2') (hc1 : ∀ q ∈ c1', onL listed q.p.i ∨ q.p.i = x.p.i) (hc2 : ∀ q ∈ c2', ¬ onL listed q.p.i ∧ q.p.i ≠ x.p.i)
    (h1 : ∀ b B, (Tl c1' h0).tr.get b = some B → b < (Tl c1' h0).next ∧ look' b = some B)
    (h2 : ∀ q ∈ sts, ∀ B, onL listed q.p.i ∨ q = x → q.Mk ops B → c1'.length ≤ q.k → look' q.h.next = some B) (hv : VRel ι' x.v v') :
    ∃ aS', Inv E base ops sts ι0 a0 h0 w0 hF (listed.setIfInBounds x.p.i true) (act.put x.p.o.dst v') w' ι' look' aS' c1' c2' := by
  have hx0 : x ∈ sts := by rw [e]; simp
  obtain ⟨r1, r2, r3, r4⟩ := ready_spec hr
  have hsz : x.p.i < listed.size := by rw [I.size]; exact r1
  have hset : ∀ j, onL (listed.setIfInBounds x.p.i true) j ↔ onL listed j ∨ j = x.p.i := fun j => onL_set hsz
  have hle := s.le hf
  have hxa : x.a.sz = a0.sz ∧ ∃ a1, putA x.a x.p.o.dst x.v = some a1 := by
    have R := C.run
    rw [e] at R
    obtain ⟨a1, h1, R1, R2⟩ := runs_append _ _ _ _ _ _ _ _ R
    obtain ⟨e1, _, _, _, _, a2, ha2, _⟩ := R2
    exact ⟨by rw [e1]; exact (runs_slots _ _ _ _ _ _ _ R1 C.sz).1, a2, by rw [e1]; exact ha2⟩
  obtain ⟨a2, ha2⟩ := hxa.2
  obtain ⟨aS', haS⟩ := putA_of ha2 (b := aS) (I.sz.trans hxa.1.symm)
  obtain ⟨p1, p2, p3, p4⟩ := putA_get haS (by rw [I.sz]; exact C.sz)
  obtain ⟨a3, e3, fr3, _⟩ := (I.fr.mono hle).put hv (fail := (none : Option AF)) (f := some) (res := some aS') (by simp) haS
  cases e3
  obtain ⟨q1, q2, q3, q4, q5⟩ := C.apart e
  refine ⟨aS', by rw [Array.size_setIfInBounds]; exact I.size, ?_, I.rs.step hs s hf hn hm hl, hc, fun q hq => (hset _).2 (hc1 q hq), ?_, h1, ?_, ?_, fr3, p1.trans I.sz, p2.trans I.ds, ?_⟩
  · intro i hi j hj
    rcases (hset i).1 hi with h | rfl
    · exact (hset j).2 (.inl (I.down i h j hj))
    · exact (hset j).2 (.inl (r4 j hj))
  · intro q hq ho
    obtain ⟨k1, k2⟩ := hc2 q hq
    rcases (hset _).1 ho with h | h
    · exact k1 h
    · exact k2 h
  · intro q hq B ho hm hk
    refine h2 q hq B ?_ hm hk
    rcases (hset _).1 ho with h | h
    · exact .inl h
    · exact .inr (C.same_i hq hx0 h)
  · intro q hq ho b hb1 hb2
    have hnq : ¬ onL listed q.p.i := fun h => ho ((hset _).2 (.inl h))
    have hne : q ≠ x := fun h => ho ((hset _).2 (.inr (by rw [h])))
    by_cases hb : hx.next ≤ b ∧ b < hx'.next
    · obtain ⟨k1, k2⟩ := rng b hb.1 hb.2
      rw [e] at hq
      rcases List.mem_append.1 hq with h | h
      · have := q1 q h; omega
      · rcases List.mem_cons.1 h with h | h
        · exact absurd h hne
        · have := q2 q h; omega
    · rw [s.agree b (by omega)]
      exact I.free q hq hnq b hb1 hb2
  · intro t
    by_cases hd : x.p.o.dst = some t
    · exact .inl ⟨x, hx0, (hset _).2 (.inr rfl), hd, p3 t hd⟩
    · rcases I.slot t with ⟨q, k1, k2, k3, k4⟩ | ⟨k1, k2⟩
      · exact .inl ⟨q, k1, (hset _).2 (.inl k2), k3, by rw [p4 t hd]; exact k4⟩
      · refine .inr ⟨fun q hq ho => ?_, by rw [p4 t hd]; exact k2⟩
        rcases (hset _).1 ho with h | h
        · exact k1 q hq h
        · rw [C.same_i hq hx0 h]; exact hd

end
end
end Ev
end Go.Proofs.YtodemhmfnokomaaGreatDoor
namespace Go.Proofs.YtodemhmfnokomaaGreatDoor
namespace Ev
open Go

section
variable {E : Env} {base : Nat} {callF : CallY} {Y : YF} {ops : Array Oper} {sts : List Sd} {ι0 : Inj} {a0 aF : AF} {h0 hF : Heap} {w0 : World}

theorem mem_chs {q : Sd} {l : List Sd} : q ∈ chs l ↔ q ∈ l ∧ q.ch = true := by simp [chs]

/-- how the chain stands when an operation comes up -/
theorem Inv.chain_pos (C : Ctx E base callF Y ops sts ι0 a0 h0 w0 aF hF) {listed : Array Bool} {act : Act} {w : World} {ι : Inj} {look : Nat → Option Blk} {aS : AF} {c1 c2 : List Sd}
    (I : Inv E base ops sts ι0 a0 h0 w0 hF listed act w ι look aS c1 c2) {l1 l2 : List Sd} {x : Sd} (e : sts = l1 ++ x :: l2) (hr : x.p.i ∈ Region.ready .any ops listed) :
    ¬ onL listed x.p.i ∧ (∃ d, chs l1 = c1 ++ d) ∧ (x.ch = true → chs l1 = c1 ∧ c2 = x :: chs l2) ∧ (x.ch = false → True) := by
  obtain ⟨r1, r2, r3, r4⟩ := ready_spec hr
  have hno : ¬ onL listed x.p.i := by
    unfold onL
    have hsz : x.p.i < listed.size := by rw [I.size]; exact r1
    rw [Array.getD_eq_getD_getElem?, Array.getElem?_eq_getElem hsz] at r3 ⊢
    simp only [Option.getD_some] at r3 ⊢
    rw [r3]; simp
  have hall : chs sts = chs l1 ++ chs (x :: l2) := by rw [e, chs_append]
  rw [I.cut] at hall
  have hpre : ∃ d, chs l1 = c1 ++ d ∧ c2 = d ++ chs (x :: l2) := by
    rcases List.append_eq_append_iff.1 hall with ⟨d, k1, k2⟩ | ⟨d, k1, k2⟩
    · exact ⟨d, k1, k2⟩
    · cases d with
      | nil => exact ⟨[], by simpa using k1.symm, by simpa using k2.symm⟩
      | cons q d =>
        have hq1 : onL listed q.p.i := I.on1 q (by rw [k1]; simp)
        have hq2 : q ∈ chs (x :: l2) := by rw [k2]; simp
        obtain ⟨hq3, hq4⟩ := mem_chs.1 hq2
        rcases List.mem_cons.1 hq3 with rfl | hq3
        · exact absurd hq1 hno
        · obtain ⟨m1, m2, p1, p2⟩ := C.behind e hq3
          exact absurd (down_prec I.down (C.spec.chain _ _ _ _ p1 p2 hq4) hq1) hno
  obtain ⟨d, k1, k2⟩ := hpre
  refine ⟨hno, ⟨d, k1⟩, fun hx => ?_, fun _ => trivial⟩
  cases d with
  | nil => rw [chs_cons, hx] at k2; exact ⟨by simpa using k1, by simpa using k2⟩
  | cons q d =>
    have hq1 : q ∈ chs l1 := by rw [k1]; simp
    obtain ⟨m1, m2, p1, p2⟩ := C.before e (mem_chs.1 hq1).1
    have hprec := C.spec.chain _ _ _ _ p1 p2 hx
    have : onL listed q.p.i := by
      have : ∀ j, Prec ops j x.p.i → onL listed j := fun j hp => by
        cases hp with
        | one h => exact r4 _ h
        | step h hm => exact down_prec I.down h (r4 _ hm)
      exact this _ hprec
    exact absurd this (I.on2 q (by rw [k2]; simp))

theorem ready_prec {listed : Array Bool} (hd : ∀ i, onL listed i → ∀ j ∈ directs ops i, onL listed j) {i : Nat} (hr : i ∈ Region.ready .any ops listed) {j : Nat} (hp : Prec ops j i) : onL listed j := by
  obtain ⟨_, _, _, r4⟩ := ready_spec hr
  cases hp with
  | one h => exact r4 _ h
  | step h hm => exact down_prec hd h (r4 _ hm)

/-- the slots that an operation looks at hold what they hold in the plan's order -/
theorem Inv.same_slot (C : Ctx E base callF Y ops sts ι0 a0 h0 w0 aF hF) {listed : Array Bool} {act : Act} {w : World} {ι : Inj} {look : Nat → Option Blk} {aS : AF} {c1 c2 : List Sd}
    (I : Inv E base ops sts ι0 a0 h0 w0 hF listed act w ι look aS c1 c2) {l1 l2 : List Sd} {x : Sd} (e : sts = l1 ++ x :: l2) (hr : x.p.i ∈ Region.ready .any ops listed) {t : Tmp}
    (ht : t ∈ Oper.looksAt ops x.p.o) : aS.get t = x.a.get t := by
  obtain ⟨hno, _⟩ := I.chain_pos C e hr
  have hx0 : x ∈ sts := by rw [e]; simp
  have R := C.run
  rw [e] at R
  obtain ⟨a1, h1, R1, R2⟩ := runs_append _ _ _ _ _ _ _ _ R
  obtain ⟨e1, _⟩ := R2
  rw [e1]
  have hl1 : ∀ q ∈ l1, q ∈ sts := fun q hq => by rw [e]; simp [hq]
  rcases (runs_slots _ _ _ _ _ _ _ R1 C.sz).2.2 t with ⟨q1, p1, p2, p3⟩ | ⟨p1, p2⟩ <;> rcases I.slot t with ⟨q2, k1, k2, k3, k4⟩ | ⟨k1, k2⟩
  · rw [k4, p3, C.same_dst (hl1 _ p1) k1 p2 k3]
  · obtain ⟨m1, m2, n1, n2⟩ := C.before e p1
    exact absurd p2 (k1 q1 (hl1 _ p1) (ready_prec I.down hr (C.spec.raw _ _ _ _ t n1 n2 p2 ht)))
  · rw [e] at k1
    rcases List.mem_append.1 k1 with h | h
    · exact absurd k3 (p1 _ h)
    · rcases List.mem_cons.1 h with h | h
      · rw [h] at k2; exact absurd k2 hno
      · obtain ⟨m1, m2, n1, n2⟩ := C.behind e h
        exact absurd (down_prec I.down (C.spec.war _ _ _ _ t n1 n2 k3 ht) k2) hno
  · rw [k2, p2]

theorem looks_operand {o : Oper} {t : Tmp} (h : Operand.tmp t ∈ o.op.operands) : t ∈ Oper.looksAt ops o :=
  List.mem_append_left _ (List.mem_filterMap.2 ⟨.tmp t, by simpa using h, rfl⟩)

theorem looks_guard {o : Oper} {j : Nat} {b : Bool} {t : Tmp} (h : o.guard = some (j, b)) (ht : guardTmp ops j = some t) : t ∈ Oper.looksAt ops o := by
  refine List.mem_append_right _ ?_
  rw [guardTmp_eq] at ht
  simp only [h, ht]
  simp

theorem want_congr {o : Oper} {a a' : AF} (h : ∀ t, t ∈ Oper.looksAt ops o → a.get t = a'.get t) : wantA ops o a = wantA ops o a' := by
  unfold wantA
  cases hg : o.guard with
  | none => rfl
  | some jw =>
    obtain ⟨j, b⟩ := jw
    simp only
    cases ht : guardTmp ops j with
    | none => rfl
    | some t => simp only; rw [h t (looks_guard hg ht)]

theorem op_congr {o : Oper} {a a' : AF} (h : ∀ t, t ∈ Oper.looksAt ops o → a.get t = a'.get t) (hp : Heap) : evalOp E callF Y o.op a hp = evalOp E callF Y o.op a' hp := by
  refine evalOp_congr o.op (fun x hx => ?_) hp
  cases x with
  | tmp t => exact h t (looks_operand hx)
  | const v => rfl
  | global g => rfl
  | func f => rfl

theorem readAll_get {f : Heap → VRes} {v : AV} : ∀ (n : Nat) (hs : List Heap), readAll f v n hs = true → ∀ i, i < n → ∃ h, hs[i]? = some h ∧ ∃ h', f h = .ok v h' ∧ h'.next = h.next
  | 0, _, _, i, hi => by omega
  | n + 1, [], he, i, hi => by simp only [readAll, Bool.false_eq_true] at he
  | n + 1, h :: r, he, i, hi => by
    simp only [readAll, Bool.and_eq_true] at he
    cases i with
    | zero =>
      refine ⟨h, rfl, ?_⟩
      have := he.1
      split at this
      · rename_i u h' hu
        rw [Bool.and_eq_true] at this
        exact ⟨h', by rw [hu, same_eq _ _ this.1], nbeq_iff this.2⟩
      · cases this
    | succ i =>
      obtain ⟨h2, h3, h4⟩ := readAll_get n r he.2 i (by omega)
      exact ⟨h2, by simpa using h3, h4⟩

theorem readV_get {f : Heap → VRes} {v : AV} {n : Nat} {hs : List Heap} (he : readV f n hs = some v) : ∀ i, i ≤ n → ∃ h, hs[i]? = some h ∧ ∃ h', f h = .ok v h' ∧ h'.next = h.next := by
  intro i hi
  unfold readV at he
  split at he
  · cases he
  · rename_i h r
    split at he
    · rename_i u h' hu
      cases hb : Nat.beq h'.next h.next <;> rw [hb] at he <;> simp only [cond_true, cond_false, reduceCtorEq] at he
      cases hr : readAll f u n r <;> rw [hr] at he <;> simp only [cond_true, cond_false, reduceCtorEq, Option.some.injEq] at he
      subst he
      cases i with
      | zero => exact ⟨h, rfl, h', hu, nbeq_iff hb⟩
      | succ i =>
        obtain ⟨h2, h3, h4⟩ := readAll_get n r hr i (by omega)
        exact ⟨h2, by simpa using h3, h4⟩
    · cases he

/-- the memory in front of an operation of the chain -/
theorem Inv.chain_heap (C : Ctx E base callF Y ops sts ι0 a0 h0 w0 aF hF) {listed : Array Bool} {act : Act} {w : World} {ι : Inj} {look : Nat → Option Blk} {aS : AF} {c1 c2 : List Sd}
    (I : Inv E base ops sts ι0 a0 h0 w0 hF listed act w ι look aS c1 c2) {l1 l2 : List Sd} {x : Sd} (e : sts = l1 ++ x :: l2) (hr : x.p.i ∈ Region.ready .any ops listed) (hx : x.ch = true) :
    x.k = c1.length ∧ ∀ b B, x.h.tr.get b = some B → b < x.h.next ∧ look b = some B := by
  obtain ⟨hno, _, hcp, _⟩ := I.chain_pos C e hr
  obtain ⟨hc1, hc2⟩ := hcp hx
  have hx0 : x ∈ sts := by rw [e]; simp
  have R := C.run
  rw [e] at R
  obtain ⟨a1, h1, R1, R2⟩ := runs_append _ _ _ _ _ _ _ _ R
  obtain ⟨_, e2, _, e4, _⟩ := R2
  obtain ⟨q1, _⟩ := C.apart e
  have hl1 : ∀ q ∈ l1, q ∈ sts := fun q hq => by rw [e]; simp [hq]
  have hK : KdOk l1 := fun q hq => C.kd q (hl1 q hq)
  refine ⟨by rw [e4, hc1]; omega, fun b B hb => ?_⟩
  rw [e2] at hb
  rcases runs_heap l1 _ _ _ _ _ _ h0 (fun _ _ => False) R1 hK (fun b B hb => .inl hb) b B hb with k | ⟨_, k⟩ | ⟨q, k1, k2, k3, k4⟩
  · rw [hc1] at k
    obtain ⟨m1, m2⟩ := I.tl b B k
    refine ⟨Nat.lt_of_lt_of_le m1 ?_, m2⟩
    unfold Tl
    cases hl : c1.getLast? with
    | none => exact (C.apart e).2.2.1
    | some y =>
      have hy : y ∈ chs l1 := by rw [hc1]; exact List.mem_of_getLast? hl
      exact q1 y (mem_chs.1 hy).1
  · exact k.elim
  · obtain ⟨m1, m2, p1, p2⟩ := C.before e k1
    have hq := ready_prec I.down hr (C.spec.chain _ _ _ _ p1 p2 hx)
    have hgood := (runs_k _ _ _ _ _ _ _ R1 q k1).2
    have hnx := mk_next (hK q k1) hgood k2
    have := q1 q k1
    exact ⟨by omega, by rw [k4]; exact I.mks q (hl1 q k1) B hq k2 (by rw [k3, hc1]; omega)⟩

end
end Ev
end Go.Proofs.YtodemhmfnokomaaGreatDoor
namespace Go.Proofs.YtodemhmfnokomaaGreatDoor
namespace Ev
open Go

section
variable {E : Env} {base : Nat} {callF : CallY} {Y : YF} {ops : Array Oper} {sts : List Sd} {ι0 : Inj} {a0 aF : AF} {h0 hF : Heap} {w0 : World} {ro : Option Nat}

theorem Inv.step (C : Ctx E base callF Y ops sts ι0 a0 h0 w0 aF hF) {listed : Array Bool} {act : Act} {w : World} {ι : Inj} {look : Nat → Option Blk} {aS : AF} {c1 c2 : List Sd}
    (I : Inv E base ops sts ι0 a0 h0 w0 hF listed act w ι look aS c1 c2) {i : Nat} (hr : i ∈ Region.ready .any ops listed) {Q : Exit → Act → World → Prop} {K : Act → World → Prop}
    (hK : ∀ act' w' ι' look' aS' c1' c2', Inv E base ops sts ι0 a0 h0 w0 hF (listed.setIfInBounds i true) act' w' ι' look' aS' c1' c2' → K act' w') : wpOpIn (FW ro) 0 E.P ops Q i K act w := by
  obtain ⟨p, hp, rfl⟩ := C.spec.all i (ready_spec hr).1
  rw [← C.pl] at hp
  obtain ⟨x, hx0, rfl⟩ := List.mem_map.1 hp
  obtain ⟨l1, l2, e⟩ := List.append_of_mem hx0
  obtain ⟨hpl, ho, hkd⟩ := C.item hx0
  have hslot : ∀ t, t ∈ Oper.looksAt ops x.p.o → aS.get t = x.a.get t := fun t ht => I.same_slot C e hr ht
  have hwant := want_congr hslot
  obtain ⟨w1, w2⟩ := want_ok (ops := ops) (o := x.p.o) I.fr
  obtain ⟨hno, ⟨d, hd⟩, hcp, _⟩ := I.chain_pos C e hr
  obtain ⟨q1, q2, q3, q4, q5⟩ := C.apart e
  have R := C.run
  rw [e] at R
  obtain ⟨a1, h1, R1, R2⟩ := runs_append _ _ _ _ _ _ _ _ R
  obtain ⟨e1, e2, e3, e4, hg, _⟩ := R2
  have hfree := I.free x hx0 hno
  have hle0 := I.rs.le
  have hY := C.hY.mono hle0
  have hnext : h0.next ≤ hF.next := by omega
  have nilH : ∀ n, HRel E base ι ⟨n, .nil⟩ w := fun n => I.rs.rel.restrict (fun b B hb => by simp only [Tr.get_nil, reduceCtorEq] at hb) (fun b B hb => by simp only [Tr.get_nil, reduceCtorEq] at hb)
  have nilS : ∀ n b B, (⟨n, .nil⟩ : Heap).tr.get b = some B → look b = some B := fun n b B hb => by simp only [Tr.get_nil, reduceCtorEq] at hb
  -- how the chain goes on
  have nc : x.ch = false → chs sts = c1 ++ c2 ∧ (∀ q ∈ c1, onL listed q.p.i ∨ q.p.i = x.p.i) ∧ (∀ q ∈ c2, ¬ onL listed q.p.i ∧ q.p.i ≠ x.p.i) := fun hc =>
    ⟨I.cut, fun q hq => .inl (I.on1 q hq), fun q hq => ⟨I.on2 q hq, fun he => by
      have hqs : q ∈ chs sts := by rw [I.cut]; simp [hq]
      obtain ⟨k1, k2⟩ := mem_chs.1 hqs
      rw [C.same_i k1 hx0 he, hc] at k2
      cases k2⟩⟩
  have cc : x.ch = true → chs sts = (c1 ++ [x]) ++ chs l2 ∧ (∀ q ∈ c1 ++ [x], onL listed q.p.i ∨ q.p.i = x.p.i) ∧ (∀ q ∈ chs l2, ¬ onL listed q.p.i ∧ q.p.i ≠ x.p.i) := fun hc => by
    obtain ⟨k1, k2⟩ := hcp hc
    refine ⟨by rw [I.cut, k2]; simp, fun q hq => ?_, fun q hq => ⟨I.on2 q (by rw [k2]; simp [hq]), fun he => ?_⟩⟩
    · rcases List.mem_append.1 hq with h | h
      · exact .inl (I.on1 q h)
      · rw [List.mem_singleton] at h; exact .inr (by rw [h])
    · obtain ⟨m1, m2, p1, p2⟩ := C.behind e (mem_chs.1 hq).1
      exact C.spec.ne _ _ _ _ p1 p2 he.symm
  -- blocks made early
  have late : x.ch = true → ∀ q ∈ sts, ∀ B, q.Mk ops B → (c1 ++ [x]).length ≤ q.k → q ∈ l2 := fun hc q hq B hm hk => by
    obtain ⟨hxk, _⟩ := I.chain_heap C e hr hc
    rw [List.length_append, List.length_singleton] at hk
    rw [e] at hq
    rcases List.mem_append.1 hq with h | h
    · have := (runs_k _ _ _ _ _ _ _ R1 q h).1
      omega
    · rcases List.mem_cons.1 h with h | h
      · rw [h] at hk; omega
      · exact h
  have tl_le : (Tl c1 h0).next ≤ x.h.next := by
    unfold Tl
    cases hl : c1.getLast? with
    | none => exact q3
    | some y =>
      have hy : y ∈ chs l1 := by rw [hd]; exact List.mem_append_left _ (List.mem_of_getLast? hl)
      exact q1 y (mem_chs.1 hy).1
  have tl_ge : h0.next ≤ (Tl c1 h0).next := by
    unfold Tl
    cases hl : c1.getLast? with
    | none => exact Nat.le_refl _
    | some y =>
      have hy : y ∈ chs sts := by rw [I.cut]; exact List.mem_append_left _ (List.mem_of_getLast? hl)
      have := (runs_mono C.hmC C.hmY _ _ _ _ _ _ _ C.run).2 y (mem_chs.1 hy).1
      simp only [Option.map_some, Option.getD_some]
      omega
  unfold wpOpIn
  simp only [ho]
  rcases hg with ⟨hw, hv, hh⟩ | ⟨hw, hg⟩
  · -- not wanted
    rw [if_neg (by rw [w2 (hwant.trans hw)]; simp)]
    refine ⟨fun _ _ => trivial, ?_⟩
    have hvr : VRel ι x.v undef := by rw [hv]; exact undefRel ι
    have hmk : ∀ B, ¬ x.Mk ops B := fun B hm => by have := hm.1; rw [hw] at this; cases this
    cases hc : x.ch with
    | false =>
      obtain ⟨n1, n2, n3⟩ := nc hc
      obtain ⟨aS', I'⟩ := I.advance C e hr (hx := ⟨h0.next, .nil⟩) (hx' := ⟨h0.next, .nil⟩) (look' := look) (v' := undef) (nilS _) (Stp.refl (nilH _)) (fun b hb1 hb2 => by simp only at hb1 hb2; omega)
        (Nat.le_refl _) hnext (fun b B hb => .inr ⟨hb, Tr.get_nil _, by simp only; omega⟩) (fun b hb1 hb2 => by simp only at hb1 hb2; omega) n1 n2 n3 I.tl (fun q hq B ho hm hk => by
          rcases ho with ho | ho
          · exact I.mks q hq B ho hm hk
          · rw [ho] at hm; exact absurd hm (hmk B)) hvr
      exact hK _ _ _ _ _ _ _ I'
    | true =>
      obtain ⟨n1, n2, n3⟩ := cc hc
      obtain ⟨hxk, hxh⟩ := I.chain_heap C e hr hc
      obtain ⟨aS', I'⟩ := I.advance C e hr (hx := ⟨h0.next, .nil⟩) (hx' := ⟨h0.next, .nil⟩) (look' := look) (v' := undef) (nilS _) (Stp.refl (nilH _)) (fun b hb1 hb2 => by simp only at hb1 hb2; omega)
        (Nat.le_refl _) hnext (fun b B hb => .inr ⟨hb, Tr.get_nil _, by simp only; omega⟩) (fun b hb1 hb2 => by simp only at hb1 hb2; omega) n1 n2 n3
        (fun b B hb => by rw [Tl_snoc, hh] at hb ⊢; exact hxh b B hb) (fun q hq B ho hm hk => by
          rcases ho with ho | ho
          · exact I.mks q hq B ho hm (by rw [List.length_append] at hk; omega)
          · rw [ho] at hm; exact absurd hm (hmk B)) hvr
      exact hK _ _ _ _ _ _ _ I'
  · rw [if_pos (w1 (hwant.trans hw))]
    split at hg
    · -- it reads
      rename_i hk
      obtain ⟨hv, hh⟩ := hg
      have hc : x.ch = false := by simp only [Sd.ch, hk, isChain]
      obtain ⟨n1, n2, n3⟩ := nc hc
      -- the memory that it sees is one of those that were asked
      have hlen : x.k = (chs l1).length := by rw [e4]; omega
      have hcl : c1.length ≤ (chs l1).length := by rw [hd]; simp
      have ha : x.p.a ≤ c1.length := by
        obtain ⟨s1, s2⟩ := C.spec.read x.p hpl hk
        have hpc : ((plan ops).filter fun p => isChain p.kd) = (chs sts).map (·.p) := by
          rw [← C.pl, chs, List.filter_map]; rfl
        rw [hpc, List.length_map] at s1
        rcases Nat.lt_or_ge c1.length x.p.a with hlt | hge
        · have hlt2 : c1.length < (chs sts).length := by omega
          have hq : (chs sts)[c1.length]? = some (chs sts)[c1.length] := by simp [hlt2]
          have hq2 : (chs sts)[c1.length] ∈ c2 := by
            have h9 : (c1 ++ c2)[c1.length]? = some (chs sts)[c1.length] := by rw [← I.cut]; exact hq
            rw [List.getElem?_append_right (Nat.le_refl _)] at h9
            exact List.mem_of_getElem? h9
          have hon := ready_prec I.down hr (s2 c1.length (chs sts)[c1.length].p hlt (by rw [hpc, List.getElem?_map, hq]; rfl))
          exact absurd hon (I.on2 _ hq2)
        · exact hge
      obtain ⟨hT, g1, h2, g2, g3⟩ := readV_get hv ((chs l1).length - c1.length) (by rw [hlen]; exact Nat.sub_le_sub_left ha _)
      have hTl : hT = Tl c1 h0 := by
        have hgen : ∀ (c d : List Sd), (((c ++ d).map (·.h')).reverse ++ [h0])[d.length]? = some (Tl c h0) := by
          intro c d
          rw [List.map_append, List.reverse_append, List.append_assoc, List.getElem?_append_right (by simp)]
          simp only [List.length_reverse, List.length_map, Nat.sub_self]
          unfold Tl
          cases hl : c.getLast? with
          | none => rw [List.getLast?_eq_none_iff] at hl; subst hl; rfl
          | some y =>
            obtain ⟨c', rfl⟩ := List.getLast?_eq_some_iff.1 hl
            simp
        have := hgen c1 d
        rw [← hd] at this
        rw [e3] at g1
        have hdl : (chs l1).length - c1.length = d.length := by rw [hd]; simp
        rw [hdl, this] at g1
        exact (Option.some.inj g1).symm
      subst hTl
      rw [← op_congr hslot] at g2
      have hsame := read_same x.p.o.op (by rw [← hkd, hk]) g2 g3
      subst hsame
      have HT : HRel E base ι (Tl c1 h0) w := I.rs.rel.restrict (fun b B hb => (I.tl b B hb).1) (fun b B hb => (I.tl b B hb).2)
      have hfr : Free ι (Tl c1 h0).next (Tl c1 h0).next := fun b hb1 hb2 => by omega
      refine op_wp C.hC C.hmY hY HT I.fr x.p.o g2 hfr fun ι' v' w' s hv' => ?_
      obtain ⟨aS', I'⟩ := I.advance C e hr (look' := look) (fun b B hb => (I.tl b B hb).2) s hfr tl_ge (by omega) (fun b B hb => by
          cases hgt : (Tl c1 h0).tr.get b with
          | none => exact .inr ⟨hb, rfl, by omega⟩
          | some B' => rw [(I.tl b B' hgt).2] at hb; exact .inl hb) (fun b hb1 hb2 => by omega) n1 n2 n3 I.tl (fun q hq B ho hm hk' => by
          rcases ho with ho | ho
          · exact I.mks q hq B ho hm hk'
          · rw [ho] at hm; have := hm.2.1; rw [hk] at this; cases this) hv'
      exact hK _ _ _ _ _ _ _ I'
    · -- one of the chain
      rename_i hk
      obtain ⟨_, hop⟩ := hg
      have hc : x.ch = true := by simp only [Sd.ch, hk, isChain]
      obtain ⟨n1, n2, n3⟩ := cc hc
      obtain ⟨hxk, hxh⟩ := I.chain_heap C e hr hc
      rw [← op_congr hslot] at hop
      have HX : HRel E base ι x.h w := I.rs.rel.restrict (fun b B hb => (hxh b B hb).1) (fun b B hb => (hxh b B hb).2)
      refine op_wp C.hC C.hmY hY HX I.fr x.p.o hop hfree fun ι' v' w' s hv' => ?_
      obtain ⟨aS', I'⟩ := I.advance C e hr (look' := fun b => if b < x.h'.next then x.h'.tr.get b else look b) (fun b B hb => (hxh b B hb).2) s hfree q3 q5 (fun b B hb => by
          split at hb
          · exact .inl hb
          · rename_i hlt
            refine .inr ⟨hb, ?_, by omega⟩
            cases hgt : x.h.tr.get b with
            | none => rfl
            | some B' => have := (hxh b B' hgt).1; omega) (fun b hb1 hb2 => ⟨hb1, hb2⟩) n1 n2 n3 (fun b B hb => by
          rw [Tl_snoc] at hb ⊢
          have := s.rel.keys b B hb
          exact ⟨this, by rw [if_pos this]; exact hb⟩) (fun q hq B ho hm hk' => by
          have hql := late hc q hq B hm hk'
          have := q2 q hql
          rw [if_neg (by omega)]
          rcases ho with ho | ho
          · exact I.mks q hq B ho hm (by rw [List.length_append] at hk'; omega)
          · rw [ho] at hm; have := hm.2.1; rw [hk] at this; cases this) hv'
      exact hK _ _ _ _ _ _ _ I'
    · -- it touches no memory
      rename_i hk
      have hc : x.ch = false := by simp only [Sd.ch, hk, isChain]
      obtain ⟨n1, n2, n3⟩ := nc hc
      obtain ⟨r, hr'⟩ := pure_u (E := E) (callF := callF) (Y := Y) (a := x.a) x.p.o.op (by rw [← hkd, hk])
      rw [hr'] at hg
      have hop := (pv_u hg).2 ⟨h0.next, .nil⟩
      rw [← hr', ← op_congr hslot] at hop
      have hfr : Free ι (⟨h0.next, .nil⟩ : Heap).next (⟨h0.next, .nil⟩ : Heap).next := fun b hb1 hb2 => by omega
      refine op_wp C.hC C.hmY hY (nilH _) I.fr x.p.o hop hfr fun ι' v' w' s hv' => ?_
      obtain ⟨aS', I'⟩ := I.advance C e hr (look' := look) (nilS _) s hfr (Nat.le_refl _) hnext (fun b B hb => .inr ⟨hb, Tr.get_nil _, by simp only; omega⟩) (fun b hb1 hb2 => by omega) n1 n2 n3 I.tl (fun q hq B ho hm hk' => by
          rcases ho with ho | ho
          · exact I.mks q hq B ho hm hk'
          · rw [ho] at hm; have := hm.2.1; rw [hk] at this; cases this) hv'
      exact hK _ _ _ _ _ _ _ I'
    · -- it makes a block
      rename_i hk
      have hc : x.ch = false := by simp only [Sd.ch, hk, isChain]
      obtain ⟨n1, n2, n3⟩ := nc hc
      obtain ⟨B0, hown, hh, hu⟩ := make_u x.p.o.op (by rw [← hkd, hk]) hg
      have hop := hu .nil
      rw [← op_congr hslot] at hop
      have hn1 : x.h'.next = x.h.next + 1 := by rw [hh]
      rw [hn1] at hfree
      refine op_wp C.hC C.hmY hY (nilH _) I.fr x.p.o hop hfree fun ι' v' w' s hv' => ?_
      obtain ⟨aS', I'⟩ := I.advance C e hr (look' := fun b => if b = x.h.next then some B0 else look b) (nilS _) s hfree q3 (by simp only; omega) (fun b B hb => by
          split at hb
          · rename_i hbe; left; simp only [Tr.get_set]; rw [if_pos hbe]; exact hb
          · rename_i hbe; exact .inr ⟨hb, Tr.get_nil _, by simp only; omega⟩) (fun b hb1 hb2 => by simp only at hb1 hb2; omega) n1 n2 n3 (fun b B hb => by
          obtain ⟨m1, m2⟩ := I.tl b B hb
          exact ⟨m1, by rw [if_neg (by omega)]; exact m2⟩) (fun q hq B ho hm hk' => by
          by_cases hqx : q = x
          · subst hqx
            rw [if_pos rfl]
            have := hm.2.2
            rw [hh] at this
            simp only [Tr.get_set, if_true] at this
            exact this
          · have hgood := (runs_k _ _ _ _ _ _ _ C.run q hq).2
            have hnx := mk_next (C.kd q hq) hgood hm
            have hne : q.h.next ≠ x.h.next := by
              have hq' := hq
              rw [e] at hq'
              rcases List.mem_append.1 hq' with h | h
              · have := q1 q h; omega
              · rcases List.mem_cons.1 h with h | h
                · exact absurd h hqx
                · have := q2 q h; omega
            rw [if_neg hne]
            exact I.mks q hq B (ho.resolve_right hqx) hm hk') hv'
      exact hK _ _ _ _ _ _ _ I'

end
end Ev
end Go.Proofs.YtodemhmfnokomaaGreatDoor
namespace Go.Proofs.YtodemhmfnokomaaGreatDoor
namespace Ev
open Go

section
variable {E : Env} {base : Nat} {callF : CallY} {Y : YF} {ops : Array Oper} {sts : List Sd} {ι0 : Inj} {a0 aF : AF} {h0 hF : Heap} {w0 : World} {ro : Option Nat}

theorem all_listed (hd : ∀ i j, i < ops.size → j ∈ directs ops i → j < i) {listed : Array Bool} (hs : listed.size = ops.size) (hr : Region.ready .any ops listed = []) : ∀ i, i < ops.size → onL listed i := by
  intro i
  induction i using Nat.strongRecOn with
  | _ i ih =>
    intro hi
    cases hb : listed.getD i true with
    | true =>
      unfold onL
      have hsz : i < listed.size := by omega
      rw [Array.getD_eq_getD_getElem?, Array.getElem?_eq_getElem hsz] at hb ⊢
      exact hb
    | false =>
      have : i ∈ Region.ready .any ops listed := by
        refine List.mem_filter.2 ⟨List.mem_range.2 hi, ?_⟩
        have ho : ops[i]? = some ops[i] := by simp [hi]
        simp only [hb, ho, Option.map_some, Option.getD_some, Bool.not_false, Bool.true_and, Array.all_eq_true_iff_forall_mem]
        intro e he
        cases hbd : Region.binds .any e with
        | false => simp
        | true =>
          have hj := mem_directs ho (e := e) (by simpa using he) hbd
          have hlt := hd i _ hi hj
          have := ih _ hlt (by omega)
          simp only [Bool.not_true, Bool.false_or]
          exact this
      rw [hr] at this
      cases this

def openN (ops : Array Oper) (listed : Array Bool) : List Nat := (List.range ops.size).filter fun i => !listed.getD i true

theorem filter_lt {α : Type} {p p' : α → Bool} : ∀ {l : List α} {i : α}, (∀ x, p' x = true → p x = true) → i ∈ l → p i = true → p' i = false → (l.filter p').length < (l.filter p).length
  | [], i, _, hi, _, _ => by cases hi
  | x :: l, i, hs, hi, h1, h2 => by
    have hle : ∀ l : List α, (l.filter p').length ≤ (l.filter p).length := by
      intro l
      induction l with
      | nil => exact Nat.le_refl _
      | cons y l ih =>
        simp only [List.filter_cons]
        cases hy : p' y with
        | true => rw [hs y hy]; simp; exact ih
        | false => cases p y <;> simp <;> omega
    simp only [List.filter_cons]
    rcases List.mem_cons.1 hi with rfl | hi
    · rw [h1, h2]; simp; exact Nat.lt_succ_of_le (hle l)
    · have := filter_lt hs hi h1 h2
      cases hy : p' x with
      | true => rw [hs x hy]; simp; exact this
      | false => cases p x <;> simp <;> omega

theorem draw_any (C : Ctx E base callF Y ops sts ι0 a0 h0 w0 aF hF) {Q : Exit → Act → World → Prop}
    (hQ : ∀ listed act w ι look aS c1 c2, Inv E base ops sts ι0 a0 h0 w0 hF listed act w ι look aS c1 c2 → (∀ i, i < ops.size → onL listed i) → Q .normal act w) :
    ∀ (fuel : Nat) (listed : Array Bool) (act : Act) (w : World) ι look aS c1 c2, Inv E base ops sts ι0 a0 h0 w0 hF listed act w ι look aS c1 c2 → (openN ops listed).length ≤ fuel →
    wpAnyIn (FW ro) 0 E.P .any ops Q fuel listed act w
  | 0, listed, act, w, ι, look, aS, c1, c2, I, hn => by
    have hall : ∀ i, i < ops.size → onL listed i := by
      intro i hi
      have hnil : openN ops listed = [] := List.eq_nil_of_length_eq_zero (by omega)
      cases hb : listed.getD i true with
      | true =>
        unfold onL
        have hsz : i < listed.size := by rw [I.size]; exact hi
        rw [Array.getD_eq_getD_getElem?, Array.getElem?_eq_getElem hsz] at hb ⊢
        exact hb
      | false =>
        have : i ∈ openN ops listed := List.mem_filter.2 ⟨List.mem_range.2 hi, by rw [hb]; rfl⟩
        rw [hnil] at this; cases this
    refine ⟨?_, hQ _ _ _ _ _ _ _ _ I hall⟩
    refine List.eq_nil_iff_forall_not_mem.2 fun i hi => ?_
    obtain ⟨r1, _, r3, _⟩ := ready_spec hi
    have := hall i r1
    unfold onL at this
    have hsz : i < listed.size := by rw [I.size]; exact r1
    rw [Array.getD_eq_getD_getElem?, Array.getElem?_eq_getElem hsz] at r3 this
    simp only [Option.getD_some] at r3 this
    rw [r3] at this; cases this
  | fuel + 1, listed, act, w, ι, look, aS, c1, c2, I, hn => by
    refine ⟨fun hr => hQ _ _ _ _ _ _ _ _ I (all_listed C.spec.down I.size hr), fun i hi => ?_⟩
    refine I.step C hi fun act' w' ι' look' aS' c1' c2' I' => draw_any C hQ fuel _ _ _ _ _ _ _ _ I' ?_
    obtain ⟨r1, _, r3, _⟩ := ready_spec hi
    have hsz : i < listed.size := by rw [I.size]; exact r1
    have : (openN ops (listed.setIfInBounds i true)).length < (openN ops listed).length := by
      refine filter_lt (fun x hx => ?_) (List.mem_range.2 r1) (by rw [r3]; rfl) ?_
      · rw [Array.getD_eq_getD_getElem?, Array.getElem?_setIfInBounds] at hx
        rw [Array.getD_eq_getD_getElem?]
        split at hx
        · simp at hx
        · exact hx
      · rw [Array.getD_eq_getD_getElem?, Array.getElem?_setIfInBounds, if_pos rfl]; simp [hsz]
    omega

theorem draw_ok (hmix : E.P.follows .mixedOrders = true) (hpl : planOk ops = true) (hC : CallsOk E base callF) (hmC : MonoC callF) : DrawOk E base callF ops := by
  intro Y hmY ro id a h x a' h' ι act w he H r hY hf
  simp only at he
  split at he
  · rename_i aF hF hdraw
    cases he
    obtain ⟨sts, hp, hrun⟩ := draw_runs _ _ _ _ _ _ _ hdraw
    refine wpIn_region_any hmix ?_
    have spec := planOk_spec hpl
    have hsame : Stp E base ι h w ι h { w with drawn := w.drawn + 1 } := Stp.same H rfl rfl rfl rfl
    have C : Ctx E base callF Y ops sts ι a h { w with drawn := w.drawn + 1 } a' h' := ⟨spec, hp, hrun, hC, hmC, hmY, hY, hsame.rel, hf, r.le⟩
    have hno : ∀ i, ¬ onL (Array.replicate ops.size false) i := fun i ho => by
      unfold onL at ho
      rw [Array.getD_eq_getD_getElem?, Array.getElem?_replicate] at ho
      split at ho <;> simp at ho
    have I : Inv E base ops sts ι a h { w with drawn := w.drawn + 1 } h' (Array.replicate ops.size false) act { w with drawn := w.drawn + 1 } ι h.tr.get a [] (chs sts) := by
      refine ⟨by simp, fun i hi => absurd hi (hno i), RS.start hsame.rel _ _, by simp, by simp, fun q _ => hno _, fun b B hb => ⟨H.keys b B hb, hb⟩, fun q _ B ho => absurd ho (hno _), fun q hq _ => ?_, r, rfl, rfl, fun t => .inr ⟨fun q _ ho => absurd ho (hno _), rfl⟩⟩
      obtain ⟨k1, k2, k3⟩ := (runs_mono hmC hmY _ _ _ _ _ _ _ hrun).2 q hq
      exact hf.sub k1 k3
    refine draw_any C (fun listed act' w' ι' look aS c1 c2 I' hall => ?_) ops.size _ _ _ _ _ _ _ _ I ?_
    · -- all is done
      have hc2 : c2 = [] := by
        cases c2 with
        | nil => rfl
        | cons q c2 =>
          have hq : q ∈ chs sts := by rw [I'.cut]; simp
          have hqs := (mem_chs.1 hq).1
          have hlt := lt_of_some (C.item hqs).2.1
          exact absurd (hall _ hlt) (I'.on2 q (by simp))
      have hcut : chs sts = c1 := by rw [I'.cut, hc2]; simp
      obtain ⟨m1, m2⟩ := runs_mono hmC hmY _ _ _ _ _ _ _ hrun
      have hon : ∀ q ∈ sts, onL listed q.p.i := fun q hq => hall _ (lt_of_some (C.item hq).2.1)
      have hsub : ∀ b B, h'.tr.get b = some B → b < h'.next ∧ look b = some B := by
        intro b B hb
        rcases runs_heap sts _ _ _ _ _ _ h (fun _ _ => False) hrun C.kd (fun b B hb => .inl hb) b B hb with k | ⟨_, k⟩ | ⟨q, k1, k2, k3, k4⟩
        · rw [hcut] at k
          obtain ⟨n1, n2⟩ := I'.tl b B k
          refine ⟨Nat.lt_of_lt_of_le n1 ?_, n2⟩
          unfold Tl
          cases hl : c1.getLast? with
          | none => exact m1
          | some y =>
            have hy : y ∈ chs sts := by rw [hcut]; exact List.mem_of_getLast? hl
            exact (m2 y (mem_chs.1 hy).1).2.2
        · exact k.elim
        · have hnx := mk_next (C.kd q k1) (runs_k _ _ _ _ _ _ _ hrun q k1).2 k2
          have := (m2 q k1).2.2
          exact ⟨by omega, by rw [k4]; exact I'.mks q k1 B (hon q k1) k2 (by rw [k3, hcut]; omega)⟩
      have s := I'.rs.done m1 (fun b B hb => (hsub b B hb).1) (fun b B hb => (hsub b B hb).2)
      obtain ⟨f1, f2, f3⟩ := runs_slots _ _ _ _ _ _ _ hrun r.le
      refine ⟨rfl, ι', hsame.trans s, ?_, ?_, fun t => ?_, ?_⟩
      · rw [I'.fr.sz, I'.sz, f1]
      · rw [f1]; exact r.le
      · have heq : a'.get t = aS.get t := by
          rcases f3 t with ⟨q, g1, g2, g3⟩ | ⟨g1, g2⟩ <;> rcases I'.slot t with ⟨q', k1, k2, k3, k4⟩ | ⟨k1, k2⟩
          · rw [g3, k4, C.same_dst g1 k1 g2 k3]
          · exact absurd g2 (k1 q g1 (hon q g1))
          · exact absurd k3 (g1 q' k1)
          · rw [g2, k2]
        rw [heq]; exact I'.fr.get t
      · rw [f2, ← I'.ds]; exact I'.fr.ds
    · exact Nat.le_trans (List.length_filter_le _ _) (by simp)
  · cases he

/-- the plans of all regions of a piece of code are checked -/
def codeOk : Code → Bool
  | .region _ ops draw => not draw || planOk ops
  | .seq x y => codeOk x && codeOk y
  | .cond _ x y => codeOk x && codeOk y
  | .block _ x => codeOk x
  | .loop x => codeOk x
  | .scope x => codeOk x
  | .rangeFunc _ _ x y => codeOk x && codeOk y
  | _ => true

theorem draws_ok (hmix : E.P.follows .mixedOrders = true) (hC : CallsOk E base callF) (hmC : MonoC callF) : ∀ c, codeOk c = true → DrawsOk E base callF c := by
  intro c
  induction c with
  | region id ops draw => intro h hd; subst hd; exact draw_ok hmix (by simpa [codeOk] using h) hC hmC
  | seq x y ihx ihy => intro h; simp only [codeOk, Bool.and_eq_true] at h; exact ⟨ihx h.1, ihy h.2⟩
  | cond c x y ihx ihy => intro h; simp only [codeOk, Bool.and_eq_true] at h; exact ⟨ihx h.1, ihy h.2⟩
  | block id x ih => intro h; exact ih h
  | loop x ih => intro h; exact ih h
  | scope x ih => intro h; exact ih h
  | rangeFunc f ps x y ihx ihy => intro h; simp only [codeOk, Bool.and_eq_true] at h; exact ⟨ihx h.1, ihy h.2⟩
  | _ => intro _; trivial

/-- what is checked of a program, once -/
structure ProgOk (E : Env) (idle : IdleF) (bad : FuncId → Bool) : Prop where
  mix : E.P.follows .mixedOrders = true
  names : ∀ (f : FuncId) fn c, E.P.funcs[f]? = some fn → fn.body = some c → fn.name ≠ "runtime.NumGoroutine"
  code : ∀ (f : FuncId) fn c, bad f = false → E.P.funcs[f]? = some fn → fn.body = some c → codeOk c = true
  idle : ∀ f, idle f = true → IdleOk E f

/-- **The evaluator is right.** -/
theorem calls_ok {idle : IdleF} {bad : FuncId → Bool} {S : Summ} (hP : ProgOk E idle bad) (hS : SummOk E base S) (hb : ∀ f, bad f = true → S f ≠ none) (n : Nat) : CallsOk E base (callN E idle S n) :=
  callN_ok hP.idle hS hP.names (fun _ hC hmC f fn c hn hf hbd => draws_ok hP.mix hC hmC c (hP.code f fn c (by cases hx : bad f with | false => rfl | true => exact absurd hn (hb f hx)) hf hbd)) n

end
end Ev
end Go.Proofs.YtodemhmfnokomaaGreatDoor
