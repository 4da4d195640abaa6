/- Regions that draw their order, first part. Conditions: none. -/
import Derived.Test.YtodemhmfnokomaaGreatDoorEvFb
namespace Go.Proofs.YtodemhmfnokomaaGreatDoor
namespace Ev
open Go

mutual
theorem same_eq : ∀ (x y : AV), x.same y = true → x = y
  | .bool a, y, h => by cases y <;> simp only [AV.same, Bool.false_eq_true] at h; rw [eq_of_beq h]
  | .nat k m, y, h => by
    cases y <;> simp only [AV.same, Bool.false_eq_true, Bool.and_eq_true] at h
    rw [kEq_true h.1, nbeq_iff h.2]
  | .neg k m, y, h => by
    cases y <;> simp only [AV.same, Bool.false_eq_true, Bool.and_eq_true] at h
    rw [kEq_true h.1, nbeq_iff h.2]
  | .str l c, y, h => by
    cases y <;> simp only [AV.same, Bool.false_eq_true, Bool.and_eq_true] at h
    rw [nbeq_iff h.1, nbeq_iff h.2]
  | .ptr b o, y, h => by
    cases y <;> simp only [AV.same, Bool.false_eq_true, Bool.and_eq_true] at h
    rw [nbeq_iff h.1, nbeq_iff h.2]
  | .gl b o, y, h => by
    cases y <;> simp only [AV.same, Bool.false_eq_true, Bool.and_eq_true] at h
    rw [nbeq_iff h.1, nbeq_iff h.2]
  | .nilp, y, h => by cases y <;> simp only [AV.same, Bool.false_eq_true] at h; rfl
  | .sl b o l s f, y, h => by
    cases y <;> simp only [AV.same, Bool.false_eq_true, Bool.and_eq_true] at h
    rw [nbeq_iff h.1.1.1.1, nbeq_iff h.1.1.1.2, nbeq_iff h.1.1.2, nbeq_iff h.1.2, eq_of_beq h.2]
  | .nils, y, h => by cases y <;> simp only [AV.same, Bool.false_eq_true] at h; rfl
  | .map b, y, h => by cases y <;> simp only [AV.same, Bool.false_eq_true] at h; rw [nbeq_iff h]
  | .nilm, y, h => by cases y <;> simp only [AV.same, Bool.false_eq_true] at h; rfl
  | .nilf, y, h => by cases y <;> simp only [AV.same, Bool.false_eq_true] at h; rfl
  | .nili, y, h => by cases y <;> simp only [AV.same, Bool.false_eq_true] at h; rfl
  | .agg l, y, h => by cases y <;> simp only [AV.same, Bool.false_eq_true] at h; rw [sameL_eq l _ h]
  | .tup l, y, h => by cases y <;> simp only [AV.same, Bool.false_eq_true] at h; rw [sameL_eq l _ h]
  | .any, y, h => by cases y <;> simp only [AV.same, Bool.false_eq_true] at h
  | .fn _ _ _, y, h => by cases y <;> simp only [AV.same, Bool.false_eq_true] at h
  | .ifc _ _, y, h => by cases y <;> simp only [AV.same, Bool.false_eq_true] at h
theorem sameL_eq : ∀ (x y : List AV), sameL x y = true → x = y
  | [], [], _ => rfl
  | a :: x, b :: y, h => by
    simp only [sameL, Bool.and_eq_true] at h
    rw [same_eq a b h.1, sameL_eq x y h.2]
  | [], _ :: _, h => by simp only [sameL, Bool.false_eq_true] at h
  | _ :: _, [], h => by simp only [sameL, Bool.false_eq_true] at h
end

section
variable {E : Env} {callF : CallY} {Y : YF} {a a' : AF} {h h' : Heap} {v : AV}

theorem evL_congr : ∀ l : List Operand, (∀ x ∈ l, a.ev x = a'.ev x) → evL a l = evL a' l
  | [], _ => rfl
  | x :: l, h => by
    simp only [evL]
    rw [h x (by simp), evL_congr l fun y hy => h y (by simp [hy])]

theorem evP_congr : ∀ l : List (Nat × Operand), (∀ x ∈ l.map (·.2), a.ev x = a'.ev x) → evP a l = evP a' l
  | [], _ => rfl
  | (i, x) :: l, h => by
    simp only [evP]
    rw [h x (by simp), evP_congr l fun y hy => h y (by simp only [List.map_cons, List.mem_cons]; exact .inr hy)]

theorem evO_congr (o : Option Operand) (h : ∀ x ∈ o.toArray, a.ev x = a'.ev x) : evO a o = evO a' o := by
  cases o with
  | none => rfl
  | some x => simp only [evO]; rw [h x (by simp)]

/-- what an operation does hangs on its operands alone -/
theorem evalOp_congr (op : Op) (hx : ∀ x ∈ op.operands, a.ev x = a'.ev x) (h : Heap) : evalOp E callF Y op a h = evalOp E callF Y op a' h := by
  cases op <;> simp only [Op.operands] at hx
  case build t ps =>
    simp only [evalOp]
    rw [evP_congr ps.toList fun x hm => hx x (by simpa using hm)]
  case buildSlice t n ps =>
    simp only [evalOp]
    rw [evP_congr ps.toList fun x hm => hx x (by simpa using hm)]
  case makeFunc f fs cs =>
    simp only [evalOp]
    rw [evL_congr fs.toList fun x hm => hx x (by simp only [Array.mem_append]; exact .inl (by simpa using hm)),
      evL_congr cs.toList fun x hm => hx x (by simp only [Array.mem_append]; exact .inr (by simpa using hm))]
  case slice t x lo hi mx =>
    simp only [evalOp]
    rw [hx x (by simp), evO_congr lo fun y hm => hx y (by simp only [Array.mem_append]; exact .inl (.inl (.inr hm))),
      evO_congr hi fun y hm => hx y (by simp only [Array.mem_append]; exact .inl (.inr hm)), evO_congr mx fun y hm => hx y (by simp only [Array.mem_append]; exact .inr hm)]
  case call c =>
    simp only [evalOp, doCall]
    have hargs : ∀ x ∈ c.args.toList, a.ev x = a'.ev x := fun x hm => hx x (by
      unfold Call.operands
      cases c.callee <;> simp only [Array.mem_append] <;> first | exact .inr (by simpa using hm) | exact by simpa using hm)
    split
    · rename_i f hc
      rw [hx f (by simp [Call.operands, hc]), evL_congr _ hargs]
    · rw [evL_congr _ hargs]
    · rfl
  case next x s => simp only [evalOp]; cases s <;> simp only [] <;> rw [hx x (by simp)]
  case makeMap t r => cases r <;> simp only [evalOp]
  all_goals first
    | rfl
    | (simp only [evalOp]; simp only [Array.mem_def, List.mem_cons, List.not_mem_nil, or_false, forall_eq_or_imp, forall_eq] at hx; simp only [hx])

end
end Ev
end Go.Proofs.YtodemhmfnokomaaGreatDoor
namespace Go.Proofs.YtodemhmfnokomaaGreatDoor
namespace Ev
open Go

section
variable {E : Env} {callF : CallY} {Y : YF} {a : AF} {h h' : Heap} {v : AV}

theorem pv_u {r : PRes} (he : pv r h = .ok v h') : h' = h ∧ ∀ h2, pv r h2 = .ok v h2 := by
  cases r with
  | ok u => cases he; exact ⟨rfl, fun _ => rfl⟩
  | fail => cases he

theorem build_u (P : Program) (t : TypeId) (ps : List (Nat × AV)) (_h : Heap) : ∃ r, ∀ h, doBuild P t ps h = pv r h := by
  unfold doBuild
  cases zeroA P t with
  | none => exact ⟨.fail, fun _ => rfl⟩
  | some zero =>
    cases P.underlying t with
    | none => exact ⟨.fail, fun _ => rfl⟩
    | some D =>
      cases D with
      | struct fields =>
        simp only
        cases fieldPlaces P fields.toList with
        | none => exact ⟨.fail, fun _ => rfl⟩
        | some pl =>
          simp only
          cases fillA (nthO pl) zero ps with
          | none => exact ⟨.fail, fun _ => rfl⟩
          | some cs => exact ⟨.ok (.agg cs), fun _ => rfl⟩
      | array len e =>
        simp only
        cases szA P e with
        | none => exact ⟨.fail, fun _ => rfl⟩
        | some n =>
          simp only
          cases fillA (fun i => some (Nat.mul i n, n)) zero ps with
          | none => exact ⟨.fail, fun _ => rfl⟩
          | some cs => exact ⟨.ok (.agg cs), fun _ => rfl⟩
      | _ => exact ⟨.fail, fun _ => rfl⟩

theorem callee_kind {c : Call} {k : Kd} (hk : kindOf (.call c) = k) (hne : k ≠ .chain) : ∃ b, c.callee = .builtin b ∧ ((b = .len ∧ k = .read) ∨ ((b = .min ∨ b = .max ∨ b = .cap) ∧ k = .pure)) := by
  subst hk
  simp only [kindOf] at hne ⊢
  split
  · rename_i b hb
    rw [hb] at hne
    refine ⟨b, hb, ?_⟩
    cases b <;> simp at hne ⊢
  · rename_i hb
    split at hne
    · rename_i b hb'; exact absurd hb' (hb b)
    · exact absurd rfl hne

theorem builtin_pure {b : Builtin} (hb : b = .min ∨ b = .max ∨ b = .cap) {P : Program} {ats : List TypeId} {args : List AV} : ∃ r, ∀ h, doBuiltin P b ats args h = pv r h := by
  rcases hb with rfl | rfl | rfl
  · match args with
    | [x, y] => exact ⟨_, fun _ => rfl⟩
    | [] => exact ⟨.fail, fun _ => rfl⟩
    | [_] => exact ⟨.fail, fun _ => rfl⟩
    | _ :: _ :: _ :: _ => exact ⟨.fail, fun _ => rfl⟩
  · match args with
    | [x, y] => exact ⟨_, fun _ => rfl⟩
    | [] => exact ⟨.fail, fun _ => rfl⟩
    | [_] => exact ⟨.fail, fun _ => rfl⟩
    | _ :: _ :: _ :: _ => exact ⟨.fail, fun _ => rfl⟩
  · match args with
    | [x] => exact ⟨_, fun _ => rfl⟩
    | [] => exact ⟨.fail, fun _ => rfl⟩
    | _ :: _ :: _ => exact ⟨.fail, fun _ => rfl⟩

theorem cond_ok {c : Bool} {x : VRes} (he : (bif c then x else .fail) = .ok v h') : c = true ∧ x = .ok v h' := by
  cases c
  · cases he
  · exact ⟨rfl, he⟩

/-- an operation of kind pure -/
theorem pure_u (op : Op) (hk : kindOf op = .pure) : ∃ r, ∀ h, evalOp E callF Y op a h = pv r h := by
  cases op <;> simp only [kindOf, reduceCtorEq] at hk
  case call c =>
    obtain ⟨b, hb, ⟨_, h2⟩ | ⟨h1, _⟩⟩ := callee_kind (k := .pure) (by simpa only [kindOf] using hk) (by simp)
    · cases h2
    · obtain ⟨r, hr⟩ := builtin_pure h1 (P := E.P) (ats := c.argTypes.toList) (args := evL a c.args.toList)
      exact ⟨r, fun h => by simp only [evalOp, doCall, hb]; exact hr h⟩
  case build t ps => obtain ⟨r, hr⟩ := build_u E.P t (evP a ps.toList) ⟨0, .nil⟩; exact ⟨r, fun h => by simp only [evalOp]; exact hr h⟩
  case move x => exact ⟨.ok (a.ev x), fun _ => rfl⟩
  case assign x => exact ⟨.ok (a.ev x), fun _ => rfl⟩
  case pick c x y =>
    simp only [evalOp]
    cases a.ev c with
    | bool b => exact ⟨.ok _, fun _ => rfl⟩
    | _ => exact ⟨.fail, fun _ => rfl⟩
  case nilCheck x =>
    simp only [evalOp]
    cases a.ev x with
    | ptr b o => exact ⟨.ok _, fun _ => rfl⟩
    | gl b o => exact ⟨.ok _, fun _ => rfl⟩
    | fn f l r => cases f with
      | method m => exact ⟨.fail, fun _ => rfl⟩
      | _ => exact ⟨.ok _, fun _ => rfl⟩
    | ifc t v => exact ⟨.ok _, fun _ => rfl⟩
    | _ => exact ⟨.fail, fun _ => rfl⟩
  case makeInterface t x =>
    simp only [evalOp]
    cases E.P.underlying t with
    | none => exact ⟨.fail, fun _ => rfl⟩
    | some D => cases D with
      | interface m => exact ⟨.fail, fun _ => rfl⟩
      | _ => exact ⟨.ok _, fun _ => rfl⟩
  case makeFunc fn first captured =>
    simp only [evalOp]
    cases fn with
    | yield l => exact ⟨.fail, fun _ => rfl⟩
    | _ => exact ⟨.ok _, fun _ => rfl⟩
  case extract t i =>
    simp only [evalOp]
    cases a.ev t with
    | tup vs => simp only; cases nthO vs i with
      | none => exact ⟨.fail, fun _ => rfl⟩
      | some v => exact ⟨.ok _, fun _ => rfl⟩
    | _ => exact ⟨.fail, fun _ => rfl⟩
  all_goals exact ⟨_, fun _ => rfl⟩

theorem trOf_u (l : List AV) : ∀ (i : Nat) (t : Tr AV), ∃ t' n, ∀ f, trOf l i t f = f t' n := by
  induction l with
  | nil => exact fun i t => ⟨t, i, fun _ => rfl⟩
  | cons x r ih =>
    intro i t
    obtain ⟨t', n, hf⟩ := ih (Nat.succ i) (t.set i (some x))
    exact ⟨t', n, fun f => by simp only [trOf, Tr.setK_eq]; exact hf f⟩

theorem newCells_u (ty : TypeId) (ex : Bool) (l : List AV) : ∃ B : Blk, B.own = true ∧ ∀ h f, newCells ty ex h l f = f h.next ⟨h.next + 1, h.tr.set h.next (some B)⟩ := by
  obtain ⟨t, n, ht⟩ := trOf_u l 0 .nil
  exact ⟨.cells ty n t false ex, rfl, fun h f => by obtain ⟨next, tr⟩ := h; simp only [newCells, ht, Tr.setK_eq]⟩

/-- an operation of kind read -/
theorem read_same (op : Op) (hk : kindOf op = .read) (he : evalOp E callF Y op a h = .ok v h') (hn : h'.next = h.next) : h' = h := by
  cases op <;> simp only [kindOf, reduceCtorEq] at hk
  case call c =>
    obtain ⟨b, hb, ⟨h1, _⟩ | ⟨_, h2⟩⟩ := callee_kind (k := .read) (by simpa only [kindOf] using hk) (by simp)
    · subst h1
      simp only [evalOp, doCall, hb, doBuiltin] at he
      split at he
      · exact (pv_u he).1
      · cases he
    · cases h2
  case load t x =>
    simp only [evalOp, doLoad] at he
    repeat' split at he
    all_goals first
      | (cases he; done)
      | (cases he; rfl)
      | (obtain ⟨_, he⟩ := cond_ok he; cases he; rfl)
  case convert s d x =>
    have nc : ∀ (ty : TypeId) (ex : Bool) (l : List AV) (f : Nat → AV), newCells ty ex h l (fun b h' => .ok (f b) h') = .ok v h' → h' = h := fun ty ex l f e => by
      obtain ⟨B, _, hB⟩ := newCells_u ty ex l
      rw [hB] at e
      cases e
      simp only at hn
      omega
    simp only [evalOp, doConvert] at he
    repeat' split at he
    all_goals first
      | (cases he; done)
      | (cases he; rfl)
      | (revert he; cases Nat.ble _ _ <;> intro he <;> first | (cases he; done) | (cases he; rfl) | exact nc _ _ _ (fun b => .sl b 0 _ 1 false) he)
      | (obtain ⟨_, he⟩ := cond_ok he; first | (cases he; rfl) | ((repeat' split at he) <;> first | (cases he; done) | (cases he; rfl)))
  case entry x =>
    simp only [evalOp, doEntry] at he
    split at he
    · split at he
      · split at he
        · obtain ⟨_, he⟩ := cond_ok he
          split at he
          · cases he; rfl
          · cases he
        · cases he
      · cases he
    · cases he
  case lookup t x k ok =>
    simp only [evalOp, doLookup] at he
    repeat' split at he
    all_goals first
      | (cases he; done)
      | (cases he; rfl)
  case slice t x lo hi mx =>
    simp only [evalOp, doSlice, forceN_eq] at he
    repeat' split at he
    all_goals first
      | (cases he; done)
      | (cases he; rfl)
      | (obtain ⟨_, he⟩ := cond_ok he; cases he; rfl)

/-- an operation of kind make -/
theorem make_u (op : Op) (hk : kindOf op = .make) (he : evalOp E callF Y op a h = .ok v h') :
    ∃ B : Blk, B.own = true ∧ h' = ⟨h.next + 1, h.tr.set h.next (some B)⟩ ∧ ∀ tr, evalOp E callF Y op a ⟨h.next, tr⟩ = .ok v ⟨h.next + 1, tr.set h.next (some B)⟩ := by
  have mk : ∀ {ty ex l} {val : Nat → AV} {g : Heap → VRes}, (∀ h, g h = newCells ty ex h l fun b h' => .ok (val b) h') → g h = .ok v h' →
      ∃ B : Blk, B.own = true ∧ h' = ⟨h.next + 1, h.tr.set h.next (some B)⟩ ∧ ∀ tr, g ⟨h.next, tr⟩ = .ok v ⟨h.next + 1, tr.set h.next (some B)⟩ := by
    intro ty ex l val g hg hh
    obtain ⟨B, h1, h2⟩ := newCells_u ty ex l
    rw [hg, h2] at hh
    cases hh
    exact ⟨B, h1, rfl, fun tr => by rw [hg, h2]⟩
  cases op <;> simp only [kindOf, reduceCtorEq] at hk
  case call c => obtain ⟨b, _, ⟨_, h2⟩ | ⟨_, h2⟩⟩ := callee_kind (k := .make) (by simpa only [kindOf] using hk) (by simp) <;> cases h2
  case alloc e =>
    simp only [evalOp, doAlloc] at he ⊢
    split at he
    · rename_i l hl
      exact mk (g := fun h => newBlk e h l) (fun _ => rfl) he
    · cases he
  case box t x =>
    simp only [evalOp] at he ⊢
    split at he
    · cases he
    · rename_i hx
      exact mk (g := fun h => newBlk t h (a.ev x).cells) (fun _ => rfl) he
  case buildSlice t len ps =>
    simp only [evalOp, doBuildSlice] at he ⊢
    split at he
    · rename_i e hu
      split at he
      · rename_i n z hn hz
        cases hc : (Nat.ble (Nat.mul len n) 16777216 && Nat.beq z.length n) <;> rw [hc] at he <;> simp only [cond_true, cond_false, reduceCtorEq] at he
        split at he
        · rename_i cs hcs
          simp only [cond_true]
          exact mk (g := fun h => newCells e true h cs fun b h' => .ok (.sl b 0 len n true) h') (fun _ => rfl) he
        · cases he
      · cases he
    · cases he
  case makeSlice t l c =>
    simp only [evalOp, doMakeSlice] at he ⊢
    split at he
    · rename_i e hu
      split at he
      · rename_i n z i _ l' _ c' hn hz hi hl hcap
        cases hc : (Nat.ble l' c' && Nat.ble (Nat.mul c' i.bytes) 140737488355328 && Nat.ble c' 140737488355328 && Nat.beq z.length n) <;> rw [hc] at he <;> simp only [cond_true, cond_false, reduceCtorEq] at he
        simp only [cond_true]
        exact mk (g := fun h => newCells e true h (repl c' z) fun b h' => .ok (.sl b 0 l' n (Nat.beq l' c')) h') (fun _ => rfl) he
      · cases he
    · cases he

end
end Ev
end Go.Proofs.YtodemhmfnokomaaGreatDoor
namespace Go.Proofs.YtodemhmfnokomaaGreatDoor
namespace Ev
open Go

structure HF (E : Env) (base : Nat) (ι : Inj) (look : Nat → Option Blk) (w : World) : Prop where
  blk : ∀ b B, look b = some B → ∃ g, ι b = some g ∧ BRel ι base g (w.heap[g.cb]?) B
  sep : ∀ b b' B B' g g', look b = some B → look b' = some B' → ι b = some g → ι b' = some g' → b ≠ b' → (B.own = true ∨ B'.own = true) → g.cb ≠ g'.cb
  glob : ∀ n cs, E.glob n = some cs → n < base ∧ ∃ C T fr, w.heap[n]? = some (.cells C T fr) ∧ VRels ι cs C.toList
  low : ∀ b B g, look b = some B → B.own = false → ι b = some g → g.cb < base
  base : base ≤ w.heap.size

/-- a region under way -/
structure RS (E : Env) (base : Nat) (ι0 : Inj) (h0 : Heap) (w0 : World) (n m : Nat) (ι : Inj) (look : Nat → Option Blk) (w : World) : Prop where
  agree : ∀ b, (b < n ∨ m ≤ b) → ι b = ι0 b
  le : ι0.le ι
  rel : HF E base ι look w
  os : w.os = w0.os
  tape : w.tape = w0.tape
  output : w.output = w0.output
  size : w0.heap.size ≤ w.heap.size
  keep : ∀ k, k < w0.heap.size → ¬ owned ι0 h0 k → w.heap[k]? = w0.heap[k]?
  img : ∀ b B g, look b = some B → B.own = true → ι b = some g → w0.heap.size ≤ g.cb ∨ owned ι0 h0 g.cb

section
variable {E : Env} {base : Nat} {ι ι' ι0 : Inj} {h h' h0 : Heap} {w w' w0 : World} {look look' : Nat → Option Blk} {n m : Nat}

theorem HRel.hf (H : HRel E base ι h w) : HF E base ι h.tr.get w := ⟨H.blk, H.sep, H.glob, H.low, H.base⟩

theorem HF.restrict (H : HF E base ι look w) (hk : ∀ b B, h.tr.get b = some B → b < h.next) (hs : ∀ b B, h.tr.get b = some B → look b = some B) : HRel E base ι h w :=
  ⟨hk, fun b B hb => H.blk b B (hs _ _ hb), fun b b' B B' g g' hb hb' => H.sep b b' B B' g g' (hs _ _ hb) (hs _ _ hb'), H.glob, fun b B g hb => H.low b B g (hs _ _ hb), H.base⟩

theorem HF.cb_lt (H : HF E base ι look w) {b : Nat} {B : Blk} {g : Gh} (hb : look b = some B) (hg : ι b = some g) : g.cb < w.heap.size := by
  obtain ⟨g', hg', r⟩ := H.blk b B hb
  rw [hg] at hg'; cases hg'
  obtain ⟨x, hx⟩ := r.some_obj
  exact lt_of_some hx

theorem HF.base_le (H : HF E base ι look w) {b : Nat} {B : Blk} {g : Gh} (hb : look b = some B) (hg : ι b = some g) (ho : B.own = true) : base ≤ g.cb := by
  obtain ⟨g', hg', r⟩ := H.blk b B hb
  rw [hg] at hg'; cases hg'
  exact r.base_le ho

theorem RS.start (H : HRel E base ι0 h0 w0) (n m : Nat) : RS E base ι0 h0 w0 n m ι0 h0.tr.get w0 :=
  ⟨fun _ _ => rfl, Inj.le_refl _, H.hf, rfl, rfl, rfl, Nat.le_refl _, fun _ _ _ => rfl, fun b B g hb ho hg => .inr ⟨b, B, g, hb, ho, hg, rfl⟩⟩

/-- a step on some of the blocks -/
theorem RS.step (R : RS E base ι0 h0 w0 n m ι look w) (hs : ∀ b B, h.tr.get b = some B → look b = some B) (s : Stp E base ι h w ι' h' w') (hf : Free ι h.next h'.next) (hn : n ≤ h.next) (hm : h'.next ≤ m)
    (hl : ∀ b B, look' b = some B → h'.tr.get b = some B ∨ (look b = some B ∧ h.tr.get b = none ∧ (b < h.next ∨ h'.next ≤ b))) : RS E base ι0 h0 w0 n m ι' look' w' := by
  have hle := s.le hf
  -- a block outside the step
  have other : ∀ b B, look b = some B → h.tr.get b = none → (b < h.next ∨ h'.next ≤ b) → ∀ g, ι' b = some g → ι b = some g ∧ w'.heap[g.cb]? = w.heap[g.cb]? := by
    intro b B hb hno hr g hg
    rw [s.agree b hr] at hg
    refine ⟨hg, s.keep _ (R.rel.cb_lt hb hg) ?_⟩
    rintro ⟨b2, B2, g2, hb2, ho2, hg2, e⟩
    refine R.rel.sep b2 b B2 B g2 g (hs _ _ hb2) hb hg2 hg ?_ (.inl ho2) e
    intro e'; rw [e', hno] at hb2; cases hb2
  have own_old : ∀ k, owned ι h k → w0.heap.size ≤ k ∨ owned ι0 h0 k := by
    rintro k ⟨b, B, g, hb, ho, hg, rfl⟩
    exact R.img b B g (hs _ _ hb) ho hg
  have cross : ∀ b b' B B' g g', h'.tr.get b = some B → look b' = some B' → h.tr.get b' = none → (b' < h.next ∨ h'.next ≤ b') → ι' b = some g → ι' b' = some g' → (B.own = true ∨ B'.own = true) → g.cb ≠ g'.cb := by
    intro b b' B B' g g' hb hb' hno hr hg hg' hown
    obtain ⟨hgo, _⟩ := other b' B' hb' hno hr g' hg'
    have hlt := R.rel.cb_lt hb' hgo
    cases hB : B.own with
    | true =>
      rcases s.img g.cb ⟨b, B, g, hb, hB, hg, rfl⟩ with h1 | ⟨b3, B3, g3, hb3, ho3, hg3, e3⟩
      · omega
      · rw [← e3]
        refine R.rel.sep b3 b' B3 B' g3 g' (hs _ _ hb3) hb' hg3 hgo ?_ (.inl ho3)
        intro e'; rw [e', hno] at hb3; cases hb3
    | false =>
      rw [hB] at hown
      have h1 := s.rel.low b B g hb hB hg
      have h2 := R.rel.base_le hb' hgo (hown.resolve_left (by simp))
      omega
  refine ⟨fun b hb => ?_, Inj.le_trans R.le hle, ⟨?_, ?_, s.rel.glob, ?_, s.rel.base⟩, s.os.trans R.os, s.tape.trans R.tape, s.output.trans R.output, Nat.le_trans R.size s.size, ?_, ?_⟩
  · rw [s.agree b (by omega), R.agree b hb]
  · intro b B hb
    rcases hl b B hb with h1 | ⟨h1, h2, h3⟩
    · exact s.rel.blk b B h1
    · obtain ⟨g, hg, r⟩ := R.rel.blk b B h1
      have hg' := hle _ _ hg
      refine ⟨g, hg', ?_⟩
      rw [(other b B h1 h2 h3 g hg').2]
      exact r.mono hle
  · intro b b' B B' g g' hb hb' hg hg' hne hown
    rcases hl b B hb with h1 | ⟨h1, h2, h3⟩ <;> rcases hl b' B' hb' with k1 | ⟨k1, k2, k3⟩
    · exact s.rel.sep b b' B B' g g' h1 k1 hg hg' hne hown
    · exact cross b b' B B' g g' h1 k1 k2 k3 hg hg' hown
    · exact (cross b' b B' B g' g k1 h1 h2 h3 hg' hg hown.symm).symm
    · exact R.rel.sep b b' B B' g g' h1 k1 (other b B h1 h2 h3 g hg).1 (other b' B' k1 k2 k3 g' hg').1 hne hown
  · intro b B g hb ho hg
    rcases hl b B hb with h1 | ⟨h1, h2, h3⟩
    · exact s.rel.low b B g h1 ho hg
    · exact R.rel.low b B g h1 ho (other b B h1 h2 h3 g hg).1
  · intro k hk hno
    rw [s.keep k (Nat.lt_of_lt_of_le hk R.size) fun o => (own_old k o).elim (fun h => by omega) hno, R.keep k hk hno]
  · intro b B g hb ho hg
    rcases hl b B hb with h1 | ⟨h1, h2, h3⟩
    · rcases s.img g.cb ⟨b, B, g, h1, ho, hg, rfl⟩ with h4 | h4
      · exact .inl (Nat.le_trans R.size h4)
      · exact own_old _ h4
    · exact R.img b B g h1 ho (other b B h1 h2 h3 g hg).1

/-- the region's end -/
theorem RS.done (R : RS E base ι0 h0 w0 h0.next h'.next ι look w) (hn : h0.next ≤ h'.next) (hk : ∀ b B, h'.tr.get b = some B → b < h'.next) (hs : ∀ b B, h'.tr.get b = some B → look b = some B) :
    Stp E base ι0 h0 w0 ι h' w :=
  ⟨hn, R.agree, R.rel.restrict hk hs, R.os, R.tape, R.output, R.size, R.keep, fun _k ⟨b, B, g, hb, ho, hg, e⟩ => e ▸ R.img b B g (hs _ _ hb) ho hg⟩

end
end Ev
end Go.Proofs.YtodemhmfnokomaaGreatDoor
namespace Go.Proofs.YtodemhmfnokomaaGreatDoor
namespace Ev
open Go

structure Sd where
  p : PI
  a : AF
  h : Heap
  hs : List Heap
  k : Nat
  v : AV
  h' : Heap

def Sd.ch (s : Sd) : Bool := isChain s.p.kd

def putA (a : AF) (d : Option Tmp) (v : AV) : Option AF := putK none a d v some

section
variable (E : Env) (callF : CallY) (Y : YF) (ops : Array Oper)

/-- what a step does -/
def Sd.Good (s : Sd) : Prop :=
  (wantA ops s.p.o s.a = .no ∧ s.v = undefA ∧ s.h' = s.h) ∨
  (wantA ops s.p.o s.a = .yes ∧ (match s.p.kd with
    | .read => readV (fun h => evalOp E callF Y s.p.o.op s.a h) (Nat.sub s.k s.p.a) s.hs = some s.v ∧ s.h' = s.h
    | .chain => isDefer s.p.o.op = false ∧ evalOp E callF Y s.p.o.op s.a s.h = .ok s.v s.h'
    | .pure => evalOp E callF Y s.p.o.op s.a s.h = .ok s.v s.h'
    | .make => evalOp E callF Y s.p.o.op s.a s.h = .ok s.v s.h'))

def Runs : List Sd → AF → Heap → List Heap → Nat → AF → Heap → Prop
  | [], a, h, _, _, aF, hF => a = aF ∧ h = hF
  | s :: r, a, h, hs, k, aF, hF => s.a = a ∧ s.h = h ∧ s.hs = hs ∧ s.k = k ∧ s.Good E callF Y ops ∧
    ∃ a1, putA a s.p.o.dst s.v = some a1 ∧ Runs r a1 s.h' (bif s.ch then s.h' :: hs else hs) (bif s.ch then k + 1 else k) aF hF

variable {E callF Y ops}

theorem putK_inv {a : AF} {d : Option Tmp} {v : AV} {f : AF → FRes} {a' : AF} {h' : Heap} (he : putK .fail a d v f = .ok a' h') : ∃ a1, putA a d v = some a1 ∧ f a1 = .ok a' h' := by
  cases d with
  | none => exact ⟨a, rfl, he⟩
  | some t =>
    obtain ⟨sz, m, ds⟩ := a
    simp only [putA, putK] at he ⊢
    cases hb : Nat.ble (Nat.succ t) sz <;> rw [hb] at he <;> simp only [cond_true, cond_false, reduceCtorEq] at he ⊢
    rw [tmpsSetK_eq] at he
    exact ⟨_, by rw [tmpsSetK_eq], he⟩

theorem putA_get {a a1 : AF} {d : Option Tmp} {v : AV} (h : putA a d v = some a1) (hz : a.sz ≤ 448) : a1.sz = a.sz ∧ a1.ds = a.ds ∧ (∀ t, d = some t → a1.get t = v) ∧ ∀ t, d ≠ some t → a1.get t = a.get t := by
  cases d with
  | none => simp only [putA, putK, Option.some.injEq] at h; subst h; exact ⟨rfl, rfl, fun t e => (by cases e), fun _ _ => rfl⟩
  | some s =>
    obtain ⟨sz, m, ds⟩ := a
    simp only [putA, putK] at h
    cases hb : Nat.ble (Nat.succ s) sz <;> rw [hb] at h <;> simp only [cond_true, cond_false, reduceCtorEq] at h
    rw [tmpsSetK_eq] at h
    cases h
    have hlt : @LT.lt Nat _ s sz := nble_iff hb
    refine ⟨rfl, rfl, fun t e => ?_, fun t e => ?_⟩
    · cases e
      rw [AF.get_eq, tmpsGet_set_same]
    · rw [AF.get_eq, AF.get_eq]
      exact tmpsGet_set_ne _ _ (pth_ne (Nat.lt_of_lt_of_le hlt hz) fun e' => e (by rw [e']))

theorem putA_fail {a : AF} {d : Option Tmp} {v : AV} {a1 : AF} (h : putA a d v = some a1) : putK none a d v some = some a1 := h

theorem draw_runs : ∀ (pl : List PI) (a : AF) (h : Heap) (hs : List Heap) (k : Nat) (a' : AF) (h' : Heap), evalDraw E callF Y ops pl a h hs k = .ok a' h' →
    ∃ sts : List Sd, sts.map (·.p) = pl ∧ Runs E callF Y ops sts a h hs k a' h'
  | [], a, h, hs, k, a', h', he => by simp only [evalDraw, FRes.ok.injEq] at he; exact ⟨[], rfl, he⟩
  | p :: rest, a, h, hs, k, a', h', he => by
    simp only [evalDraw] at he
    split at he
    · rename_i hw
      split at he
      · rename_i hk
        split at he
        · rename_i v hv
          obtain ⟨a1, h1, h2⟩ := putK_inv he
          obtain ⟨sts, h3, h4⟩ := draw_runs rest _ _ _ _ _ _ h2
          exact ⟨⟨p, a, h, hs, k, v, h⟩ :: sts, by rw [List.map_cons, h3], rfl, rfl, rfl, rfl, .inr ⟨hw, by simp only [hk, and_true]; exact hv⟩, a1, h1, by simpa only [Sd.ch, hk, isChain, cond_false] using h4⟩
        · cases he
      · rename_i hk
        cases hd : isDefer p.o.op <;> rw [hd] at he <;> simp only [cond_true, cond_false, reduceCtorEq] at he
        split at he
        · rename_i v h1 hop
          obtain ⟨a1, h2, h3⟩ := putK_inv he
          obtain ⟨sts, h4, h5⟩ := draw_runs rest _ _ _ _ _ _ h3
          exact ⟨⟨p, a, h, hs, k, v, h1⟩ :: sts, by rw [List.map_cons, h4], rfl, rfl, rfl, rfl, .inr ⟨hw, by simp only [hk]; exact ⟨hd, hop⟩⟩, a1, h2, by simpa only [Sd.ch, hk, isChain, cond_true] using h5⟩
        · cases he
      · rename_i h1 h2
        split at he
        · rename_i v h3 hop
          obtain ⟨a1, h4, h5⟩ := putK_inv he
          obtain ⟨sts, h6, h7⟩ := draw_runs rest _ _ _ _ _ _ h5
          refine ⟨⟨p, a, h, hs, k, v, h3⟩ :: sts, by rw [List.map_cons, h6], rfl, rfl, rfl, rfl, .inr ⟨hw, ?_⟩, a1, h4, ?_⟩
          · cases hk : p.kd with
            | read => exact absurd hk h1
            | chain => exact absurd hk h2
            | pure => exact hop
            | make => exact hop
          · have hc : isChain p.kd = false := by
              cases hk : p.kd with
              | chain => exact absurd hk h2
              | _ => rfl
            simpa only [Sd.ch, hc, cond_false] using h7
        · cases he
    · rename_i hw
      split at he
      · rename_i hk
        obtain ⟨a1, h1, h2⟩ := putK_inv he
        obtain ⟨sts, h3, h4⟩ := draw_runs rest _ _ _ _ _ _ h2
        exact ⟨⟨p, a, h, hs, k, undefA, h⟩ :: sts, by rw [List.map_cons, h3], rfl, rfl, rfl, rfl, .inl ⟨hw, rfl, rfl⟩, a1, h1, by simpa only [Sd.ch, hk, isChain, cond_true] using h4⟩
      · rename_i hk
        obtain ⟨a1, h1, h2⟩ := putK_inv he
        obtain ⟨sts, h3, h4⟩ := draw_runs rest _ _ _ _ _ _ h2
        have hc : isChain p.kd = false := by
          cases hk' : p.kd with
          | chain => exact absurd hk' hk
          | _ => rfl
        exact ⟨⟨p, a, h, hs, k, undefA, h⟩ :: sts, by rw [List.map_cons, h3], rfl, rfl, rfl, rfl, .inl ⟨hw, rfl, rfl⟩, a1, h1, by simpa only [Sd.ch, hc, cond_false] using h4⟩
    · cases he

def chs (l : List Sd) : List Sd := l.filter (·.ch)

theorem chs_cons (s : Sd) (l : List Sd) : chs (s :: l) = bif s.ch then s :: chs l else chs l := by
  simp only [chs, List.filter_cons]
  cases s.ch <;> rfl

theorem chs_append (l r : List Sd) : chs (l ++ r) = chs l ++ chs r := by simp [chs]

/-- a run cut in two -/
theorem runs_append : ∀ (l r : List Sd) (a : AF) (h : Heap) (hs : List Heap) (k : Nat) (aF : AF) (hF : Heap), Runs E callF Y ops (l ++ r) a h hs k aF hF →
    ∃ a1 h1, Runs E callF Y ops l a h hs k a1 h1 ∧ Runs E callF Y ops r a1 h1 (((chs l).map (·.h')).reverse ++ hs) (k + (chs l).length) aF hF
  | [], r, a, h, hs, k, aF, hF, R => ⟨a, h, ⟨rfl, rfl⟩, by simpa [chs] using R⟩
  | s :: l, r, a, h, hs, k, aF, hF, R => by
    obtain ⟨e1, e2, e3, e4, hg, a1, ha1, R⟩ := R
    obtain ⟨a2, h2, R1, R2⟩ := runs_append l r _ _ _ _ _ _ R
    refine ⟨a2, h2, ⟨e1, e2, e3, e4, hg, a1, ha1, R1⟩, ?_⟩
    rw [chs_cons]
    cases hc : s.ch <;> simp only [hc, cond_true, cond_false] at R2 ⊢
    · exact R2
    · simp only [List.map_cons, List.reverse_cons, List.append_assoc, List.singleton_append, List.length_cons]
      rw [show k + ((chs l).length + 1) = k + 1 + (chs l).length by omega]
      exact R2

/-- the slots behind a run -/
theorem runs_slots : ∀ (l : List Sd) (a : AF) (h : Heap) (hs : List Heap) (k : Nat) (aF : AF) (hF : Heap), Runs E callF Y ops l a h hs k aF hF → a.sz ≤ 448 →
    aF.sz = a.sz ∧ aF.ds = a.ds ∧ ∀ t, (∃ q ∈ l, q.p.o.dst = some t ∧ aF.get t = q.v) ∨ ((∀ q ∈ l, q.p.o.dst ≠ some t) ∧ aF.get t = a.get t)
  | [], a, h, hs, k, aF, hF, R, _ => by obtain ⟨rfl, rfl⟩ := R; exact ⟨rfl, rfl, fun t => .inr ⟨by simp, rfl⟩⟩
  | s :: l, a, h, hs, k, aF, hF, R, hz => by
    obtain ⟨e1, e2, e3, e4, hg, a1, ha1, R⟩ := R
    obtain ⟨p1, p2, p3, p4⟩ := putA_get ha1 hz
    obtain ⟨q1, q2, q3⟩ := runs_slots l _ _ _ _ _ _ R (by rw [p1]; exact hz)
    refine ⟨q1.trans p1, q2.trans p2, fun t => ?_⟩
    rcases q3 t with ⟨q, h1, h2, h3⟩ | ⟨h1, h2⟩
    · exact .inl ⟨q, List.mem_cons_of_mem _ h1, h2, h3⟩
    · by_cases hd : s.p.o.dst = some t
      · exact .inl ⟨s, List.mem_cons_self .., hd, by rw [h2, p3 t hd]⟩
      · refine .inr ⟨fun q hq => ?_, by rw [h2, p4 t hd]⟩
        rcases List.mem_cons.1 hq with rfl | hq
        · exact hd
        · exact h1 q hq

theorem good_mono (hmC : MonoC callF) (hmY : MonoY Y) {s : Sd} (hg : s.Good E callF Y ops) : s.h.next ≤ s.h'.next := by
  rcases hg with ⟨_, _, e⟩ | ⟨_, hg⟩
  · rw [e]; exact Nat.le_refl _
  · split at hg
    · rw [hg.2]; exact Nat.le_refl _
    · exact mono_op E hmC hmY _ _ _ _ _ hg.2
    · exact mono_op E hmC hmY _ _ _ _ _ hg
    · exact mono_op E hmC hmY _ _ _ _ _ hg

theorem runs_mono (hmC : MonoC callF) (hmY : MonoY Y) : ∀ (l : List Sd) (a : AF) (h : Heap) (hs : List Heap) (k : Nat) (aF : AF) (hF : Heap), Runs E callF Y ops l a h hs k aF hF →
    h.next ≤ hF.next ∧ ∀ q ∈ l, h.next ≤ q.h.next ∧ q.h.next ≤ q.h'.next ∧ q.h'.next ≤ hF.next
  | [], a, h, hs, k, aF, hF, R => by obtain ⟨rfl, rfl⟩ := R; exact ⟨Nat.le_refl _, by simp⟩
  | s :: l, a, h, hs, k, aF, hF, R => by
    obtain ⟨e1, e2, e3, e4, hg, a1, ha1, R⟩ := R
    have h1 := good_mono hmC hmY hg
    obtain ⟨h2, h3⟩ := runs_mono hmC hmY l _ _ _ _ _ _ R
    rw [e2] at h1
    refine ⟨by omega, fun q hq => ?_⟩
    rcases List.mem_cons.1 hq with rfl | hq
    · rw [e2]; exact ⟨Nat.le_refl _, h1, h2⟩
    · obtain ⟨h4, h5, h6⟩ := h3 q hq
      exact ⟨by omega, h5, h6⟩

/-- the step makes a block -/
def Sd.Mk (ops : Array Oper) (s : Sd) (B : Blk) : Prop := wantA ops s.p.o s.a = .yes ∧ s.p.kd = .make ∧ s.h'.tr.get s.h.next = some B

def Tl (l : List Sd) (T0 : Heap) : Heap := ((l.getLast?).map (·.h')).getD T0

theorem Tl_cons (s : Sd) (l : List Sd) (T0 : Heap) : Tl (s :: l) T0 = Tl l s.h' := by
  unfold Tl
  cases l with
  | nil => rfl
  | cons x l => rw [List.getLast?_cons_cons]; cases h : (x :: l).getLast? with
    | none => simp at h
    | some y => rfl

theorem Tl_snoc (s : Sd) (l : List Sd) (T0 : Heap) : Tl (l ++ [s]) T0 = s.h' := by simp [Tl]

/-- the kinds are those of the operations -/
def KdOk (l : List Sd) : Prop := ∀ q ∈ l, q.p.kd = kindOf q.p.o.op

theorem runs_heap : ∀ (l : List Sd) (a : AF) (h : Heap) (hs : List Heap) (k : Nat) (aF : AF) (hF : Heap) (T0 : Heap) (X : Nat → Blk → Prop), Runs E callF Y ops l a h hs k aF hF → KdOk l →
    (∀ b B, h.tr.get b = some B → T0.tr.get b = some B ∨ X b B) → ∀ b B, hF.tr.get b = some B →
    (Tl (chs l) T0).tr.get b = some B ∨ (chs l = [] ∧ X b B) ∨ ∃ q ∈ l, q.Mk ops B ∧ q.k = k + (chs l).length ∧ b = q.h.next
  | [], a, h, hs, k, aF, hF, T0, X, R, _, hX, b, B, hb => by
    obtain ⟨rfl, rfl⟩ := R
    rcases hX b B hb with h1 | h1
    · exact .inl h1
    · exact .inr (.inl ⟨rfl, h1⟩)
  | s :: l, a, h, hs, k, aF, hF, T0, X, R, hK, hX, b, B, hb => by
    obtain ⟨e1, e2, e3, e4, hg, a1, ha1, R⟩ := R
    have hkd := hK s (List.mem_cons_self ..)
    have hK' : KdOk l := fun q hq => hK q (List.mem_cons_of_mem _ hq)
    rw [chs_cons]
    cases hc : s.ch <;> simp only [hc, cond_true, cond_false] at R ⊢
    · -- no chain
      have key : ∀ b B, s.h'.tr.get b = some B → T0.tr.get b = some B ∨ (X b B ∨ (s.Mk ops B ∧ b = s.h.next)) := by
        intro b B hb
        have same : s.h' = s.h → T0.tr.get b = some B ∨ (X b B ∨ (s.Mk ops B ∧ b = s.h.next)) := fun e => by
          rw [e, e2] at hb
          rcases hX b B hb with h1 | h1
          · exact .inl h1
          · exact .inr (.inl h1)
        rcases hg with ⟨_, _, e⟩ | ⟨hw, hg⟩
        · exact same e
        · split at hg
          · exact same hg.2
          · rename_i hk; simp only [Sd.ch, hk, isChain, Bool.true_eq_false] at hc
          · rename_i hk
            obtain ⟨r, hr⟩ := pure_u (E := E) (callF := callF) (Y := Y) (a := s.a) s.p.o.op (by rw [← hkd, hk])
            rw [hr] at hg
            exact same (pv_u hg).1
          · rename_i hk
            obtain ⟨B0, _, h2, _⟩ := make_u s.p.o.op (by rw [← hkd, hk]) hg
            have hb0 := hb
            rw [h2] at hb
            simp only [Tr.get_set] at hb
            split at hb
            · rename_i e; cases hb; exact .inr (.inr ⟨⟨hw, hk, by rw [← e]; exact hb0⟩, e⟩)
            · rw [e2] at hb
              rcases hX b B hb with h1 | h1
              · exact .inl h1
              · exact .inr (.inl h1)
      rcases runs_heap l _ _ _ _ _ _ T0 (fun b B => X b B ∨ (s.Mk ops B ∧ b = s.h.next)) R hK' key b B hb with h1 | ⟨h1, h2 | ⟨h2, h3⟩⟩ | ⟨q, h1, h2, h3, h4⟩
      · exact .inl h1
      · exact .inr (.inl ⟨h1, h2⟩)
      · exact .inr (.inr ⟨s, List.mem_cons_self .., h2, by rw [h1, e4]; rfl, h3⟩)
      · exact .inr (.inr ⟨q, List.mem_cons_of_mem _ h1, h2, h3, h4⟩)
    · rw [Tl_cons]
      rcases runs_heap l _ _ _ _ _ _ s.h' (fun _ _ => False) R hK' (fun b B hb => .inl hb) b B hb with h1 | ⟨_, h2⟩ | ⟨q, h1, h2, h3, h4⟩
      · exact .inl h1
      · exact h2.elim
      · exact .inr (.inr ⟨q, List.mem_cons_of_mem _ h1, h2, by rw [h3, List.length_cons]; omega, h4⟩)

end
end Ev
end Go.Proofs.YtodemhmfnokomaaGreatDoor
