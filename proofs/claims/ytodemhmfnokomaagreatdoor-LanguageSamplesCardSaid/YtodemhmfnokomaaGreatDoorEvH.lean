/- Facts and summaries. Conditions: what is said of the library's functions. -/
import Derived.Test.YtodemhmfnokomaaGreatDoorEvKb
import Derived.Below
import Derived.Lib.Join
import Derived.Laws.Externs
namespace Go.Proofs.YtodemhmfnokomaaGreatDoor
namespace Ev
open Go

/-- a block's cells, written out -/
structure Lit where
  b : Nat
  ty : TypeId
  cells : List AV
  deriving Inhabited

/-- a call: its function, its arguments, the blocks that they need (numbers below n0), its value, the blocks that come with it (from n0 on, below n1) -/
structure Fc where
  f : FuncId
  args : List AV
  lin : List Lit
  n0 : Nat
  v : AV
  lout : List Lit
  n1 : Nat

def litTr (l : List AV) : Tr AV := trOf' l 0 .nil
where trOf' : List AV → Nat → Tr AV → Tr AV
  | [], _, t => t
  | x :: r, i, t => trOf' r (Nat.succ i) (t.set i (some x))

def litHeap : List Lit → Tr Blk → Tr Blk
  | [], t => t
  | L :: r, t => litHeap r (t.set L.b (some (.cells L.ty L.cells.length (litTr L.cells) true false)))

def heapOf (F : Fc) : Heap := ⟨F.n0, litHeap F.lin .nil⟩

mutual
/-- a value under new block numbers -/
def ren (r : Nat → Option Nat) : AV → Option AV
  | .bool b => some (.bool b)
  | .nat k n => some (.nat k n)
  | .neg k n => some (.neg k n)
  | .str l c => some (.str l c)
  | .ptr b o => (match r b with | some b' => some (.ptr b' o) | none => none)
  | .gl g o => some (.gl g o)
  | .nilp => some .nilp
  | .sl b o l s u => (match r b with | some b' => some (.sl b' o l s u) | none => none)
  | .nils => some .nils
  | .map b => (match r b with | some b' => some (.map b') | none => none)
  | .nilm => some .nilm
  | .nilf => some .nilf
  | .nili => some .nili
  | .agg l => (match renL r l with | some l' => some (.agg l') | none => none)
  | .tup l => (match renL r l with | some l' => some (.tup l') | none => none)
  | .any => none
  | .fn _ _ _ => none
  | .ifc _ _ => none
def renL (r : Nat → Option Nat) : List AV → Option (List AV)
  | [] => some []
  | x :: l => (match ren r x, renL r l with
    | some x', some l' => some (x' :: l')
    | _, _ => none)
end

mutual
theorem ren_rel {ι κ : Inj} {r : Nat → Option Nat} (h : ∀ b b', r b = some b' → ι b = κ b') : ∀ (x y : AV), ren r x = some y → ∀ u, VRel ι x u ↔ VRel κ y u
  | .bool b, y, e, u => by simp only [ren, Option.some.injEq] at e; subst e; simp only [VRel]
  | .nat k n, y, e, u => by simp only [ren, Option.some.injEq] at e; subst e; simp only [VRel]
  | .neg k n, y, e, u => by simp only [ren, Option.some.injEq] at e; subst e; simp only [VRel]
  | .str l c, y, e, u => by simp only [ren, Option.some.injEq] at e; subst e; simp only [VRel]
  | .gl g o, y, e, u => by simp only [ren, Option.some.injEq] at e; subst e; simp only [VRel]
  | .nilp, y, e, u => by simp only [ren, Option.some.injEq] at e; subst e; simp only [VRel]
  | .nils, y, e, u => by simp only [ren, Option.some.injEq] at e; subst e; simp only [VRel]
  | .nilm, y, e, u => by simp only [ren, Option.some.injEq] at e; subst e; simp only [VRel]
  | .nilf, y, e, u => by simp only [ren, Option.some.injEq] at e; subst e; simp only [VRel]
  | .nili, y, e, u => by simp only [ren, Option.some.injEq] at e; subst e; simp only [VRel]
  | .any, y, e, u => by simp only [ren, reduceCtorEq] at e
  | .fn _ _ _, y, e, u => by simp only [ren, reduceCtorEq] at e
  | .ifc _ _, y, e, u => by simp only [ren, reduceCtorEq] at e
  | .ptr b o, y, e, u => by
    simp only [ren] at e
    split at e
    · rename_i b' hb; cases e; simp only [VRel, h b b' hb]
    · cases e
  | .sl b o l s f, y, e, u => by
    simp only [ren] at e
    split at e
    · rename_i b' hb; cases e; simp only [VRel, h b b' hb]
    · cases e
  | .map b, y, e, u => by
    simp only [ren] at e
    split at e
    · rename_i b' hb; cases e; simp only [VRel, h b b' hb]
    · cases e
  | .agg l, y, e, u => by
    simp only [ren] at e
    split at e
    · rename_i l' hl
      cases e
      simp only [VRel]
      exact ⟨fun ⟨xs, h1, h2⟩ => ⟨xs, h1, (renL_rel h l l' hl _).1 h2⟩, fun ⟨xs, h1, h2⟩ => ⟨xs, h1, (renL_rel h l l' hl _).2 h2⟩⟩
    · cases e
  | .tup l, y, e, u => by
    simp only [ren] at e
    split at e
    · rename_i l' hl
      cases e
      simp only [VRel]
      exact ⟨fun ⟨xs, h1, h2⟩ => ⟨xs, h1, (renL_rel h l l' hl _).1 h2⟩, fun ⟨xs, h1, h2⟩ => ⟨xs, h1, (renL_rel h l l' hl _).2 h2⟩⟩
    · cases e
theorem renL_rel {ι κ : Inj} {r : Nat → Option Nat} (h : ∀ b b', r b = some b' → ι b = κ b') : ∀ (x y : List AV), renL r x = some y → ∀ u, VRels ι x u ↔ VRels κ y u
  | [], y, e, u => by simp only [renL, Option.some.injEq] at e; subst e; simp only [VRels]
  | x :: l, y, e, u => by
    simp only [renL] at e
    split at e
    · rename_i x' l' hx hl
      cases e
      simp only [VRels]
      constructor
      · rintro ⟨a, q, h1, h2, h3⟩; exact ⟨a, q, h1, (ren_rel h x x' hx a).1 h2, (renL_rel h l l' hl q).1 h3⟩
      · rintro ⟨a, q, h1, h2, h3⟩; exact ⟨a, q, h1, (ren_rel h x x' hx a).2 h2, (renL_rel h l l' hl q).2 h3⟩
    · cases e
end

theorem renL_get {r : Nat → Option Nat} : ∀ {l l' : List AV}, renL r l = some l' → l'.length = l.length ∧ ∀ (i : Nat) (x : AV), l[i]? = some x → ∃ y, l'[i]? = some y ∧ ren r x = some y
  | [], l', e => by simp only [renL, Option.some.injEq] at e; subst e; exact ⟨rfl, fun i x h => by simp at h⟩
  | a :: l, l', e => by
    simp only [renL] at e
    split at e
    · rename_i x' l2 hx hl
      cases e
      obtain ⟨h1, h2⟩ := renL_get hl
      refine ⟨by simp [h1], fun i x h => ?_⟩
      cases i with
      | zero => simp at h; subst h; exact ⟨x', by simp, hx⟩
      | succ i => simp at h; obtain ⟨y, h3, h4⟩ := h2 i x h; exact ⟨y, by simpa using h3, h4⟩
    · cases e

/-! ### A fact's tables -/

theorem litTr_get (l : List AV) : ∀ (i : Nat), (litTr l).get i = l[i]? := by
  have key : ∀ (l : List AV) (s : Nat) (t : Tr AV) (i : Nat), (litTr.trOf' l s t).get i = if s ≤ i ∧ i < s + l.length then l[i - s]? else t.get i := by
    intro l
    induction l with
    | nil => intro s t i; rw [if_neg (by simp only [List.length_nil]; omega)]; rfl
    | cons x l ih =>
      intro s t i
      simp only [litTr.trOf']
      rw [ih]
      simp only [List.length_cons, Nat.succ_eq_add_one, Tr.get_set]
      by_cases h1 : s + 1 ≤ i ∧ i < s + 1 + l.length
      · rw [if_pos h1, if_pos (by omega), show i - s = (i - (s + 1)) + 1 by omega]; simp
      · rw [if_neg h1]
        by_cases h2 : i = s
        · rw [if_pos h2, if_pos (by omega), h2]; simp
        · rw [if_neg h2, if_neg (by omega)]
  intro i
  unfold litTr
  rw [key, Tr.get_nil]
  by_cases h : i < l.length
  · rw [if_pos ⟨Nat.zero_le _, by omega⟩]; simp
  · rw [if_neg (by omega)]; exact (List.getElem?_eq_none (by omega)).symm

theorem litHeap_get : ∀ (l : List Lit) (t : Tr Blk) (b : Nat) (B : Blk), (litHeap l t).get b = some B → t.get b = some B ∨ ∃ L ∈ l, L.b = b ∧ B = .cells L.ty L.cells.length (litTr L.cells) true false
  | [], t, b, B, h => .inl h
  | L :: l, t, b, B, h => by
    simp only [litHeap] at h
    rcases litHeap_get l _ b B h with h1 | ⟨L', h1, h2, h3⟩
    · rw [Tr.get_set] at h1
      split at h1
      · rename_i e; cases h1; exact .inr ⟨L, List.mem_cons_self .., e.symm, rfl⟩
      · exact .inl h1
    · exact .inr ⟨L', List.mem_cons_of_mem _ h1, h2, h3⟩

/-- the same cells, from i on -/
def cellsSame (t : Tr AV) : List AV → Nat → Bool
  | [], _ => true
  | x :: l, i => (match t.get i with
    | some v => v.same x
    | none => false) && cellsSame t l (Nat.succ i)

theorem cellsSame_get (t : Tr AV) : ∀ (l : List AV) (s : Nat), cellsSame t l s = true → ∀ i x, l[i]? = some x → t.get (s + i) = some x
  | [], s, _, i, x, h => by simp at h
  | a :: l, s, e, i, x, h => by
    simp only [cellsSame, Bool.and_eq_true] at e
    cases i with
    | zero =>
      simp at h; subst h
      have := e.1
      split at this
      · rename_i v hv; rw [Nat.add_zero, hv, same_eq _ _ this]
      · cases this
    | succ i =>
      simp at h
      have := cellsSame_get t l (Nat.succ s) e.2 i x h
      rw [show s + (i + 1) = Nat.succ s + i by omega]; exact this

/-- a block holds a literal's cells -/
def holdsLit (h : Heap) (b : Nat) (ty : TypeId) (cs : List AV) : Bool := match h.tr.get b with
  | some (.cells ty' sz t _ _) => Nat.beq ty' ty && Nat.ble cs.length sz && cellsSame t cs 0
  | _ => false

/-- the fact's own check of a run -/
def chkFact (F : Fc) (r : VRes) : Bool := match r with
  | .ok v h1 => v.same F.v && F.lout.all (fun L => Nat.ble F.n0 L.b && Nat.ble (Nat.succ L.b) F.n1 && (match h1.tr.get L.b with
    | some (.cells ty sz t false _) => Nat.beq ty L.ty && Nat.beq sz L.cells.length && cellsSame t L.cells 0
    | _ => false)) && F.lin.all (fun L => Nat.ble (Nat.succ L.b) F.n0)
  | .fail => false

/-- what a fact says -/
def FactOk (E : Env) (F : Fc) : Prop := (∀ L ∈ F.lin, L.b < F.n0) ∧ (∀ L ∈ F.lout, F.n0 ≤ L.b ∧ L.b < F.n1) ∧
  ∀ (w : World) (ι0 : Inj) (args' : Array Value), HRel E w.heap.size ι0 (heapOf F) w → (∀ b, F.n0 ≤ b → ι0 b = none) → VRels ι0 F.args args'.toList →
    CallRes E F.f args' w fun e w' => ∃ ι1 h1 v', e = .returned v' ∧ VRel ι1 F.v v' ∧ Stp E w.heap.size ι0 (heapOf F) w ι1 h1 w' ∧
      ∀ L ∈ F.lout, ∃ t ex, h1.tr.get L.b = some (.cells L.ty L.cells.length t false ex) ∧ ∀ i x, L.cells[i]? = some x → t.get i = some x

def noY : YF := fun _ _ _ => .fail

theorem noY_ok (E : Env) (base : Nat) (ι : Inj) : YOk E base ι noY := fun κ _ l args h v h' args' w e => by simp only [noY, reduceCtorEq] at e
theorem noY_mono : MonoY noY := fun _ _ _ => .fail _

theorem CallRes.mono {E : Env} {f : FuncId} {args' : Array Value} {w : World} {R R' : Ending → World → Prop} (h : CallRes E f args' w R) (hr : ∀ e w', R e w' → R' e w') : CallRes E f args' w R' := by
  rcases h with ⟨h1, v', w', h2, h3⟩ | ⟨h1, h2⟩
  · exact .inl ⟨h1, v', w', h2, hr _ _ h3⟩
  · exact .inr ⟨h1, h2.mono hr⟩

/-- **A fact, out of a run.** -/
theorem factOk_of {E : Env} {idle : IdleF} {bad : FuncId → Bool} {S : Summ} (hP : ProgOk E idle bad) (hS : ∀ base, SummOk E base S) (hb : ∀ f, bad f = true → S f ≠ none) (n : Nat) (F : Fc) (hr : chkFact F (callR E idle S n noY F.f F.args (heapOf F)) = true) : FactOk E F := by
  rw [callR_eq] at hr
  unfold chkFact at hr
  split at hr
  · rename_i v h1 he
    simp only [Bool.and_eq_true, List.all_eq_true] at hr
    obtain ⟨⟨hv, hout⟩, hin⟩ := hr
    refine ⟨fun L hL => nble_iff (hin L hL), fun L hL => ⟨nble_iff (hout L hL).1.1, nble_iff (hout L hL).1.2⟩, fun w ι0 args' H hf hargs => ?_⟩
    refine (calls_ok hP (hS _) hb n ι0 noY noY_mono (noY_ok _ _ _) F.f F.args (heapOf F) v h1 args' w he H (fun b hb2 _ => hf b hb2) hargs).mono ?_
    rintro e w' ⟨ι1, v', rfl, h2, h3⟩
    refine ⟨ι1, h1, v', rfl, by rw [← same_eq _ _ hv]; exact h2, h3, fun L hL => ?_⟩
    have := (hout L hL).2
    split at this
    · rename_i ty sz t ex hb
      simp only [Bool.and_eq_true] at this
      obtain ⟨⟨k1, k2⟩, k3⟩ := this
      refine ⟨t, ex, by rw [hb, nbeq_iff k1, nbeq_iff k2], fun i x hx => ?_⟩
      have := cellsSame_get t L.cells 0 k3 i x hx
      rwa [Nat.zero_add] at this
    · cases this
  · cases hr

end Ev
end Go.Proofs.YtodemhmfnokomaaGreatDoor
namespace Go.Proofs.YtodemhmfnokomaaGreatDoor
namespace Ev
open Go

def lookN : List (Nat × Nat) → Nat → Option Nat
  | [], _ => none
  | (a, b) :: r, k => bif Nat.beq a k then some b else lookN r k

/-- an input block's number at the place of the call -/
def rIn (σ : List (Nat × Nat)) (n0 hn : Nat) (b : Nat) : Option Nat := bif Nat.ble n0 b then none else match lookN σ b with
  | some b' => bif Nat.ble (Nat.succ b') hn then some b' else none
  | none => none

/-- any block's number -/
def rOut (σ : List (Nat × Nat)) (n0 n1 hn : Nat) (b : Nat) : Option Nat := bif Nat.ble n0 b then (bif Nat.ble (Nat.succ b) n1 then some (Nat.add hn (Nat.sub b n0)) else none) else rIn σ n0 hn b

/-- two values laid side by side: which block is which -/
def uni : AV → AV → List (Nat × Nat) → List (Nat × Nat)
  | .ptr b _, .ptr b' _, σ => (b, b') :: σ
  | .sl b _ _ _ _, .sl b' _ _ _ _, σ => (b, b') :: σ
  | .map b, .map b', σ => (b, b') :: σ
  | _, _, σ => σ

def uniL : List AV → List AV → List (Nat × Nat) → List (Nat × Nat)
  | x :: l, y :: l', σ => (match x, y with
    | .agg k, .agg k' => uniL l l' (uniF k k' σ)
    | x, y => uniL l l' (uni x y σ))
  | _, _, σ => σ
where uniF : List AV → List AV → List (Nat × Nat) → List (Nat × Nat)
  | x :: l, y :: l', σ => uniF l l' (uni x y σ)
  | _, _, σ => σ

/-- the blocks of the inputs, found one behind the other -/
def findSub (h : Heap) : List Lit → List (Nat × Nat) → List (Nat × Nat)
  | [], σ => σ
  | L :: r, σ => (match lookN σ L.b with
    | some b' => (match cellsAt h b' 0 L.cells.length with
      | some cs => findSub h r (uniL L.cells cs σ)
      | none => σ)
    | none => findSub h r σ)

def inOk (h : Heap) (r : Nat → Option Nat) : List Lit → Bool
  | [] => true
  | L :: l => (match r L.b, renL r L.cells with
    | some b', some cs => holdsLit h b' L.ty cs
    | _, _ => false) && inOk h r l

def addLits (r : Nat → Option Nat) : List Lit → Tr Blk → Option (Tr Blk)
  | [], t => some t
  | L :: l, t => (match r L.b, renL r L.cells with
    | some b', some cs => addLits r l (t.set b' (some (.cells L.ty L.cells.length (litTr cs) false false)))
    | _, _ => none)

def applyFc (F : Fc) (args : List AV) (h : Heap) : VRes :=
  let σ := findSub h F.lin (uniL F.args args [])
  match renL (rIn σ F.n0 h.next) F.args with
  | some args2 => bif sameL args2 args && inOk h (rIn σ F.n0 h.next) F.lin then (match ren (rOut σ F.n0 F.n1 h.next) F.v, addLits (rOut σ F.n0 F.n1 h.next) F.lout h.tr with
    | some v, some tr => .ok v ⟨Nat.add h.next (Nat.sub F.n1 F.n0), tr⟩
    | _, _ => .fail) else .fail
  | none => .fail

def litOf : List Lit → Nat → Option Lit
  | [], _ => none
  | L :: r, b => bif Nat.beq L.b b then some L else litOf r b

/-- a first look at a value -/
def preV : AV → AV → Bool
  | .nat _ m, .nat _ n => Nat.beq m n
  | .str l c, .str l' c' => Nat.beq l l' && Nat.beq c c'
  | .neg _ m, .neg _ n => Nat.beq m n
  | .nat _ _, .neg _ _ => false
  | .neg _ _, .nat _ _ => false
  | _, _ => true

def preCells (t : Tr AV) : List AV → Nat → Bool
  | [], _ => true
  | x :: l, i => (match t.get i with
    | some v => preV v x
    | none => false) && preCells t l (Nat.succ i)

/-- a first look at a call: the fact's arguments beside its own -/
def preFc (F : Fc) (h : Heap) : List AV → List AV → Bool
  | x :: l, y :: l' => (match x, y with
    | .sl b _ n _ _, .sl b' _ n' _ _ => bif Nat.beq n n' then (match litOf F.lin b with
      | some L => bif Nat.ble L.cells.length 64 then (match h.tr.get b' with
        | some (.cells _ _ t _ _) => preCells t L.cells 0
        | _ => true) else true
      | none => true) else false
    | x, y => preV x y) && preFc F h l l'
  | _, _ => true

def tryFcs : List Fc → List AV → Heap → VRes
  | [], _, _ => .fail
  | F :: r, args, h => bif preFc F h F.args args then (match applyFc F args h with
    | .ok v h' => .ok v h'
    | .fail => tryFcs r args h) else tryFcs r args h

theorem holdsLit_inv {h : Heap} {b : Nat} {ty : TypeId} {cs : List AV} (e : holdsLit h b ty cs = true) :
    ∃ sz t ro ex, h.tr.get b = some (.cells ty sz t ro ex) ∧ cs.length ≤ sz ∧ ∀ i x, cs[i]? = some x → t.get i = some x := by
  unfold holdsLit at e
  split at e
  · rename_i ty' sz t ro ex hb
    simp only [Bool.and_eq_true] at e
    obtain ⟨⟨h1, h2⟩, h3⟩ := e
    refine ⟨sz, t, ro, ex, by rw [hb, nbeq_iff h1], nble_iff h2, fun i x hx => ?_⟩
    have := cellsSame_get t cs 0 h3 i x hx
    rwa [Nat.zero_add] at this
  · cases e

theorem inOk_inv {h : Heap} {r : Nat → Option Nat} : ∀ {l : List Lit}, inOk h r l = true → ∀ L ∈ l, ∃ b' cs, r L.b = some b' ∧ renL r L.cells = some cs ∧ holdsLit h b' L.ty cs = true
  | [], _, L, hL => by cases hL
  | K :: l, e, L, hL => by
    simp only [inOk, Bool.and_eq_true] at e
    rcases List.mem_cons.1 hL with rfl | hL
    · have := e.1
      split at this
      · rename_i b' cs h1 h2; exact ⟨b', cs, h1, h2, this⟩
      · cases this
    · exact inOk_inv e.2 L hL

theorem addLits_get {r : Nat → Option Nat} : ∀ {l : List Lit} {t t' : Tr Blk}, addLits r l t = some t' → ∀ b B, t'.get b = some B →
    (t.get b = some B) ∨ ∃ L ∈ l, ∃ cs, r L.b = some b ∧ renL r L.cells = some cs ∧ B = .cells L.ty L.cells.length (litTr cs) false false
  | [], t, t', e, b, B, hb => by simp only [addLits, Option.some.injEq] at e; subst e; exact .inl hb
  | L :: l, t, t', e, b, B, hb => by
    simp only [addLits] at e
    split at e
    · rename_i b' cs h1 h2
      rcases addLits_get e b B hb with h3 | ⟨K, h3, h4⟩
      · rw [Tr.get_set] at h3
        split at h3
        · rename_i e2; cases h3; exact .inr ⟨L, List.mem_cons_self .., cs, by rw [h1, e2], h2, rfl⟩
        · exact .inl h3
      · exact .inr ⟨K, List.mem_cons_of_mem _ h3, h4⟩
    · cases e

/-- the globals hold no pointers -/
def GlobFlat (E : Env) : Prop := ∀ n cs, E.glob n = some cs → ∀ (ι κ : Inj) l, VRels ι cs l → VRels κ cs l

theorem applyFc_ok {E : Env} {base : Nat} (hG : GlobFlat E) {F : Fc} (hF : FactOk E F) {ι : Inj} {args : List AV} {h : Heap} {v : AV} {h' : Heap} {args' : Array Value} {w : World}
    (he : applyFc F args h = .ok v h') (H : HRel E base ι h w) (hf : Free ι h.next h'.next) (hv : VRels ι args args'.toList) : CallRes E F.f args' w (CallPost E base ι h w v h') := by
  obtain ⟨hlin, hlout, hF⟩ := hF
  unfold applyFc at he
  simp only at he
  generalize findSub h F.lin (uniL F.args args []) = σ at he
  split at he
  · rename_i args2 hargs
    cases hc : (sameL args2 args && inOk h (rIn σ F.n0 h.next) F.lin) <;> rw [hc] at he <;> simp only [cond_true, cond_false, reduceCtorEq] at he
    simp only [Bool.and_eq_true] at hc
    obtain ⟨hc1, hc2⟩ := hc
    have hsame := sameL_eq _ _ hc1
    subst hsame
    split at he
    · rename_i v2 tr hren hadd
      cases he
      -- the inputs' place
      let ι0 : Inj := fun b => if b < F.n0 then (rIn σ F.n0 h.next b).bind ι else none
      have rin_lt : ∀ b b', rIn σ F.n0 h.next b = some b' → b < F.n0 ∧ b' < h.next := by
        intro b b' e
        unfold rIn at e
        rcases Tr.ble_cases F.n0 b with ⟨h1, h2⟩ | ⟨h1, h2⟩ <;> rw [h1] at e <;> simp only [cond_true, cond_false, reduceCtorEq] at e
        split at e
        · rename_i b2 _
          rcases Tr.ble_cases (Nat.succ b2) h.next with ⟨h3, h4⟩ | ⟨h3, h4⟩ <;> rw [h3] at e <;> simp only [cond_true, cond_false, reduceCtorEq] at e
          cases e; exact ⟨h2, h4⟩
        · cases e
      have hι0 : ∀ b b', rIn σ F.n0 h.next b = some b' → ι0 b = ι b' := fun b b' e => by
        simp only [ι0]
        rw [if_pos (rin_lt b b' e).1, e]; rfl
      have hkeys : ∀ b B, (heapOf F).tr.get b = some B → ∃ L ∈ F.lin, L.b = b ∧ B = .cells L.ty L.cells.length (litTr L.cells) true false := fun b B hb => by
        rcases litHeap_get F.lin .nil b B hb with h1 | h1
        · rw [Tr.get_nil] at h1; cases h1
        · exact h1
      have H0 : HRel E w.heap.size ι0 (heapOf F) w := by
        refine ⟨fun b B hb => ?_, fun b B hb => ?_, fun b b' B B' g g' hb hb' _ _ _ hown => ?_, fun n cs hn => ?_, fun b B g hb _ hg => ?_, Nat.le_refl _⟩
        · obtain ⟨L, h1, h2, _⟩ := hkeys b B hb
          rw [← h2]; exact hlin L h1
        · obtain ⟨L, h1, h2, h3⟩ := hkeys b B hb
          obtain ⟨b', cs, k1, k2, k3⟩ := inOk_inv hc2 L h1
          obtain ⟨sz, t, ro, ex, m1, m2, m3⟩ := holdsLit_inv k3
          obtain ⟨g, hg, C, fr, o1, o2, o3, o4, _, _⟩ := H.blk b' _ m1
          obtain ⟨r1, r2⟩ := renL_get k2
          refine ⟨g, by rw [← h2, hι0 _ _ k1]; exact hg, ?_⟩
          rw [h3]
          refine ⟨C, fr, o1, o2, by omega, fun i x hi hx => ?_, fun e => (by cases e), fun e => (by cases e)⟩
          rw [litTr_get] at hx
          obtain ⟨y, r3, r4⟩ := r2 i x hx
          obtain ⟨u, o5, o6⟩ := o4 i y (by omega) (m3 i y r3)
          exact ⟨u, o5, (ren_rel hι0 x y r4 u).2 o6⟩
        · obtain ⟨L, _, _, e1⟩ := hkeys b B hb
          obtain ⟨L', _, _, e2⟩ := hkeys b' B' hb'
          subst e1; subst e2
          rcases hown with h | h <;> cases h
        · obtain ⟨h1, C, T, fr, h2, h3⟩ := H.glob n cs hn
          exact ⟨Nat.lt_of_lt_of_le h1 H.base, C, T, fr, h2, hG n cs hn _ _ _ h3⟩
        · obtain ⟨L, h1, h2, h3⟩ := hkeys b B hb
          obtain ⟨b', cs, k1, k2, k3⟩ := inOk_inv hc2 L h1
          obtain ⟨sz, t, ro, ex, m1, m2, m3⟩ := holdsLit_inv k3
          rw [← h2, hι0 _ _ k1] at hg
          exact H.cb_lt m1 hg
      have hargs0 : VRels ι0 F.args args'.toList := (renL_rel hι0 _ _ hargs _).2 hv
      refine (hF w ι0 args' H0 (fun b hb => by simp only [ι0]; rw [if_neg (by omega)]) hargs0).mono ?_
      rintro e w' ⟨ι1, h1, v', rfl, hv1, s, hout⟩
      have hkeep : ∀ k, k < w.heap.size → w'.heap[k]? = w.heap[k]? := fun k hk => s.keep k hk (by
        rintro ⟨b, B, g, hb, ho, _, _⟩
        obtain ⟨L, _, _, e1⟩ := hkeys b B hb
        subst e1; cases ho)
      simp only at hf
      let hn' : Nat := Nat.add h.next (Nat.sub F.n1 F.n0)
      let ι' : Inj := fun c => if h.next ≤ c ∧ c < hn' then ι1 (F.n0 + (c - h.next)) else ι c
      have hout_of : ∀ c, (c < h.next ∨ hn' ≤ c) → ι' c = ι c := fun c hc => by simp only [ι']; rw [if_neg (by omega)]
      have hle : ι.le ι' := fun c g hg => by
        by_cases hc : h.next ≤ c ∧ c < hn'
        · rw [hf c hc.1 hc.2] at hg; cases hg
        · rw [hout_of c (by omega)]; exact hg
      have hrho : ∀ b b', rOut σ F.n0 F.n1 h.next b = some b' → ι1 b = ι' b' := by
        intro b b' e
        unfold rOut at e
        rcases Tr.ble_cases F.n0 b with ⟨k1, k2⟩ | ⟨k1, k2⟩ <;> rw [k1] at e <;> simp only [cond_true, cond_false] at e
        · rcases Tr.ble_cases (Nat.succ b) F.n1 with ⟨k3, k4⟩ | ⟨k3, k4⟩ <;> rw [k3] at e <;> simp only [cond_true, cond_false, reduceCtorEq, Option.some.injEq] at e
          subst e
          have hb1 : Nat.add h.next (Nat.sub b F.n0) = h.next + (b - F.n0) := rfl
          have hb2 : hn' = h.next + (F.n1 - F.n0) := rfl
          simp only [ι']
          rw [if_pos (by omega), hb1, show F.n0 + (h.next + (b - F.n0) - h.next) = b by omega]
        · have := hι0 b b' e
          have hlt := (rin_lt b b' e).2
          rw [hout_of b' (.inl hlt), ← this]
          exact s.agree b (.inl k2)
      -- what the new blocks are
      have hnew : ∀ b B, tr.get b = some B → (h.tr.get b = some B) ∨ (∃ L ∈ F.lout, ∃ cs, b = h.next + (L.b - F.n0) ∧ b < hn' ∧ h.next ≤ b ∧ ι' b = ι1 L.b ∧ renL (rOut σ F.n0 F.n1 h.next) L.cells = some cs ∧ B = .cells L.ty L.cells.length (litTr cs) false false) := by
        intro b B hb
        rcases addLits_get hadd b B hb with k | ⟨L, k1, cs, k2, k3, k4⟩
        · exact .inl k
        · obtain ⟨l1, l2⟩ := hlout L k1
          have hb1 : b = h.next + (L.b - F.n0) := by
            have := k2
            unfold rOut at this
            rw [Nat.ble_eq_true_of_le l1, Nat.ble_eq_true_of_le (Nat.succ_le_of_lt l2)] at this
            simp only [cond_true, Option.some.injEq] at this
            exact this.symm
          have hb2 : hn' = h.next + (F.n1 - F.n0) := rfl
          exact .inr ⟨L, k1, cs, hb1, by omega, by omega, (hrho _ _ k2).symm, k3, k4⟩
      have hold : ∀ b B, h.tr.get b = some B → b < h.next := H.keys
      have H' : HRel E base ι' ⟨hn', tr⟩ w' := by
        refine ⟨fun b B hb => ?_, fun b B hb => ?_, fun b b' B B' g g' hb hb' hg hg' hne hown => ?_, fun n cs hn => ?_, fun b B g hb ho hg => ?_, Nat.le_trans H.base s.size⟩
        · rcases hnew b B hb with k | ⟨L, k1, cs, k2, k3, _⟩
          · have := hold b B k; show b < h.next + (F.n1 - F.n0); omega
          · exact k3
        · rcases hnew b B hb with k | ⟨L, k1, cs, k2, k3, k4, k5, k6, k7⟩
          · obtain ⟨g, hg, r⟩ := H.blk b B k
            refine ⟨g, hle _ _ hg, ?_⟩
            rw [hkeep _ (H.cb_lt k hg)]; exact r.mono hle
          · obtain ⟨t, ex, m1, m2⟩ := hout L k1
            obtain ⟨g, hg, C, fr, o1, o2, o3, o4, o5, _⟩ := s.rel.blk _ _ m1
            refine ⟨g, by rw [k5]; exact hg, ?_⟩
            rw [k7]
            obtain ⟨r1, r2⟩ := renL_get k6
            refine ⟨C, fr, o1, o2, o3, fun i x hi hx => ?_, fun _ => ?_, fun e => (by cases e)⟩
            · rw [litTr_get] at hx
              have hlt : i < L.cells.length := hi
              obtain ⟨y, r3, r4⟩ := r2 i L.cells[i] (List.getElem?_eq_getElem hlt)
              rw [hx] at r3; cases r3
              obtain ⟨u, o6, o7⟩ := o4 i _ hi (m2 i _ (List.getElem?_eq_getElem hlt))
              exact ⟨u, o6, (ren_rel hrho _ _ r4 u).1 o7⟩
            · exact ⟨Nat.le_trans H.base (o5 rfl).1, (o5 rfl).2⟩
        · have newown : ∀ L ∈ F.lout, ∀ g, ι1 L.b = some g → w.heap.size ≤ g.cb := fun L hL g hg => by
            obtain ⟨t, ex, m1, _⟩ := hout L hL
            exact (s.rel.rel_of m1 hg).base_le rfl
          rcases hnew b B hb with k | ⟨L, k1, cs, k2, k3, k4, k5, k6, k7⟩ <;> rcases hnew b' B' hb' with j | ⟨L', j1, cs', j2, j3, j4, j5, j6, j7⟩
          · rw [hout_of b (.inl (hold b B k))] at hg
            rw [hout_of b' (.inl (hold b' B' j))] at hg'
            exact H.sep b b' B B' g g' k j hg hg' hne hown
          · rw [hout_of b (.inl (hold b B k))] at hg
            rw [j5] at hg'
            have h1 := H.cb_lt k hg
            have h2 := newown L' j1 g' hg'
            omega
          · rw [hout_of b' (.inl (hold b' B' j))] at hg'
            rw [k5] at hg
            have h1 := H.cb_lt j hg'
            have h2 := newown L k1 g hg
            omega
          · rw [k5] at hg
            rw [j5] at hg'
            obtain ⟨t, ex, m1, _⟩ := hout L k1
            obtain ⟨t', ex', m1', _⟩ := hout L' j1
            exact s.rel.sep L.b L'.b _ _ g g' m1 m1' hg hg' (fun e => hne (by rw [k2, j2, e])) (.inl rfl)
        · obtain ⟨h1, C, T, fr, h2, h3⟩ := H.glob n cs hn
          exact ⟨h1, C, T, fr, by rw [hkeep _ (Nat.lt_of_lt_of_le h1 H.base)]; exact h2, h3.mono hle⟩
        · rcases hnew b B hb with k | ⟨L, _, _, _, _, _, _, _, k7⟩
          · rw [hout_of b (.inl (hold b B k))] at hg; exact H.low b B g k ho hg
          · rw [k7] at ho; cases ho
      refine ⟨ι', v', rfl, (ren_rel hrho _ _ hren _).1 hv1, Nat.le_add_right _ _, fun b hb => hout_of b hb, H', s.os, s.tape, s.output, s.size, fun k hk _ => hkeep k hk, ?_⟩
      rintro k ⟨b, B, g, hb, ho, hg, rfl⟩
      rcases hnew b B hb with j | ⟨L, k1, cs, k2, k3, k4, k5, k6, k7⟩
      · rw [hout_of b (.inl (hold b B j))] at hg
        exact .inr ⟨b, B, g, j, ho, hg, rfl⟩
      · rw [k5] at hg
        obtain ⟨t, ex, m1, _⟩ := hout L k1
        exact .inl ((s.rel.rel_of m1 hg).base_le rfl)
    · cases he
  · cases he

end Ev
end Go.Proofs.YtodemhmfnokomaaGreatDoor
namespace Go.Proofs.YtodemhmfnokomaaGreatDoor
namespace Ev
open Go
open Go.RowKit (Below)

def SummAt (E : Env) (base : Nat) (f : FuncId) (s : List AV → Heap → VRes) : Prop := (∀ args h, Mono h.next (s args h)) ∧
  ∀ ι args h v h' (args' : Array Value) w, s args h = .ok v h' → HRel E base ι h w → Free ι h.next h'.next → VRels ι args args'.toList → CallRes E f args' w (CallPost E base ι h w v h')

noncomputable def idxB (len c b : Nat) : AV := Nat.rec (motive := fun _ => Nat → AV) (fun _ => .neg .i64 0)
  (fun n ih i => Bool.rec (motive := fun _ => AV) (fN (Nat.succ i) ih) (.nat .i64 i) (Nat.beq (Nat.mod (Nat.div c (Nat.pow 256 n)) 256) b)) len 0

noncomputable def cntB (len c b : Nat) : AV := Nat.rec (motive := fun _ => Nat → AV) (fun s => .nat .i64 s)
  (fun n ih s => Bool.rec (motive := fun _ => AV) (ih s) (fN (Nat.succ s) ih) (Nat.beq (Nat.mod (Nat.div c (Nat.pow 256 n)) 256) b)) len 0

theorem bsize (s : ByteArray) : s.data.toList.length = s.size := Array.length_toList

/-- the bytes behind one another -/
def joinA (ls cs : Nat) : List AV → Nat → Nat → Option (Nat × Nat)
  | [], l, c => some (l, c)
  | .str l' c' :: r, l, c => joinA ls cs r (Nat.add (Nat.add l ls) l') (Nat.add (Nat.mul (Nat.add (Nat.mul c (Nat.pow 256 ls)) cs) (Nat.pow 256 l')) c')
  | _ :: _, _, _ => none

def idxS (args : List AV) (_h : Heap) : Option (Nat × Nat × Nat) := match args with
  | [.str l c, .nat k b] => bif kEq k .u8 && Nat.ble b 255 then some (l, c, b) else none
  | _ => none

noncomputable def idxFn (args : List AV) (h : Heap) : VRes := match idxS args h with
  | some (l, c, b) => .ok (idxB l c b) h
  | none => .fail
noncomputable def cntFn (args : List AV) (h : Heap) : VRes := match idxS args h with
  | some (l, c, b) => .ok (cntB l c b) h
  | none => .fail

def joinFn (args : List AV) (h : Heap) : VRes := match args with
  | [.nils, .str _ _] => .ok (.str 0 0) h
  | [.sl b o len sz _, .str ls cs] => bif Nat.beq sz 1 && Nat.ble len 140737488355328 then (match cellsAt h b o len with
    | some [] => .ok (.str 0 0) h
    | some (.str l c :: r) => (match joinA ls cs r l c with
      | some (l, c) => bif Nat.ble l 140737488355328 then .ok (.str l c) h else .fail
      | none => .fail)
    | _ => .fail) else .fail
  | _ => .fail

section
variable {E : Env} {base : Nat}

theorem idxS_inv {args : List AV} {h : Heap} {l c b : Nat} (e : idxS args h = some (l, c, b)) {ι : Inj} {args' : Array Value} (hv : VRels ι args args'.toList) :
    ∃ s : ByteArray, args' = #[.string s, .int .u8 (Int.ofNat b)] ∧ s.size = l ∧ strCode s.data.toList = c ∧ b ≤ 255 := by
  unfold idxS at e
  split at e
  · rename_i l' c' k b'
    cases hc : (kEq k .u8 && Nat.ble b' 255) <;> rw [hc] at e <;> simp only [cond_true, cond_false, reduceCtorEq, Option.some.injEq, Prod.mk.injEq] at e
    obtain ⟨rfl, rfl, rfl⟩ := e
    simp only [Bool.and_eq_true] at hc
    obtain rfl := kEq_true hc.1
    obtain ⟨x, y, e1, h1, h2⟩ := hv.two
    simp only [VRel] at h1 h2
    obtain ⟨s, rfl, h3, h4⟩ := h1
    subst h2
    exact ⟨s, Array.toList_inj.1 (by simpa using e1), h3, h4, nble_iff hc.2⟩
  · cases e

theorem byte_at {s : ByteArray} {n i : Nat} (h : n + 1 + i = s.size) : Nat.mod (Nat.div (strCode s.data.toList) (Nat.pow 256 n)) 256 = (s[i]'(by omega)).toNat := by
  have := str_byte (s := s) (n := i) (by omega)
  rw [show Nat.sub s.size (Nat.succ i) = n by show s.size - (i + 1) = n; omega] at this
  exact this

theorem idxB_ok (ι : Inj) (s : ByteArray) (b : Nat) (hb : b ≤ 255) : VRel ι (idxB s.size (strCode s.data.toList) b) (.int .i64 (firstIdx s (Int.ofNat b).toNat.toUInt8)) := by
  have hbb : ∀ x : UInt8, Nat.beq x.toNat b = (x == (Int.ofNat b).toNat.toUInt8) := fun x => by
    have h1 : (Int.ofNat b).toNat.toUInt8.toNat = b := by simp; omega
    rw [nbeq_decide, Bool.eq_iff_iff]
    simp only [decide_eq_true_eq, beq_iff_eq]
    constructor
    · intro h; exact UInt8.toNat_inj.1 (by rw [h1, h])
    · intro h; rw [h, h1]
  have key : ∀ (n i : Nat), n + i = s.size → VRel ι (Nat.rec (motive := fun _ => Nat → AV) (fun _ => .neg .i64 0)
      (fun n ih i => Bool.rec (motive := fun _ => AV) (fN (Nat.succ i) ih) (.nat .i64 i) (Nat.beq (Nat.mod (Nat.div (strCode s.data.toList) (Nat.pow 256 n)) 256) b)) n i)
      (.int .i64 (match (List.range' i n).find? fun i => s[i]! == (Int.ofNat b).toNat.toUInt8 with | some i => (i : Int) | none => -1)) := by
    intro n
    induction n with
    | zero => intro i _; simp only [List.range'_zero, List.find?_nil]; exact VRel.ofNeg ι .i64 0
    | succ n ih =>
      intro i hi
      simp only [List.range'_succ, List.find?_cons]
      rw [byte_at hi, hbb]
      have : s[i]! = s[i]'(by omega) := getElem!_pos s i (by omega)
      rw [this]
      cases (s[i]'(by omega) == (Int.ofNat b).toNat.toUInt8) with
      | true => exact VRel.ofNat ι .i64 i
      | false => simp only [fN_eq]; exact ih (i + 1) (by omega)
  have := key s.size 0 rfl
  rw [← List.range_eq_range'] at this
  exact this

theorem idx_summ {f : FuncId} (hb : hasBody E.P f = false) (hr : ∀ (s : ByteArray) (c : Int) (w : World), (callFunc f #[.string s, .int .u8 c]).run E.P w = .ok (.value (.int .i64 (firstIdx s c.toNat.toUInt8))) w) : SummAt E base f idxFn := by
  refine ⟨fun args h => ?_, fun ι args h v h' args' w he H hf hv => ?_⟩
  · unfold idxFn
    split
    · exact .self
    · exact .fail _
  · unfold idxFn at he
    split at he
    · rename_i l c b hs
      cases he
      obtain ⟨s, rfl, rfl, rfl, hb255⟩ := idxS_inv hs hv
      exact .inl ⟨hb, _, w, hr s _ w, ι, _, rfl, idxB_ok ι s b hb255, Stp.refl H⟩
    · cases he

theorem cntB_ok (ι : Inj) (s : ByteArray) (b : Nat) (hb : b ≤ 255) : VRel ι (cntB s.size (strCode s.data.toList) b) (.int .i64 (Int.ofNat (s.data.toList.foldl (fun n x => if x == (Int.ofNat b).toNat.toUInt8 then n + 1 else n) (0 : Nat)))) := by
  have h1 : (Int.ofNat b).toNat.toUInt8.toNat = b := by simp; omega
  have hbb : ∀ x : UInt8, Nat.beq x.toNat b = (x == (Int.ofNat b).toNat.toUInt8) := fun x => by
    rw [nbeq_decide, Bool.eq_iff_iff]
    simp only [decide_eq_true_eq, beq_iff_eq]
    constructor
    · intro h; exact UInt8.toNat_inj.1 (by rw [h1, h])
    · intro h; rw [h, h1]
  have key : ∀ (n : Nat) (l : List UInt8) (c m : Nat), l.length = n → (c % 256 ^ n) = strCode l → VRel ι (Nat.rec (motive := fun _ => Nat → AV) (fun s => .nat .i64 s)
      (fun n ih s => Bool.rec (motive := fun _ => AV) (ih s) (fN (Nat.succ s) ih) (Nat.beq (Nat.mod (Nat.div c (Nat.pow 256 n)) 256) b)) n m)
      (.int .i64 (Int.ofNat (l.foldl (fun n x => if x == (Int.ofNat b).toNat.toUInt8 then n + 1 else n) m))) := by
    intro n
    induction n with
    | zero => intro l c m hl _; rw [List.eq_nil_of_length_eq_zero hl]; exact VRel.ofNat ι .i64 m
    | succ n ih =>
      intro l c m hl hc
      match l, hl with
      | x :: l, hl =>
        simp only [List.length_cons, Nat.add_right_cancel_iff] at hl
        rw [strCode_cons, hl] at hc
        have hlt := strCode_lt l
        rw [hl] at hlt
        have hpos : 0 < 256 ^ n := Nat.pow_pos (by omega)
        have hx : Nat.mod (Nat.div c (Nat.pow 256 n)) 256 = x.toNat := by
          show c / 256 ^ n % 256 = x.toNat
          have := congrArg (· / 256 ^ n) hc
          rw [Nat.pow_succ, Nat.mod_mul_right_div_self, Nat.mul_comm, Nat.mul_add_div hpos, Nat.div_eq_of_lt hlt, Nat.add_zero] at this
          exact this
        have hrest : c % 256 ^ n = strCode l := by
          have := congrArg (· % 256 ^ n) hc
          rw [Nat.pow_succ, Nat.mod_mul_right_mod, Nat.mul_comm, Nat.mul_add_mod, Nat.mod_eq_of_lt hlt] at this
          exact this
        simp only [List.foldl_cons]
        rw [hx, hbb]
        cases hxx : (x == (Int.ofNat b).toNat.toUInt8) with
        | true => simp only [fN_eq, if_true]; exact ih l c (m + 1) hl hrest
        | false => simp only [Bool.false_eq_true, if_false]; exact ih l c m hl hrest
  refine key s.size s.data.toList _ 0 (bsize s) ?_
  rw [Nat.mod_eq_of_lt]
  have := strCode_lt s.data.toList
  rwa [bsize] at this

theorem cnt_summ {f : FuncId} (hb : hasBody E.P f = false) (hr : ∀ (s : ByteArray) (c : Int) (w : World), (callFunc f #[.string s, .int .u8 c]).run E.P w = .ok (.value (.int .i64 (Int.ofNat (s.data.toList.foldl (fun n x => if x == c.toNat.toUInt8 then n + 1 else n) (0 : Nat))))) w) :
    SummAt E base f cntFn := by
  refine ⟨fun args h => ?_, fun ι args h v h' args' w he H hf hv => ?_⟩
  · unfold cntFn
    split
    · exact .self
    · exact .fail _
  · unfold cntFn at he
    split at he
    · rename_i l c b hs
      cases he
      obtain ⟨s, rfl, rfl, rfl, hb255⟩ := idxS_inv hs hv
      exact .inl ⟨hb, _, w, hr s _ w, ι, _, rfl, cntB_ok ι s b hb255, Stp.refl H⟩
    · cases he

/-- a call that gives a value and leaves what lay there -/
theorem below_res {f : FuncId} {ι : Inj} {h : Heap} {w : World} {v : AV} {u : Value} {args' : Array Value} (he : (callFunc f args').run E.P w = .ok (.enter f args') w)
    (hc : Calls E.P f args' w fun e w' => e = .returned u ∧ Below w.heap.size w w') (H : HRel E base ι h w) (hv : VRel ι v u) : CallRes E f args' w (CallPost E base ι h w v h) := by
  refine .inr ⟨he, (callsIn_wide (n := 0)).2 (hc.mono ?_)⟩
  rintro e w' ⟨rfl, hb⟩
  exact ⟨ι, u, rfl, hv, Stp.grow H hb.os hb.tape hb.output hb.size hb.block⟩

theorem joinA_ok (sep : ByteArray) : ∀ (r : List AV) (l c : Nat) (vs : List Value) (ι : Inj) (acc : List UInt8) (l' c' : Nat), joinA sep.size (strCode sep.data.toList) r l c = some (l', c') → VRels ι r vs → acc.length = l → strCode acc = c →
    ∃ xs : List ByteArray, vs = xs.map Value.string ∧ (acc ++ Lib.joinTail sep.data.toList (xs.map (·.data.toList))).length = l' ∧ strCode (acc ++ Lib.joinTail sep.data.toList (xs.map (·.data.toList))) = c'
  | [], l, c, vs, ι, acc, l', c', e, hv, h1, h2 => by
    simp only [VRels] at hv
    subst hv
    simp only [joinA, Option.some.injEq, Prod.mk.injEq] at e
    exact ⟨[], rfl, by simp [Lib.joinTail, h1, e.1], by simp [Lib.joinTail, h2, e.2]⟩
  | .str l1 c1 :: r, l, c, vs, ι, acc, l', c', e, hv, h1, h2 => by
    simp only [VRels] at hv
    obtain ⟨y, q, rfl, hy, hq⟩ := hv
    simp only [VRel] at hy
    obtain ⟨s, rfl, h3, h4⟩ := hy
    simp only [joinA] at e
    have hlen : (acc ++ (sep.data.toList ++ s.data.toList)).length = Nat.add (Nat.add l sep.size) l1 := by
      simp only [List.length_append]
      show acc.length + (sep.data.toList.length + s.data.toList.length) = l + sep.size + l1
      rw [h1, ← h3, bsize, bsize]
      omega
    have hcode : strCode (acc ++ (sep.data.toList ++ s.data.toList)) = Nat.add (Nat.mul (Nat.add (Nat.mul c (Nat.pow 256 sep.size)) (strCode sep.data.toList)) (Nat.pow 256 l1)) c1 := by
      rw [← List.append_assoc, strCode_append, strCode_append, h2, h4, bsize, bsize, h3]
      rfl
    obtain ⟨xs, e1, e2, e3⟩ := joinA_ok sep r _ _ q ι _ l' c' e hq hlen hcode
    refine ⟨s :: xs, by rw [e1]; rfl, ?_, ?_⟩
    · rw [← e2]; simp [Lib.joinTail, List.append_assoc]
    · rw [← e3]; simp [Lib.joinTail, List.append_assoc]
  | .any :: _, _, _, _, _, _, _, _, e, _, _, _ => by simp only [joinA, reduceCtorEq] at e
  | .bool _ :: _, _, _, _, _, _, _, _, e, _, _, _ => by simp only [joinA, reduceCtorEq] at e
  | .nat _ _ :: _, _, _, _, _, _, _, _, e, _, _, _ => by simp only [joinA, reduceCtorEq] at e
  | .neg _ _ :: _, _, _, _, _, _, _, _, e, _, _, _ => by simp only [joinA, reduceCtorEq] at e
  | .ptr _ _ :: _, _, _, _, _, _, _, _, e, _, _, _ => by simp only [joinA, reduceCtorEq] at e
  | .gl _ _ :: _, _, _, _, _, _, _, _, e, _, _, _ => by simp only [joinA, reduceCtorEq] at e
  | .nilp :: _, _, _, _, _, _, _, _, e, _, _, _ => by simp only [joinA, reduceCtorEq] at e
  | .sl _ _ _ _ _ :: _, _, _, _, _, _, _, _, e, _, _, _ => by simp only [joinA, reduceCtorEq] at e
  | .nils :: _, _, _, _, _, _, _, _, e, _, _, _ => by simp only [joinA, reduceCtorEq] at e
  | .map _ :: _, _, _, _, _, _, _, _, e, _, _, _ => by simp only [joinA, reduceCtorEq] at e
  | .nilm :: _, _, _, _, _, _, _, _, e, _, _, _ => by simp only [joinA, reduceCtorEq] at e
  | .fn _ _ _ :: _, _, _, _, _, _, _, _, e, _, _, _ => by simp only [joinA, reduceCtorEq] at e
  | .nilf :: _, _, _, _, _, _, _, _, e, _, _, _ => by simp only [joinA, reduceCtorEq] at e
  | .ifc _ _ :: _, _, _, _, _, _, _, _, e, _, _, _ => by simp only [joinA, reduceCtorEq] at e
  | .nili :: _, _, _, _, _, _, _, _, e, _, _, _ => by simp only [joinA, reduceCtorEq] at e
  | .agg _ :: _, _, _, _, _, _, _, _, e, _, _, _ => by simp only [joinA, reduceCtorEq] at e
  | .tup _ :: _, _, _, _, _, _, _, _, e, _, _, _ => by simp only [joinA, reduceCtorEq] at e

/-- strings.Join, as the library's contract has it -/
theorem join_summ {f : FuncId} (he : ∀ args w, (callFunc f args).run E.P w = .ok (.enter f args) w)
    (h0 : ∀ (a : Option Addr) (c : Nat) (sep : ByteArray) (w : World), Calls E.P f #[.slice a 0 c, .string sep] w fun e w' => e = .returned (.string ⟨#[]⟩) ∧ w' = w)
    (hj : ∀ (bk o c : Nat) (xs : List ByteArray) (sep : ByteArray) (w : World), (∀ (j : Nat) x, xs[j]? = some x → w.cell? ⟨bk, o + j, none⟩ = some (.string x)) → bk < w.heap.size → xs.length ≤ 140737488355328 → xs.length ≤ c →
      (Lib.join (xs.map (·.data.toList)) sep.data.toList).length ≤ 140737488355328 →
      Calls E.P f #[.slice (some ⟨bk, o, none⟩) xs.length c, .string sep] w fun e w' => e = .returned (.string ⟨(Lib.join (xs.map (·.data.toList)) sep.data.toList).toArray⟩) ∧ Below w.heap.size w w') : SummAt E base f joinFn := by
  have strNil : ∀ ι : Inj, VRel ι (.str 0 0) (.string ⟨#[]⟩) := fun ι => by simp only [VRel]; exact ⟨_, rfl, rfl, rfl⟩
  refine ⟨fun args h => ?_, fun ι args h v h' args' w hr H hf hv => ?_⟩
  · unfold joinFn
    split
    · exact .self
    · refine .bif ?_ (.fail _)
      split
      · exact .self
      · split
        · exact .bif .self (.fail _)
        · exact .fail _
      · exact .fail _
    · exact .fail _
  · unfold joinFn at hr
    split at hr
    · rename_i ls cs
      cases hr
      obtain ⟨x, y, e1, k1, k2⟩ := hv.two
      simp only [VRel] at k1 k2
      obtain ⟨sep, rfl, _, _⟩ := k2
      subst k1
      obtain rfl : args' = #[.slice none 0 0, .string sep] := Array.toList_inj.1 (by simpa using e1)
      refine .inr ⟨he _ _, (callsIn_wide (n := 0)).2 ((h0 none 0 sep w).mono ?_)⟩
      rintro e w' ⟨rfl, rfl⟩
      exact ⟨ι, _, rfl, strNil ι, Stp.refl H⟩
    · rename_i b o len sz full ls cs
      cases hc : (Nat.beq sz 1 && Nat.ble len 140737488355328) <;> rw [hc] at hr <;> simp only [cond_true, cond_false, reduceCtorEq] at hr
      simp only [Bool.and_eq_true] at hc
      obtain rfl := nbeq_iff hc.1
      have hlen := nble_iff hc.2
      obtain ⟨x, y, e1, k1, k2⟩ := hv.two
      simp only [VRel] at k1 k2
      obtain ⟨sep, rfl, rfl, rfl⟩ := k2
      obtain ⟨a, c, g, rfl, hlc, _, hg, hrow⟩ := k1
      obtain rfl : args' = #[.slice (some a) len c, .string sep] := Array.toList_inj.1 (by simpa using e1)
      split at hr
      · rename_i hcells
        cases hr
        obtain ⟨vs, q1, q2, _⟩ := cellsAt_rel H hcells hg
        simp only [VRels] at q1
        subst q1
        simp only [List.length_nil] at q2
        subst q2
        refine .inr ⟨he _ _, (callsIn_wide (n := 0)).2 ((h0 (some a) c sep w).mono ?_)⟩
        rintro e w' ⟨rfl, rfl⟩
        exact ⟨ι, _, rfl, strNil ι, Stp.refl H⟩
      · rename_i l1 c1 r hcells
        split at hr
        · rename_i l2 c2 hj2
          cases hb : Nat.ble l2 140737488355328 <;> rw [hb] at hr <;> simp only [cond_true, cond_false, reduceCtorEq] at hr
          cases hr
          obtain ⟨vs, q1, q2, q3⟩ := cellsAt_rel H hcells hg
          simp only [VRels] at q1
          obtain ⟨u, q, rfl, hu, hq⟩ := q1
          simp only [VRel] at hu
          obtain ⟨s1, rfl, m1, m2⟩ := hu
          obtain ⟨xs, rfl, n1, n2⟩ := joinA_ok sep r l1 c1 q ι s1.data.toList l2 c2 hj2 hq (by rw [bsize]; exact m1) m2
          have hxl : (s1 :: xs).length = len := by rw [← q2]; simp
          have hc0 : c ≠ 0 := by simp only [List.length_cons] at hxl; omega
          obtain ⟨rfl, hrow⟩ := hrow.resolve_left hc0
          have hjoin : Lib.join ((s1 :: xs).map (·.data.toList)) sep.data.toList = s1.data.toList ++ Lib.joinTail sep.data.toList (xs.map (·.data.toList)) := by
            rw [List.map_cons, Lib.join_cons]
          have hgb : g.cb < w.heap.size := by
            unfold cellsAt at hcells
            split at hcells
            · rename_i ty size t ro ex hbk; exact H.cb_lt hbk hg
            · cases hcells
          have hc := hj g.cb (g.co + o) c (s1 :: xs) sep w (fun j x hx => by
            have := q3 j (.string x) (by rw [← List.map_cons (f := Value.string), List.getElem?_map, hx]; rfl)
            exact this) hgb (by rw [hxl]; exact hlen) (by rw [hxl]; exact hlc) (by rw [hjoin, n1]; exact nble_iff hb)
          rw [hxl] at hc
          refine below_res (he _ _) hc H ?_
          simp only [VRel]
          rw [hjoin]
          exact ⟨_, rfl, by show (List.toArray _).size = _; rw [List.size_toArray]; exact n1, n2⟩
        · cases hr
      · cases hr
    · cases hr

end
end Ev
end Go.Proofs.YtodemhmfnokomaaGreatDoor
namespace Go.Proofs.YtodemhmfnokomaaGreatDoor
namespace Ev
open Go

def insN (x : Nat) : List Nat → List Nat
  | [] => [x]
  | y :: r => bif Nat.ble x y then x :: y :: r else y :: insN x r
def sortN : List Nat → List Nat
  | [] => []
  | x :: r => insN x (sortN r)

/-- the keys of a map of whole numbers to bools -/
def keysN : List Ent → Option (List Nat)
  | [] => some []
  | e :: r => (match e.k, e.v, keysN r with
    | .nat .i64 n, .bool _, some l => bif Nat.ble n 9223372036854775807 && not (memN n l) then some (n :: l) else none
    | _, _, _ => none)

/-- the stamps grow -/
def stampsOk : List Ent → Nat → Nat → Bool
  | [], _, _ => true
  | e :: r, lo, clock => Nat.ble lo e.born && Nat.ble (Nat.succ e.born) clock && stampsOk r (Nat.succ e.born) clock

def natsA : List Nat → List AV
  | [] => []
  | n :: r => .nat .i64 n :: natsA r

def sortFn (ty kid : Nat) (args : List AV) (h : Heap) : VRes := match args with
  | [.fn (.func g) [] [.ptr b o]] => bif Nat.beq g kid && Nat.beq o 0 then (match h.tr.get b with
    | some (.cells _ size t _ true) => bif Nat.ble 1 size then (match t.get 0 with
      | some (.map m) => (match h.tr.get m with
        | some (.mp es clock) => (match keysN es with
          | some ks => bif stampsOk es 0 clock && Nat.ble es.length 1000000 then (match ks with
            | [] => .ok .nils h
            | k :: r => newCells ty false h (natsA (sortN (k :: r))) fun b h' => .ok (.sl b 0 (Nat.succ r.length) 1 false) h') else .fail
          | none => .fail)
        | _ => .fail)
      | _ => .fail) else .fail
    | _ => .fail) else .fail
  | _ => .fail

/-- short words for facts -/
def aN (n : Nat) : AV := .nat .i64 n
def aM : AV := .neg .i64 0
def aS (l c : Nat) : AV := .str l c

end Ev
end Go.Proofs.YtodemhmfnokomaaGreatDoor
