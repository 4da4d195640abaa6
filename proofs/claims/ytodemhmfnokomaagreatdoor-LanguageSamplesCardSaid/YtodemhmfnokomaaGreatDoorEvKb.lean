/- The evaluator in a form that the kernel computes quickly, second part. Conditions: none. -/
import Derived.Test.YtodemhmfnokomaaGreatDoorEvK
namespace Go.Proofs.YtodemhmfnokomaaGreatDoor
namespace Ev
open Go

section
variable (E : Env)

/-- a slice of one element -/
noncomputable def b1K (t : TypeId) (x : Operand) : W OC := match E.P.underlying t with
  | some (.slice e) => (match szA E.P e, zeroA E.P e with
    | some n, some z => Bool.rec (motive := fun _ => W OC) failK (wK (xO x) fun x => ⟨fun _ _ m h k => forceA (x m) fun v => ifK v.known (ifK (Nat.beq (lenR v.cells) n) (newTN e true (tnOf v.cells) (fun b => .sl b 0 1 n true) h k))⟩)
      (Nat.ble (Nat.mul 1 n) 16777216 && Nat.beq z.length n)
    | _, _ => failK)
  | _ => failK

theorem b1K_eq (t : TypeId) (x : Operand) (callF : CallY) (Y : YF) (sz : Nat) (m : Tmps) (ds : List ADef) (h : Heap) (k : AV → Heap → CRes) :
    (b1K E t x).f callF Y m h k = opK (doBuildSlice E.P t 1 [(0, AF.ev ⟨sz, m, ds⟩ x)] h) k := by
  unfold b1K doBuildSlice
  cases E.P.underlying t with
  | none => rfl
  | some D => cases D with
    | slice e =>
      simp only
      cases szA E.P e with
      | none => rfl
      | some n => cases zeroA E.P e with
        | none => rfl
        | some z =>
          simp only
          cases hc : (Nat.ble (Nat.mul 1 n) 16777216 && Nat.beq z.length n) with
          | false => rfl
          | true =>
            have hz : z.length = n := by simp only [Bool.and_eq_true] at hc; exact nbeq_iff hc.2
            simp only [cond_true, wK_eq, forceA_eq, xO_eq x sz m ds, ifK_eq, lenR_eq, newTN_eq]
            generalize AF.ev ⟨sz, m, ds⟩ x = v
            have h0 : Nat.mul 0 n = 0 := Nat.zero_mul n
            simp only [fillA, h0]
            have hr : repl 1 z = z := by simp [repl]
            rw [hr]
            cases hk : v.known with
            | false => rfl
            | true =>
              cases hl : Nat.beq v.cells.length n with
              | false => rfl
              | true =>
                have hl' := nbeq_iff hl
                have hb : Nat.ble (Nat.add 0 v.cells.length) z.length = true := Nat.ble_eq_true_of_le (by show 0 + v.cells.length ≤ z.length; omega)
                have hp : putRange z 0 v.cells = v.cells := by
                  unfold putRange
                  have : List.drop (Nat.add 0 v.cells.length) z = [] := List.drop_eq_nil_of_le (by show z.length ≤ 0 + v.cells.length; omega)
                  rw [this]; simp
                simp only [hb, Bool.and_self, cond_true, hp]
    | _ => rfl

noncomputable def cOp (op : Op) : W OC := match op with
  | .move x => wK (xO x) fun x => ⟨fun _ _ m h k => k (x m) h⟩
  | .assign x => wK (xO x) fun x => ⟨fun _ _ m h k => k (x m) h⟩
  | .pick c x y => wK (xO c) fun c => wK (xO x) fun x => wK (xO y) fun y => ⟨fun _ _ m h k => boolE (c m) (fun b => orK b (k (x m) h) (k (y m) h)) .fail⟩
  | .alloc e => (match zeroA E.P e with
    | some l => ⟨fun _ _ _ h k => newTN e true (tnOf l) (fun b => .ptr b 0) h k⟩
    | none => failK)
  | .box t x => wK (xO x) fun x => ⟨fun _ _ m h k => forceA (x m) fun v => ifK v.known (newTN t true (tnOf v.cells) (fun b => .ptr b 0) h k)⟩
  | .build t ps => wK (xPs ps.toList) fun ps => ⟨fun _ _ m h k => opK (doBuild E.P t (ps m) h) k⟩
  | .buildSlice t len ps => (match len, ps.toList with
    | 1, [(0, x)] => b1K E t x
    | _, _ => wK (xPs ps.toList) fun ps => ⟨fun _ _ m h k => opK (doBuildSlice E.P t len (ps m) h) k⟩)
  | .load t x => wK (xO x) fun x => (match aggT E.P t, szA E.P t with
    | some false, some _ => ⟨ld1 E t x⟩
    | some true, some n => fN n fun n => ⟨ldN E t n x⟩
    | _, _ => failK)
  | .store t x v => wK (xO x) fun x => wK (xO v) fun v => (match szA E.P t with
    | some n => fN n fun n => ⟨st1 n x v⟩
    | none => failK)
  | .nilCheck x => wK (xO x) fun x => ⟨fun _ _ m h k => match x m with
    | .ptr b o => k (.ptr b o) h
    | .gl b o => k (.gl b o) h
    | .fn f l r => (match f with
      | .method _ => .fail
      | f => k (.fn f l r) h)
    | .ifc t v => k (.ifc t v) h
    | _ => .fail⟩
  | .binOp op t x y _ => wK (xO x) fun fx => wK (xO y) fun fy => Bool.rec (motive := fun _ => W OC) ⟨biK E op t x y fx fy (arK op)⟩ ⟨shK E op t x y fx fy⟩ (isSh op)
  | .unOp op _ x => wK (xO x) fun x => ⟨fun _ _ m h k => opK (pv (unA op (x m)) h) k⟩
  | .convert s d x => wK (xO x) fun x => (match E.P.underlying s, E.P.underlying d with
    | some (.int _), some (.int kd) => ⟨cvK E s d kd x⟩
    | _, _ => ⟨fun _ _ m h k => opK (doConvert E.P s d (x m) h) k⟩)
  | .makeInterface t x => wK (xO x) fun x => (match E.P.underlying t with
    | some (.interface _) => failK
    | some _ => ⟨fun _ _ m h k => forceA (x m) fun v => k (.ifc t v) h⟩
    | none => failK)
  | .makeSlice t l c => wK (xO l) fun l => wK (xO c) fun c => ⟨fun _ _ m h k => opK (doMakeSlice E.P t (l m) (c m) h) k⟩
  | .slice t x lo hi mx => wK (xO x) fun x => wK (xOo lo) fun lo => wK (xOo hi) fun hi => wK (xOo mx) fun mx => ⟨fun _ _ m h k => opK (doSlice E.P t (x m) (lo m) (hi m) (mx m) h) k⟩
  | .fieldAddr s x i => (match E.P.underlying s with
    | some (.struct fields) => (match nthR fields.toList i with
      | some f => (match szA E.P f.type with
        | some n => Bool.rec (motive := fun _ => W OC) (fN f.offset fun off => wK (xO x) fun x => ⟨faK off x⟩) failK (Nat.beq n 0)
        | none => failK)
      | none => failK)
    | _ => failK)
  | .field t x i => wK (xO x) fun x => ⟨fun _ _ m h k => opK (pv (doField E.P t (x m) i) h) k⟩
  | .indexAddr t x i => (match E.P.underlying t with
    | some (.array len e) => (match szA E.P e with
      | some z => fN z fun z => fN len fun len => wK (xO x) fun x => wK (xO i) fun i => ⟨iaA len z x i⟩
      | none => failK)
    | some (.slice e) => (match szA E.P e with
      | some z => fN z fun z => wK (xO x) fun x => wK (xO i) fun i => ⟨iaS z x i⟩
      | none => failK)
    | _ => failK)
  | .index t x i => wK (xO x) fun x => wK (xO i) fun i => (match E.P.underlying t with
    | some .string => ⟨ixS x i⟩
    | _ => ⟨fun _ _ m h k => opK (pv (doIndex E.P t (x m) (i m)) h) k⟩)
  | .lookup t x y ok => wK (xO x) fun x => wK (xO y) fun y => ⟨fun _ _ m h k => opK (doLookup E.P t (x m) (y m) ok h) k⟩
  | .mapUpdate t x y v => wK (xO x) fun x => wK (xO y) fun y => wK (xO v) fun v => ⟨fun _ _ m h k => forceA (v m) fun v => opK (doMapUpdate E.P t (x m) (y m) v h) k⟩
  | .insert t x y v => wK (xO x) fun x => wK (xO y) fun y => wK (xO v) fun v => ⟨fun _ _ m h k => forceA (v m) fun v => opK (doMapUpdate E.P t (x m) (y m) v h) k⟩
  | .extract t i => wK (xO t) fun t => ⟨exK i t⟩
  | .call c => (match c.callee with
    | .value f => wK (xO f) fun f => wK (xL c.args.toList) fun as => ⟨caK f as⟩
    | .builtin b => buK E b c.argTypes.toList c.args.toList
    | .invoke _ _ => failK)
  | op => ⟨fun callF Y m h k => opK (evalOp E callF Y op ⟨0, m, []⟩ h) k⟩

theorem cOp_eq (op : Op) (callF : CallY) (Y : YF) (sz : Nat) (m : Tmps) (ds : List ADef) (h : Heap) (k : AV → Heap → CRes) :
    (cOp E op).f callF Y m h k = opK (evalOp E callF Y op ⟨sz, m, ds⟩ h) k := by
  have hx : ∀ x, (xO x).f m = AF.ev ⟨sz, m, ds⟩ x := fun x => xO_eq x sz m ds
  cases op
  case move x => simp only [cOp, evalOp, wK_eq, hx]; rfl
  case assign x => simp only [cOp, evalOp, wK_eq, hx]; rfl
  case pick c x y =>
    simp only [cOp, evalOp, wK_eq, hx, boolE_eq, orK_eq]
    cases AF.ev ⟨sz, m, ds⟩ c with
    | bool b => cases b <;> rfl
    | _ => rfl
  case alloc e =>
    simp only [cOp, evalOp, doAlloc]
    cases zeroA E.P e with
    | none => rfl
    | some l => exact newTN_eq e true l (fun b => .ptr b 0) h k
  case box t x =>
    simp only [cOp, evalOp, wK_eq, hx, forceA_eq, ifK_eq]
    cases AF.ev ⟨sz, m, ds⟩ x with
    | any => rfl
    | _ => simp only [AV.known, cond_true, newTN_eq]; rfl
  case build t ps => simp only [cOp, evalOp, wK_eq, xPs_eq ps.toList sz m ds]
  case buildSlice t len ps =>
    simp only [cOp, evalOp, wK_eq]
    split
    · rename_i len' l x hl
      rw [hl]; exact b1K_eq E t x callF Y sz m ds h k
    · simp only [xPs_eq ps.toList sz m ds]
  case load t x =>
    simp only [cOp, evalOp, wK_eq, fN_eq]
    cases hg : aggT E.P t with
    | none => simp only [doLoad, hg]; rfl
    | some g => cases hn : szA E.P t with
      | none => simp only [doLoad, hg, hn]; cases g <;> rfl
      | some n => cases g with
        | false => rw [← hx]; exact ld1_eq E hg hn (xO x).f callF Y m h k
        | true => rw [← hx]; exact ldN_eq E hg hn (xO x).f callF Y m h k
  case store t x v =>
    simp only [cOp, evalOp, wK_eq, fN_eq]
    cases hn : szA E.P t with
    | none => simp only [doStore, hn]; rfl
    | some n => rw [← hx, ← hx]; exact st1_eq E hn (xO x).f (xO v).f callF Y m h k
  case nilCheck x =>
    simp only [cOp, evalOp, wK_eq, hx]
    cases AF.ev ⟨sz, m, ds⟩ x with
    | fn f l r => cases f <;> rfl
    | _ => rfl
  case binOp op t x y d =>
    simp only [cOp, evalOp, wK_eq]
    cases hs : isSh op with
    | true => rw [← hx, ← hx]; exact shK_eq E op hs t x y (xO x).f (xO y).f callF Y m h k
    | false => rw [← hx, ← hx]; exact biK_eq E op hs t x y (xO x).f (xO y).f callF Y m h k
  case unOp op t x => simp only [cOp, evalOp, wK_eq, hx]
  case convert s d x =>
    simp only [cOp, evalOp, wK_eq]
    split
    · rename_i ks kd h1 h2; rw [← hx]; exact cvK_eq E h1 h2 (xO x).f callF Y m h k
    · simp only [hx]
  case makeInterface t x =>
    simp only [cOp, evalOp, wK_eq, forceA_eq]
    cases E.P.underlying t with
    | none => rfl
    | some D => cases D <;> first | rfl | (simp only [hx]; rfl)
  case makeSlice t l c => simp only [cOp, evalOp, wK_eq, hx]
  case slice t x lo hi mx => simp only [cOp, evalOp, wK_eq, hx, xOo_eq _ sz m ds]
  case fieldAddr s x i =>
    simp only [cOp, evalOp, wK_eq, doFieldAddr, nthR_eq]
    cases E.P.underlying s with
    | none => rfl
    | some D => cases D with
      | struct fields =>
        simp only
        cases nthO fields.toList i with
        | none => rfl
        | some f =>
          simp only
          cases szA E.P f.type with
          | none => rfl
          | some n =>
            simp only [fN_eq]
            cases Nat.beq n 0 with
            | true => rfl
            | false =>
              show faK f.offset (xO x).f callF Y m h k = _
              simp only [faK, hx, cond_false, ptrE_eq]
              cases AF.ev ⟨sz, m, ds⟩ x <;> simp only [fN_eq, forceN_eq] <;> rfl
      | _ => rfl
  case field t x i => simp only [cOp, evalOp, wK_eq, hx]
  case indexAddr t x i =>
    simp only [cOp, evalOp, wK_eq, doIndexAddr]
    have bad : ∀ r : PRes, (∀ k' n, AF.ev ⟨sz, m, ds⟩ i ≠ .nat k' n) → r = .fail → r = .fail := fun r _ h => h
    cases hu : E.P.underlying t with
    | none => cases AF.ev ⟨sz, m, ds⟩ i <;> rfl
    | some D => cases D with
      | array len e =>
        simp only
        cases szA E.P e with
        | none => cases AF.ev ⟨sz, m, ds⟩ i <;> rfl
        | some z =>
          simp only [fN_eq]
          show iaA len z (xO x).f (xO i).f callF Y m h k = _
          simp only [iaA, hx, natE_eq, ptrE_eq, ifK_eq]
          cases AF.ev ⟨sz, m, ds⟩ i with
          | nat k' n =>
            simp only
            cases Nat.ble (Nat.succ n) len with
            | false => rfl
            | true =>
              simp only [cond_true]
              cases AF.ev ⟨sz, m, ds⟩ x <;> simp only [fN_eq, forceN_eq] <;> rfl
          | _ => rfl
      | slice e =>
        simp only
        cases szA E.P e with
        | none => cases AF.ev ⟨sz, m, ds⟩ i <;> rfl
        | some z =>
          simp only [fN_eq]
          show iaS z (xO x).f (xO i).f callF Y m h k = _
          simp only [iaS, hx, natE_eq, slE_eq, ifK_eq]
          cases AF.ev ⟨sz, m, ds⟩ i with
          | nat k' n =>
            simp only
            cases AF.ev ⟨sz, m, ds⟩ x with
            | sl b o len sz' u =>
              simp only [fN_eq, forceN_eq]
              cases Nat.ble (Nat.succ n) len <;> cases Nat.beq z sz' <;> rfl
            | _ => rfl
          | _ => rfl
      | _ => cases AF.ev ⟨sz, m, ds⟩ i <;> rfl
  case index t x i =>
    simp only [cOp, evalOp, wK_eq]
    cases hu : E.P.underlying t with
    | none => simp only [hx]
    | some D => cases D with
      | string =>
        show ixS (xO x).f (xO i).f callF Y m h k = _
        simp only [ixS, hx, doIndex, hu, natE_eq, strE_eq, ifK_eq]
        cases AF.ev ⟨sz, m, ds⟩ i with
        | nat k' n =>
          simp only
          cases AF.ev ⟨sz, m, ds⟩ x with
          | str len c =>
            simp only [fN_eq]
            cases Nat.ble (Nat.succ n) len with
            | false => rfl
            | true => simp only [cond_true, okNat, forceN_eq]; rfl
          | _ => rfl
        | _ => rfl
      | _ => simp only [hx]
  case lookup t x y ok => simp only [cOp, evalOp, wK_eq, hx]
  case mapUpdate t x y v => simp only [cOp, evalOp, wK_eq, hx, forceA_eq]
  case insert t x y v => simp only [cOp, evalOp, wK_eq, hx, forceA_eq]
  case extract t i =>
    simp only [cOp, evalOp, wK_eq, exK, hx, nthR_eq, tupE_eq, optK_eq]
    cases AF.ev ⟨sz, m, ds⟩ t with
    | tup vs => simp only; cases nthO vs i <;> rfl
    | _ => rfl
  case call c =>
    simp only [cOp, evalOp, wK_eq, doCall]
    cases c.callee with
    | value f => simp only; rw [← hx, ← xL_eq c.args.toList sz m ds]; exact caK_eq _ _ callF Y m h k
    | builtin b => exact buK_eq E b _ _ callF Y sz m ds h k
    | invoke r n => rfl
  all_goals first
    | (simp only [cOp, evalOp]; done)
    | (show opK (evalOp E callF Y _ ⟨0, m, []⟩ h) k = opK (evalOp E callF Y _ ⟨sz, m, ds⟩ h) k
       rw [evalOp_congr (a := ⟨0, m, []⟩) (a' := ⟨sz, m, ds⟩) _ (fun x _ => by cases x <;> rfl)])

end
end Ev
end Go.Proofs.YtodemhmfnokomaaGreatDoor
namespace Go.Proofs.YtodemhmfnokomaaGreatDoor
namespace Ev
open Go

abbrev RC := CallY → YF → Tmps → Heap → (Tmps → Heap → CRes) → CRes
abbrev RD := CallY → YF → Tmps → Heap → List Heap → (Tmps → Heap → CRes) → CRes

def frK (r : FRes) (k : AF → Heap → CRes) : CRes := match r with
  | .ok a h => k a h
  | .fail => .fail

noncomputable def puK (sz : Nat) (d : Option Tmp) : W (Tmps → AV → (Tmps → CRes) → CRes) := match d with
  | none => ⟨fun m _ f => f m⟩
  | some t => Bool.rec (motive := fun _ => W (Tmps → AV → (Tmps → CRes) → CRes)) ⟨fun _ _ _ => .fail⟩ (wK (slotS CRes t) fun z => ⟨fun m v f => forceA v fun v => z m v f⟩) (Nat.ble (Nat.succ t) sz)

theorem puK_eq (sz : Nat) (d : Option Tmp) (m : Tmps) (ds : List ADef) (v : AV) (F : AF → FRes) (k : AF → Heap → CRes) :
    frK (putK .fail ⟨sz, m, ds⟩ d v F) k = (puK sz d).f m v fun m' => frK (F ⟨sz, m', ds⟩) k := by
  cases d with
  | none => rfl
  | some t =>
    simp only [putK, puK]
    cases Nat.ble (Nat.succ t) sz with
    | false => rfl
    | true =>
      simp only [cond_true, wK_eq, forceA_eq, slotS_eq, tmpsSetK_eq]

/-- what a guard says -/
noncomputable def waK (ops : Array Oper) (o : Oper) (yes no : RC) : W RC := match o.guard with
  | none => ⟨yes⟩
  | some (j, w) => (match guardTmp ops j with
    | some t => wK (slotG t) fun g => Bool.rec (motive := fun _ => W RC)
      ⟨fun callF Y m h k => gdE (g m) (fun b => orK b (no callF Y m h k) (yes callF Y m h k)) (no callF Y m h k) .fail⟩
      ⟨fun callF Y m h k => gdE (g m) (fun b => orK b (yes callF Y m h k) (no callF Y m h k)) (no callF Y m h k) .fail⟩ w
    | none => ⟨fun _ _ _ _ _ => .fail⟩)

theorem waK_eq (ops : Array Oper) (o : Oper) (yes no : RC) (callF : CallY) (Y : YF) (sz : Nat) (m : Tmps) (ds : List ADef) (h : Heap) (k : Tmps → Heap → CRes) :
    (waK ops o yes no).f callF Y m h k = match wantA ops o ⟨sz, m, ds⟩ with
      | .yes => yes callF Y m h k
      | .no => no callF Y m h k
      | .bad => .fail := by
  unfold waK wantA
  cases o.guard with
  | none => rfl
  | some jw =>
    obtain ⟨j, w⟩ := jw
    simp only
    cases guardTmp ops j with
    | none => rfl
    | some t =>
      have hs : (slotG t).f m = AF.get ⟨sz, m, ds⟩ t := slotG_eq t m
      cases w <;> simp only [wK_eq, hs, gdE_eq, orK_eq] <;> cases AF.get ⟨sz, m, ds⟩ t <;> first | rfl | (rename_i b; cases b <;> rfl)

noncomputable def waD (ops : Array Oper) (o : Oper) (yes no : RD) : W RD := match o.guard with
  | none => ⟨yes⟩
  | some (j, w) => (match guardTmp ops j with
    | some t => wK (slotG t) fun g => Bool.rec (motive := fun _ => W RD)
      ⟨fun callF Y m h hs k => gdE (g m) (fun b => orK b (no callF Y m h hs k) (yes callF Y m h hs k)) (no callF Y m h hs k) .fail⟩
      ⟨fun callF Y m h hs k => gdE (g m) (fun b => orK b (yes callF Y m h hs k) (no callF Y m h hs k)) (no callF Y m h hs k) .fail⟩ w
    | none => ⟨fun _ _ _ _ _ _ => .fail⟩)

theorem waD_eq (ops : Array Oper) (o : Oper) (yes no : RD) (callF : CallY) (Y : YF) (sz : Nat) (m : Tmps) (ds : List ADef) (h : Heap) (hs : List Heap) (k : Tmps → Heap → CRes) :
    (waD ops o yes no).f callF Y m h hs k = match wantA ops o ⟨sz, m, ds⟩ with
      | .yes => yes callF Y m h hs k
      | .no => no callF Y m h hs k
      | .bad => .fail := by
  unfold waD wantA
  cases o.guard with
  | none => rfl
  | some jw =>
    obtain ⟨j, w⟩ := jw
    simp only
    cases guardTmp ops j with
    | none => rfl
    | some t =>
      have hs' : (slotG t).f m = AF.get ⟨sz, m, ds⟩ t := slotG_eq t m
      cases w <;> simp only [wK_eq, hs', gdE_eq, orK_eq] <;> cases AF.get ⟨sz, m, ds⟩ t <;> first | rfl | (rename_i b; cases b <;> rfl)

def sameF (x y : AV) : Bool := match x, y with
  | .bool a, .bool b => a == b
  | .nat k m, .nat k' n => kEq k k' && Nat.beq m n
  | .str l c, .str l' c' => Nat.beq l l' && Nat.beq c c'
  | .ptr b o, .ptr b' o' => Nat.beq b b' && Nat.beq o o'
  | .sl b o l s f, .sl b' o' l' s' f' => Nat.beq b b' && Nat.beq o o' && Nat.beq l l' && Nat.beq s s' && f == f'
  | x, y => x.same y

theorem sameF_eq (x y : AV) : sameF x y = x.same y := by
  unfold sameF
  split <;> simp only [AV.same]

section
variable (E : Env)

noncomputable def cReg (sz : Nat) (ops : Array Oper) (l : List Oper) : W RC := List.rec (motive := fun _ => W RC) ⟨fun _ _ m h k => k m h⟩
  (fun o _ ih => wK (cOp E o.op) fun run => wK (puK sz o.dst) fun put => wK ih fun rest => waK ops o
    (fun callF Y m h k => run callF Y m h fun v h' => put m v fun m' => rest callF Y m' h' k)
    (fun callF Y m h k => put m undefA fun m' => rest callF Y m' h k)) l

theorem cReg_eq (sz : Nat) (ops : Array Oper) (inR : Bool) (callF : CallY) (Y : YF) (ds : List ADef) (k : AF → Heap → CRes) : ∀ (l : List Oper), (∀ o ∈ l, isDefer o.op = false) → ∀ (m : Tmps) (h : Heap),
    (cReg E sz ops l).f callF Y m h (fun m' h' => k ⟨sz, m', ds⟩ h') = frK (evalOps E callF Y inR ops l ⟨sz, m, ds⟩ h) k := by
  intro l
  induction l with
  | nil => intro _ m h; rfl
  | cons o l ih =>
    intro hd m h
    have hdo := hd o (by simp)
    have ih := ih fun o' ho' => hd o' (by simp [ho'])
    have hput : ∀ v h', (puK sz o.dst).f m v (fun m' => (cReg E sz ops l).f callF Y m' h' (fun m' h' => k ⟨sz, m', ds⟩ h')) = frK (putK .fail ⟨sz, m, ds⟩ o.dst v fun a' => evalOps E callF Y inR ops l a' h') k := fun v h' => by
      rw [puK_eq]
      exact congrArg ((puK sz o.dst).f m v) (funext fun m' => ih m' h')
    show (wK (cOp E o.op) fun run => wK (puK sz o.dst) fun put => wK (cReg E sz ops l) fun rest => waK ops o
      (fun callF Y m h k => run callF Y m h fun v h' => put m v fun m' => rest callF Y m' h' k)
      (fun callF Y m h k => put m undefA fun m' => rest callF Y m' h k)).f callF Y m h _ = _
    simp only [wK_eq]
    rw [waK_eq ops o _ _ callF Y sz m ds h]
    simp only [evalOps]
    cases wantA ops o ⟨sz, m, ds⟩ with
    | yes =>
      simp only [hdo, cond_false]
      rw [cOp_eq E o.op callF Y sz m ds h]
      cases evalOp E callF Y o.op ⟨sz, m, ds⟩ h with
      | ok v h' => exact hput v h'
      | fail => rfl
    | no => exact hput undefA h
    | bad => rfl

/-- the same value at the first n memories -/
noncomputable def raK (op : Op) (n : Nat) : W (CallY → YF → Tmps → List Heap → AV → CRes → CRes) := Nat.rec (motive := fun _ => W (CallY → YF → Tmps → List Heap → AV → CRes → CRes)) ⟨fun _ _ _ _ _ c => c⟩
  (fun _ ih => wK (cOp E op) fun run => wK ih fun ih => ⟨fun callF Y m hs v c => List.rec (motive := fun _ => CRes) .fail (fun h r _ => run callF Y m h fun u h' => ifK (sameF u v) (ifK (Nat.beq h'.next h.next) (ih callF Y m r v c))) hs⟩) n

theorem raK_eq (op : Op) (callF : CallY) (Y : YF) (sz : Nat) (m : Tmps) (ds : List ADef) (v : AV) (c : CRes) : ∀ (n : Nat) (hs : List Heap),
    (raK E op n).f callF Y m hs v c = bif readAll (fun h => evalOp E callF Y op ⟨sz, m, ds⟩ h) v n hs then c else .fail := by
  intro n
  induction n with
  | zero => intro hs; rfl
  | succ n ih =>
    intro hs
    cases hs with
    | nil => rfl
    | cons h r =>
      show (wK (cOp E op) fun run => wK (raK E op n) fun ih => ⟨fun callF Y m hs v c => List.rec (motive := fun _ => CRes) .fail (fun h r _ => run callF Y m h fun u h' => ifK (sameF u v) (ifK (Nat.beq h'.next h.next) (ih callF Y m r v c))) hs⟩).f callF Y m (h :: r) v c = _
      simp only [wK_eq]
      rw [cOp_eq E op callF Y sz m ds h]
      simp only [readAll, ih, sameF_eq, ifK_eq]
      cases evalOp E callF Y op ⟨sz, m, ds⟩ h with
      | ok u h' => simp only [opK_ok]; cases u.same v <;> cases Nat.beq h'.next h.next <;> rfl
      | fail => rfl

noncomputable def rvK (op : Op) (n : Nat) : W (CallY → YF → Tmps → List Heap → (AV → CRes) → CRes) :=
  wK (cOp E op) fun run => wK (raK E op n) fun ra => ⟨fun callF Y m hs c => List.rec (motive := fun _ => CRes) .fail (fun h r _ => run callF Y m h fun v h' => ifK (Nat.beq h'.next h.next) (forceA v fun v => ra callF Y m r v (c v))) hs⟩

theorem rvK_eq (op : Op) (n : Nat) (callF : CallY) (Y : YF) (sz : Nat) (m : Tmps) (ds : List ADef) (hs : List Heap) (c : AV → CRes) :
    (rvK E op n).f callF Y m hs c = match readV (fun h => evalOp E callF Y op ⟨sz, m, ds⟩ h) n hs with
      | some v => c v
      | none => .fail := by
  unfold rvK
  simp only [wK_eq]
  cases hs with
  | nil => rfl
  | cons h r =>
    simp only
    rw [cOp_eq E op callF Y sz m ds h]
    simp only [forceA_eq, readV, ifK_eq]
    cases evalOp E callF Y op ⟨sz, m, ds⟩ h with
    | ok u h' => simp only [opK_ok]; rw [raK_eq E op callF Y sz m ds]; cases Nat.beq h'.next h.next <;> cases readAll (fun h => evalOp E callF Y op ⟨sz, m, ds⟩ h) u n r <;> rfl
    | fail => rfl

noncomputable def cDrw (sz : Nat) (ops : Array Oper) (l : List PI) : Nat → W RD := List.rec (motive := fun _ => Nat → W RD) (fun _ => ⟨fun _ _ m h _ k => k m h⟩)
  (fun p _ ih n => wK (puK sz p.o.dst) fun put => match p.kd with
    | .read => wK (rvK E p.o.op (Nat.sub n p.a)) fun run => wK (ih n) fun rest => waD ops p.o
      (fun callF Y m h hs k => run callF Y m hs fun v => put m v fun m' => rest callF Y m' h hs k)
      (fun callF Y m h hs k => put m undefA fun m' => rest callF Y m' h hs k)
    | .chain => wK (cOp E p.o.op) fun run => wK (ih (Nat.succ n)) fun rest => waD ops p.o
      (Bool.rec (motive := fun _ => RD) (fun callF Y m h hs k => run callF Y m h fun v h' => put m v fun m' => rest callF Y m' h' (h' :: hs) k) (fun _ _ _ _ _ _ => .fail) (isDefer p.o.op))
      (fun callF Y m h hs k => put m undefA fun m' => rest callF Y m' h (h :: hs) k)
    | _ => wK (cOp E p.o.op) fun run => wK (ih n) fun rest => waD ops p.o
      (fun callF Y m h hs k => run callF Y m h fun v h' => put m v fun m' => rest callF Y m' h' hs k)
      (fun callF Y m h hs k => put m undefA fun m' => rest callF Y m' h hs k)) l

theorem cDrw_eq (sz : Nat) (ops : Array Oper) (callF : CallY) (Y : YF) (ds : List ADef) (k : AF → Heap → CRes) : ∀ (l : List PI) (n : Nat) (m : Tmps) (h : Heap) (hs : List Heap),
    (cDrw E sz ops l n).f callF Y m h hs (fun m' h' => k ⟨sz, m', ds⟩ h') = frK (evalDraw E callF Y ops l ⟨sz, m, ds⟩ h hs n) k := by
  intro l
  induction l with
  | nil => intro n m h hs; rfl
  | cons p l ih =>
    intro n m h hs
    have hput : ∀ n' v h' hs', (puK sz p.o.dst).f m v (fun m' => (cDrw E sz ops l n').f callF Y m' h' hs' (fun m' h' => k ⟨sz, m', ds⟩ h')) = frK (putK .fail ⟨sz, m, ds⟩ p.o.dst v fun a' => evalDraw E callF Y ops l a' h' hs' n') k := fun n' v h' hs' => by
      rw [puK_eq]
      exact congrArg ((puK sz p.o.dst).f m v) (funext fun m' => ih n' m' h' hs')
    show (wK (puK sz p.o.dst) fun put => match p.kd with
    | .read => wK (rvK E p.o.op (Nat.sub n p.a)) fun run => wK (cDrw E sz ops l n) fun rest => waD ops p.o
      (fun callF Y m h hs k => run callF Y m hs fun v => put m v fun m' => rest callF Y m' h hs k)
      (fun callF Y m h hs k => put m undefA fun m' => rest callF Y m' h hs k)
    | .chain => wK (cOp E p.o.op) fun run => wK (cDrw E sz ops l (Nat.succ n)) fun rest => waD ops p.o
      (Bool.rec (motive := fun _ => RD) (fun callF Y m h hs k => run callF Y m h fun v h' => put m v fun m' => rest callF Y m' h' (h' :: hs) k) (fun _ _ _ _ _ _ => .fail) (isDefer p.o.op))
      (fun callF Y m h hs k => put m undefA fun m' => rest callF Y m' h (h :: hs) k)
    | _ => wK (cOp E p.o.op) fun run => wK (cDrw E sz ops l n) fun rest => waD ops p.o
      (fun callF Y m h hs k => run callF Y m h fun v h' => put m v fun m' => rest callF Y m' h' hs k)
      (fun callF Y m h hs k => put m undefA fun m' => rest callF Y m' h hs k)).f callF Y m h hs _ = _
    simp only [wK_eq]
    simp only [evalDraw]
    cases hk : p.kd with
    | read =>
      simp only
      rw [waD_eq ops p.o _ _ callF Y sz m ds h]
      cases wantA ops p.o ⟨sz, m, ds⟩ with
      | yes =>
        simp only
        rw [rvK_eq E p.o.op _ callF Y sz m ds]
        cases readV (fun h => evalOp E callF Y p.o.op ⟨sz, m, ds⟩ h) (Nat.sub n p.a) hs with
        | some v => exact hput n v h hs
        | none => rfl
      | no => exact hput n undefA h hs
      | bad => rfl
    | chain =>
      simp only
      rw [waD_eq ops p.o _ _ callF Y sz m ds h]
      cases wantA ops p.o ⟨sz, m, ds⟩ with
      | yes =>
        simp only
        cases isDefer p.o.op with
        | true => rfl
        | false =>
          simp only [cond_false]
          rw [cOp_eq E p.o.op callF Y sz m ds h]
          cases evalOp E callF Y p.o.op ⟨sz, m, ds⟩ h with
          | ok v h' => exact hput _ v h' _
          | fail => rfl
      | no => exact hput _ undefA h _
      | bad => rfl
    | pure =>
      simp only
      rw [waD_eq ops p.o _ _ callF Y sz m ds h]
      cases wantA ops p.o ⟨sz, m, ds⟩ with
      | yes =>
        simp only
        rw [cOp_eq E p.o.op callF Y sz m ds h]
        cases evalOp E callF Y p.o.op ⟨sz, m, ds⟩ h with
        | ok v h' => exact hput _ v h' _
        | fail => rfl
      | no => exact hput _ undefA h _
      | bad => rfl
    | make =>
      simp only
      rw [waD_eq ops p.o _ _ callF Y sz m ds h]
      cases wantA ops p.o ⟨sz, m, ds⟩ with
      | yes =>
        simp only
        rw [cOp_eq E p.o.op callF Y sz m ds h]
        cases evalOp E callF Y p.o.op ⟨sz, m, ds⟩ h with
        | ok v h' => exact hput _ v h' _
        | fail => rfl
      | no => exact hput _ undefA h _
      | bad => rfl

end
end Ev
end Go.Proofs.YtodemhmfnokomaaGreatDoor
namespace Go.Proofs.YtodemhmfnokomaaGreatDoor
namespace Ev
open Go

abbrev CC := CallY → YF → Tmps → List ADef → Heap → (Tmps → List ADef → Heap → CRes) → CRes

def coK (r : CRes) (k : Tmps → List ADef → Heap → CRes) : CRes := match r with
  | .done x a h => (match x with
    | .normal => k a.tmps a.ds h
    | x => .done x a h)
  | .fail => .fail

/-- the frame's size stays -/
def SzF (sz : Nat) (r : FRes) : Prop := ∀ a h, r = .ok a h → a.sz = sz
def SzR (sz : Nat) (r : CRes) : Prop := ∀ x a h, r = .done x a h → a.sz = sz

section
variable (E : Env) {callF : CallY} {Y : YF}

theorem putK_sz {a : AF} {d : Option Tmp} {v : AV} {f : AF → FRes} (hf : ∀ a', a'.sz = a.sz → SzF a.sz (f a')) : SzF a.sz (putK .fail a d v f) := by
  cases d with
  | none => exact hf a rfl
  | some t =>
    obtain ⟨sz, m, ds⟩ := a
    simp only [putK]
    cases Nat.ble (Nat.succ t) sz with
    | false => intro a h e; cases e
    | true => simp only [cond_true, tmpsSetK_eq]; exact hf _ rfl

theorem ops_sz (inR : Bool) (ops : Array Oper) : ∀ (l : List Oper) (a : AF) (h : Heap), SzF a.sz (evalOps E callF Y inR ops l a h)
  | [], a, h => fun a' h' e => by simp only [evalOps, FRes.ok.injEq] at e; rw [e.1]
  | o :: l, a, h => by
    have ih : ∀ a' h', a'.sz = a.sz → SzF a.sz (evalOps E callF Y inR ops l a' h') := fun a' h' e => e ▸ ops_sz inR ops l a' h'
    simp only [evalOps]
    split
    · cases isDefer o.op with
      | true =>
        cases inR with
        | true => intro a h e; cases e
        | false =>
          simp only [cond_true, cond_false, deferA]
          split
          · split
            · split
              · rename_i g first captured _
                obtain ⟨sz, m, ds⟩ := a
                exact putK_sz fun a' e => ih a' h e
              · intro a h e; cases e
            · intro a h e; cases e
          · intro a h e; cases e
      | false =>
        simp only [cond_false]
        split
        · rename_i v h' _; exact putK_sz fun a' e => ih a' h' e
        · intro a h e; cases e
    · exact putK_sz fun a' e => ih a' h e
    · intro a h e; cases e

theorem draw_sz (ops : Array Oper) : ∀ (l : List PI) (a : AF) (h : Heap) (hs : List Heap) (k : Nat), SzF a.sz (evalDraw E callF Y ops l a h hs k)
  | [], a, h, hs, k => fun a' h' e => by simp only [evalDraw, FRes.ok.injEq] at e; rw [e.1]
  | p :: l, a, h, hs, k => by
    have ih : ∀ a' h' hs' k', a'.sz = a.sz → SzF a.sz (evalDraw E callF Y ops l a' h' hs' k') := fun a' h' hs' k' e => e ▸ draw_sz ops l a' h' hs' k'
    simp only [evalDraw]
    split
    · split
      · split
        · exact putK_sz fun a' e => ih a' _ _ _ e
        · intro a h e; cases e
      · cases isDefer p.o.op with
        | true => intro a h e; cases e
        | false =>
          simp only [cond_false]
          split
          · exact putK_sz fun a' e => ih a' _ _ _ e
          · intro a h e; cases e
      · split
        · exact putK_sz fun a' e => ih a' _ _ _ e
        · intro a h e; cases e
    · split
      · exact putK_sz fun a' e => ih a' _ _ _ e
      · exact putK_sz fun a' e => ih a' _ _ _ e
    · intro a h e; cases e

def SzL (sz : Nat) : LRes → Prop
  | .more a _ => a.sz = sz
  | .stop r => SzR sz r

theorem iter_sz {body : AF → Heap → CRes} (hb : ∀ a h, SzR a.sz (body a h)) : ∀ (k : Nat) (a : AF) (h : Heap), SzL a.sz (iter body k a h)
  | 0, a, h => by
    have := hb a h
    simp only [iter, rnd]
    split
    · rename_i x a' h' e
      rw [e] at this
      have h1 := this _ _ _ rfl
      split
      · exact h1
      · intro x a h e; cases e; exact h1
    · intro x a h e; cases e
  | k + 1, a, h => by
    have h1 := iter_sz hb k a h
    simp only [iter]
    split
    · rename_i a' h' e
      rw [e] at h1
      simp only [SzL] at h1
      rw [← h1]; exact iter_sz hb k a' h'
    · rename_i r e
      rw [e] at h1
      exact h1

theorem loop_sz {body : AF → Heap → CRes} (hb : ∀ a h, SzR a.sz (body a h)) (a : AF) (h : Heap) : SzR a.sz (evalLoop body a h) := by
  have := iter_sz hb 20 a h
  unfold evalLoop
  generalize iter body 20 a h = r at *
  cases r with
  | more a' h' => intro x a h e; cases e
  | stop r => exact this

theorem range_sz (f : AV) (ps : List Tmp) (assign body : AF → Heap → CRes) (a : AF) (h : Heap) : SzR a.sz (evalRange E.P callF Y f ps assign body a h) := by
  unfold evalRange
  split
  · rename_i g first captured sz m ds next tr
    cases hasBody E.P g <;> simp only [cond_true, cond_false]
    · intro x a h e; cases e
    simp only [Tr.setK_eq]
    split
    · rename_i v h' e
      obtain ⟨n3, t3⟩ := h'
      simp only [endRange]
      split
      · rename_i p hp
        rw [Tr.setK_eq]
        cases p <;> (intro x a h e; cases e; rfl)
      · intro x a h e; cases e
    · intro x a h e; cases e
  · intro x a h e; cases e

theorem code_sz : ∀ (c : Code) (inR : Bool) (a : AF) (h : Heap), SzR a.sz (evalC E callF Y inR c a h) := by
  intro c
  induction c with
  | skip => intro inR a h x a' h' e; simp only [evalC, CRes.done.injEq] at e; rw [e.2.1]
  | label l => intro inR a h x a' h' e; simp only [evalC, CRes.done.injEq] at e; rw [e.2.1]
  | ret => intro inR a h x a' h' e; simp only [evalC, CRes.done.injEq] at e; rw [e.2.1]
  | exit id => intro inR a h x a' h' e; simp only [evalC, CRes.done.injEq] at e; rw [e.2.1]
  | goto l => intro inR a h x a' h' e; simp only [evalC, reduceCtorEq] at e
  | refuse s => intro inR a h x a' h' e; simp only [evalC, reduceCtorEq] at e
  | region id ops draw =>
    intro inR a h x a' h' e
    simp only [evalC] at e
    split at e
    · split at e
      · rename_i a1 h1 h2; cases e; exact ops_sz E inR ops _ a h _ _ h2
      · cases e
    · split at e
      · rename_i a1 h1 h2; cases e; exact draw_sz E ops _ a h _ _ _ _ h2
      · cases e
  | seq x y ihx ihy =>
    intro inR a h z a' h' e
    simp only [evalC] at e
    split at e
    · rename_i x1 a1 h1 hx
      have h2 := ihx inR a h _ _ _ hx
      split at e
      · rw [← h2]; exact ihy inR a1 h1 _ _ _ e
      · cases e; exact h2
    · cases e
  | cond c x y ihx ihy =>
    intro inR a h z a' h' e
    simp only [evalC] at e
    split at e
    · rename_i b hb
      cases b
      · exact ihy inR a h _ _ _ e
      · exact ihx inR a h _ _ _ e
    · cases e
  | block id x ih =>
    intro inR a h z a' h' e
    simp only [evalC] at e
    split at e
    · rename_i x1 a1 h1 hx
      have h2 := ih inR a h _ _ _ hx
      split at e
      · rename_i id'
        cases hb : Nat.beq id' id <;> rw [hb] at e <;> cases e <;> exact h2
      · cases e; exact h2
    · cases e
  | loop x ih =>
    intro inR a h z a' h' e
    simp only [evalC] at e
    exact loop_sz (ih inR) a h _ _ _ e
  | scope x ih =>
    intro inR a h z a' h' e
    simp only [evalC] at e
    split at e
    · rename_i x1 a1 h1 hx
      have h2 := ih inR a h _ _ _ hx
      split at e
      · cases e
      · cases e; exact h2
    · cases e
  | rangeFunc f ps assign body iha ihb =>
    intro inR a h z a' h' e
    simp only [evalC] at e
    cases inR with
    | true => cases e
    | false =>
      exact range_sz E _ _ _ _ _ _ _ _ _ e

/-- rounds, counted -/
def loopF (body : AF → Heap → CRes) : Nat → AF → Heap → CRes
  | 0, _, _ => .fail
  | n + 1, a, h => match body a h with
    | .done x a' h' => (match x with
      | .normal => loopF body n a' h'
      | x => .done x a' h')
    | .fail => .fail

theorem iter_loopF (body : AF → Heap → CRes) : ∀ (k n : Nat) (a : AF) (h : Heap), loopF body (n + 2 ^ k) a h = match iter body k a h with
    | .more a' h' => loopF body n a' h'
    | .stop r => r
  | 0, n, a, h => by
    show loopF body (n + 1) a h = _
    simp only [loopF, iter, rnd]
    cases body a h with
    | fail => rfl
    | done x a' h' => cases x <;> rfl
  | k + 1, n, a, h => by
    have hp : n + 2 ^ (k + 1) = (n + 2 ^ k) + 2 ^ k := by rw [Nat.pow_succ]; omega
    rw [hp, iter_loopF body k (n + 2 ^ k) a h]
    simp only [iter]
    cases iter body k a h with
    | more a' h' => exact iter_loopF body k n a' h'
    | stop r => rfl

def loopFuel : Nat := 1048576
theorem loopFuel_eq : loopFuel = 0 + 2 ^ 20 := rfl

theorem evalLoop_loopF (body : AF → Heap → CRes) (a : AF) (h : Heap) (n : Nat) (hn : n = 0 + 2 ^ 20) : evalLoop body a h = loopF body n a h := by
  have := iter_loopF body 20 0 a h
  rw [← hn] at this
  rw [this]
  unfold evalLoop
  generalize iter body 20 a h = r
  cases r <;> rfl

theorem loopF_not_normal (body : AF → Heap → CRes) : ∀ (n : Nat) (a : AF) (h : Heap) (k : Tmps → List ADef → Heap → CRes), coK (loopF body n a h) k = loopF body n a h
  | 0, _, _, _ => rfl
  | n + 1, a, h, k => by
    simp only [loopF]
    cases body a h with
    | fail => rfl
    | done x a' h' => cases x with
      | normal => exact loopF_not_normal body n a' h' k
      | _ => rfl

/-- some operation is deferred -/
def anyDefer (l : List Oper) : Bool := l.any fun o => isDefer o.op

/-- rounds of a loop -/
noncomputable def loopK (x : CC) (n : Nat) (callF : CallY) (Y : YF) : Tmps → List ADef → Heap → CRes :=
  Nat.rec (motive := fun _ => Tmps → List ADef → Heap → CRes) (fun _ _ _ => .fail) (fun _ L m ds h => x callF Y m ds h L) n

noncomputable def cCode (sz : Nat) (inR : Bool) (c : Code) : W CC := Code.rec (motive := fun _ => W CC)
  (skip := ⟨fun _ _ m ds h k => k m ds h⟩)
  (region := fun id ops draw => Bool.rec (motive := fun _ => W CC)
    (Bool.rec (motive := fun _ => W CC) (wK (cReg E sz ops ops.toList) fun rg => ⟨fun callF Y m ds h k => rg callF Y m h fun m' h' => k m' ds h'⟩)
      ⟨fun callF Y m ds h k => coK (evalC E callF Y inR (.region id ops false) ⟨sz, m, ds⟩ h) k⟩ (anyDefer ops.toList))
    (wK (cDrw E sz ops (plan ops) 0) fun rg => ⟨fun callF Y m ds h k => rg callF Y m h [h] fun m' h' => k m' ds h'⟩) draw)
  (seq := fun _ _ x y => wK x fun x => wK y fun y => ⟨fun callF Y m ds h k => x callF Y m ds h fun m' ds' h' => y callF Y m' ds' h' k⟩)
  (cond := fun c _ _ x y => wK (xO c) fun g => wK x fun x => wK y fun y => ⟨fun callF Y m ds h k => boolE (g m) (fun b => orK b (x callF Y m ds h k) (y callF Y m ds h k)) .fail⟩)
  (block := fun id _ x => wK x fun x => ⟨fun callF Y m ds h k => match x callF Y m ds h (fun m' ds' h' => .done .normal ⟨sz, m', ds'⟩ h') with
    | .done e a' h' => (match e with
      | .normal => k a'.tmps a'.ds h'
      | .exit id' => Bool.rec (motive := fun _ => CRes) (.done (.exit id') a' h') (k a'.tmps a'.ds h') (Nat.beq id' id)
      | e => .done e a' h')
    | .fail => .fail⟩)
  (loop := fun _ x => wK x fun x => ⟨fun callF Y m ds h _ => loopK x loopFuel callF Y m ds h⟩)
  (rangeFunc := fun f ps assign body _ _ => ⟨fun callF Y m ds h k => coK (evalC E callF Y inR (.rangeFunc f ps assign body) ⟨sz, m, ds⟩ h) k⟩)
  (exit := fun id => ⟨fun _ _ m ds h _ => .done (.exit id) ⟨sz, m, ds⟩ h⟩)
  (scope := fun _ x => wK x fun x => ⟨fun callF Y m ds h k => match x callF Y m ds h (fun m' ds' h' => .done .normal ⟨sz, m', ds'⟩ h') with
    | .done e a' h' => (match e with
      | .normal => k a'.tmps a'.ds h'
      | .goto _ => .fail
      | e => .done e a' h')
    | .fail => .fail⟩)
  (label := fun _ => ⟨fun _ _ m ds h k => k m ds h⟩)
  (goto := fun _ => ⟨fun _ _ _ _ _ _ => .fail⟩)
  (ret := ⟨fun _ _ m ds h _ => .done .ret ⟨sz, m, ds⟩ h⟩)
  (refuse := fun _ => ⟨fun _ _ _ _ _ _ => .fail⟩) c

theorem cCode_loop (sz : Nat) (inR : Bool) (x : Code) : cCode E sz inR (.loop x) = wK (cCode E sz inR x) fun x => ⟨fun callF Y m ds h _ => loopK x loopFuel callF Y m ds h⟩ := by
  unfold cCode
  rfl

theorem cCode_eq (sz : Nat) (inR : Bool) (callF : CallY) (Y : YF) : ∀ (c : Code) (m : Tmps) (ds : List ADef) (h : Heap) (k : Tmps → List ADef → Heap → CRes),
    (cCode E sz inR c).f callF Y m ds h k = coK (evalC E callF Y inR c ⟨sz, m, ds⟩ h) k := by
  intro c
  induction c with
  | skip => intro m ds h k; rfl
  | label l => intro m ds h k; rfl
  | ret => intro m ds h k; rfl
  | exit id => intro m ds h k; rfl
  | goto l => intro m ds h k; rfl
  | refuse s => intro m ds h k; rfl
  | rangeFunc f ps assign body iha ihb => intro m ds h k; rfl
  | region id ops draw =>
    intro m ds h k
    cases draw with
    | false =>
      cases hd : anyDefer ops.toList with
      | true => show (Bool.rec (motive := fun _ => W CC) _ _ (anyDefer ops.toList)).f callF Y m ds h k = _; rw [hd]
      | false =>
        show (Bool.rec (motive := fun _ => W CC) _ _ (anyDefer ops.toList)).f callF Y m ds h k = _
        rw [hd]
        show (wK (cReg E sz ops ops.toList) fun rg => (⟨fun callF Y m ds h k => rg callF Y m h fun m' h' => k m' ds h'⟩ : W CC)).f callF Y m ds h k = _
        simp only [wK_eq]
        have hno : ∀ o ∈ ops.toList, isDefer o.op = false := fun o ho => by
          cases hx : isDefer o.op with
          | false => rfl
          | true =>
            have : anyDefer ops.toList = true := List.any_eq_true.2 ⟨o, ho, hx⟩
            rw [hd] at this; cases this
        have := cReg_eq E sz ops inR callF Y ds (fun a h => k a.tmps ds h) ops.toList hno m h
        rw [this]
        simp only [evalC]
        cases he : evalOps E callF Y inR ops ops.toList ⟨sz, m, ds⟩ h with
        | fail => rfl
        | ok a' h' =>
          show k a'.tmps ds h' = k a'.tmps a'.ds h'
          have hds : ∀ (l : List Oper), (∀ o ∈ l, isDefer o.op = false) → ∀ (a : AF) (h : Heap) (a' : AF) (h' : Heap), evalOps E callF Y inR ops l a h = .ok a' h' → a'.ds = a.ds := by
            intro l
            induction l with
            | nil => intro _ a h a' h' e; simp only [evalOps, FRes.ok.injEq] at e; rw [e.1]
            | cons o l ih =>
              intro hno a h a' h' e
              have ih := ih fun o ho => hno o (List.mem_cons_of_mem _ ho)
              simp only [evalOps] at e
              have put : ∀ v h1, putK .fail a o.dst v (fun a' => evalOps E callF Y inR ops l a' h1) = .ok a' h' → a'.ds = a.ds := fun v h1 e => by
                obtain ⟨a1, e1, e2⟩ := putK_inv e
                have := ih a1 h1 a' h' e2
                rw [this]
                cases hd : o.dst with
                | none => rw [hd] at e1; simp only [putA, putK, Option.some.injEq] at e1; rw [e1]
                | some t =>
                  rw [hd] at e1
                  obtain ⟨sz, m, ds⟩ := a
                  simp only [putA, putK] at e1
                  cases hb : Nat.ble (Nat.succ t) sz <;> rw [hb] at e1 <;> simp only [cond_true, cond_false, reduceCtorEq, tmpsSetK_eq, Option.some.injEq] at e1
                  rw [← e1]
              split at e
              · rw [hno o (List.mem_cons_self ..)] at e
                simp only [cond_false] at e
                split at e
                · exact put _ _ e
                · cases e
              · exact put _ _ e
              · cases e
          rw [hds _ hno _ _ _ _ he]
    | true =>
      show (wK (cDrw E sz ops (plan ops) 0) fun rg => (⟨fun callF Y m ds h k => rg callF Y m h [h] fun m' h' => k m' ds h'⟩ : W CC)).f callF Y m ds h k = _
      simp only [wK_eq]
      have := cDrw_eq E sz ops callF Y ds (fun a h => k a.tmps ds h) (plan ops) 0 m h [h]
      rw [this]
      simp only [evalC]
      cases he : evalDraw E callF Y ops (plan ops) ⟨sz, m, ds⟩ h [h] 0 with
      | fail => rfl
      | ok a' h' =>
        show k a'.tmps ds h' = k a'.tmps a'.ds h'
        obtain ⟨sts, _, hrun⟩ := draw_runs _ _ _ _ _ _ _ he
        have hds : ∀ (l : List Sd) (a : AF) (h : Heap) (hs : List Heap) (n : Nat) (aF : AF) (hF : Heap), Runs E callF Y ops l a h hs n aF hF → aF.ds = a.ds := by
          intro l
          induction l with
          | nil => intro a h hs n aF hF R; rw [R.1]
          | cons s l ih =>
            intro a h hs n aF hF R
            obtain ⟨_, _, _, _, _, a1, e1, R⟩ := R
            rw [ih _ _ _ _ _ _ R]
            cases hd : s.p.o.dst with
            | none => rw [hd] at e1; simp only [putA, putK, Option.some.injEq] at e1; rw [e1]
            | some t =>
              rw [hd] at e1
              obtain ⟨sz, m, ds⟩ := a
              simp only [putA, putK] at e1
              cases hb : Nat.ble (Nat.succ t) sz <;> rw [hb] at e1 <;> simp only [cond_true, cond_false, reduceCtorEq, tmpsSetK_eq, Option.some.injEq] at e1
              rw [← e1]
        rw [hds _ _ _ _ _ _ _ hrun]
  | seq x y ihx ihy =>
    intro m ds h k
    show (wK (cCode E sz inR x) fun x => wK (cCode E sz inR y) fun y => (⟨fun callF Y m ds h k => x callF Y m ds h fun m' ds' h' => y callF Y m' ds' h' k⟩ : W CC)).f callF Y m ds h k = _
    simp only [wK_eq]
    rw [ihx]
    simp only [evalC]
    cases hx : evalC E callF Y inR x ⟨sz, m, ds⟩ h with
    | fail => rfl
    | done e a' h' =>
      have hsz : a'.sz = sz := code_sz E x inR _ h _ _ _ hx
      obtain ⟨sz', m', ds'⟩ := a'
      simp only at hsz
      subst hsz
      cases e with
      | normal => exact ihy m' ds' h' k
      | _ => rfl
  | cond c x y ihx ihy =>
    intro m ds h k
    show (wK (xO c) fun g => wK (cCode E sz inR x) fun x => wK (cCode E sz inR y) fun y => (⟨fun callF Y m ds h k => boolE (g m) (fun b => orK b (x callF Y m ds h k) (y callF Y m ds h k)) .fail⟩ : W CC)).f callF Y m ds h k = _
    simp only [wK_eq]
    rw [xO_eq c sz m ds]
    simp only [boolE_eq, orK_eq]
    simp only [evalC]
    cases AF.ev ⟨sz, m, ds⟩ c with
    | bool b => cases b <;> simp only [cond_true, cond_false, ihx, ihy]
    | _ => rfl
  | block id x ih =>
    intro m ds h k
    show (wK (cCode E sz inR x) fun x => (⟨fun callF Y m ds h k => match x callF Y m ds h (fun m' ds' h' => .done .normal ⟨sz, m', ds'⟩ h') with
      | .done e a' h' => (match e with
        | .normal => k a'.tmps a'.ds h'
        | .exit id' => Bool.rec (motive := fun _ => CRes) (.done (.exit id') a' h') (k a'.tmps a'.ds h') (Nat.beq id' id)
        | e => .done e a' h')
      | .fail => .fail⟩ : W CC)).f callF Y m ds h k = _
    simp only [wK_eq]
    rw [ih]
    simp only [evalC]
    cases hx : evalC E callF Y inR x ⟨sz, m, ds⟩ h with
    | fail => rfl
    | done e a' h' =>
      cases e with
      | exit id' => simp only [coK]; cases Nat.beq id' id <;> rfl
      | _ => rfl
  | loop x ih =>
    intro m ds h k
    rw [cCode_loop]
    simp only [wK_eq]
    simp only [evalC]
    rw [evalLoop_loopF _ _ _ loopFuel loopFuel_eq, loopF_not_normal]
    have key : ∀ (n : Nat) (m : Tmps) (ds : List ADef) (h : Heap), loopK (cCode E sz inR x).f n callF Y m ds h = loopF (evalC E callF Y inR x) n ⟨sz, m, ds⟩ h := by
      intro n
      induction n with
      | zero => intro m ds h; rfl
      | succ n ihn =>
        intro m ds h
        show (cCode E sz inR x).f callF Y m ds h (loopK (cCode E sz inR x).f n callF Y) = _
        rw [ih]
        simp only [loopF]
        cases hx : evalC E callF Y inR x ⟨sz, m, ds⟩ h with
        | fail => rfl
        | done e a' h' =>
          have hsz : a'.sz = sz := code_sz E x inR _ h _ _ _ hx
          obtain ⟨sz', m', ds'⟩ := a'
          simp only at hsz
          subst hsz
          cases e with
          | normal => exact ihn m' ds' h'
          | _ => rfl
    exact key loopFuel m ds h
  | scope x ih =>
    intro m ds h k
    show (wK (cCode E sz inR x) fun x => (⟨fun callF Y m ds h k => match x callF Y m ds h (fun m' ds' h' => .done .normal ⟨sz, m', ds'⟩ h') with
      | .done e a' h' => (match e with
        | .normal => k a'.tmps a'.ds h'
        | .goto _ => .fail
        | e => .done e a' h')
      | .fail => .fail⟩ : W CC)).f callF Y m ds h k = _
    simp only [wK_eq]
    rw [ih]
    simp only [evalC]
    cases hx : evalC E callF Y inR x ⟨sz, m, ds⟩ h with
    | fail => rfl
    | done e a' h' => cases e <;> rfl

end
end Ev
end Go.Proofs.YtodemhmfnokomaaGreatDoor
namespace Go.Proofs.YtodemhmfnokomaaGreatDoor
namespace Ev
open Go

abbrev FC := CallY → YF → List AV → Heap → VRes

noncomputable def saK (l : List AV) : Nat → Tmps → (Tmps → VRes) → VRes := List.rec (motive := fun _ => Nat → Tmps → (Tmps → VRes) → VRes) (fun _ m f => f m)
  (fun x _ ih i m f => (slotS VRes i).f m x fun m' => fN (Nat.succ i) fun i' => ih i' m' f) l

theorem saK_eq (f : Tmps → VRes) : ∀ (l : List AV) (i : Nat) (m : Tmps), saK l i m f = setArgs l i m f := by
  intro l
  induction l with
  | nil => intro i m; rfl
  | cons x l ih =>
    intro i m
    show (slotS VRes i).f m x (fun m' => fN (Nat.succ i) fun i' => saK l i' m' f) = _
    rw [slotS_eq]
    simp only [fN_eq, setArgs, ih, tmpsSetK_eq]

section
variable (E : Env)

noncomputable def rsK (l : List ResultVar) : W (Tmps → Heap → (List AV → VRes) → VRes) := List.rec (motive := fun _ => W (Tmps → Heap → (List AV → VRes) → VRes)) ⟨fun _ _ k => k []⟩
  (fun x _ ih => match x with
    | .tmp t => wK (slotG t) fun g => wK ih fun r => ⟨fun m h k => forceA (g m) fun v => r m h fun l => k (v :: l)⟩
    | .cell p t => wK (slotG p) fun g => wK ih fun r => ⟨fun m h k => match doLoad E.P E.glob t (g m) h with
      | .ok v _ => r m h fun l => k (v :: l)
      | .fail => .fail⟩) l

theorem rsK_eq (sz : Nat) (m : Tmps) (ds : List ADef) (h : Heap) : ∀ (l : List ResultVar) (k : List AV → VRes), (rsK E l).f m h k = match resultsA E ⟨sz, m, ds⟩ h l with
    | some l => k l
    | none => .fail := by
  intro l
  induction l with
  | nil => intro k; rfl
  | cons x l ih =>
    intro k
    cases x with
    | tmp t =>
      show (wK (slotG t) fun g => wK (rsK E l) fun r => (⟨fun m h k => forceA (g m) fun v => r m h fun l => k (v :: l)⟩ : W (Tmps → Heap → (List AV → VRes) → VRes))).f m h k = _
      simp only [wK_eq]
      rw [forceA_eq, ih, slotG_eq]
      simp only [resultsA, resultOne, AF.get]
      cases resultsA E ⟨sz, m, ds⟩ h l <;> rfl
    | cell p t =>
      show (wK (slotG p) fun g => wK (rsK E l) fun r => (⟨fun m h k => match doLoad E.P E.glob t (g m) h with
        | .ok v _ => r m h fun l => k (v :: l)
        | .fail => .fail⟩ : W (Tmps → Heap → (List AV → VRes) → VRes))).f m h k = _
      simp only [wK_eq]
      rw [slotG_eq]
      simp only [resultsA, resultOne, AF.get, ih]
      cases doLoad E.P E.glob t (tmpsGet m (pth p)) h with
      | fail => rfl
      | ok v h' => simp only; cases resultsA E ⟨sz, m, ds⟩ h l <;> rfl

/-- what is left behind a body -/
noncomputable def finK (idle : IdleF) (rs : Tmps → Heap → (List AV → VRes) → VRes) (r : CRes) : VRes := match r with
  | .done x a' h' => (match x with
    | .exit _ => .fail
    | .goto _ => .fail
    | _ => (match a' with
      | ⟨_, m, ds⟩ => (match ds with
        | [] => rs m h' fun l => .ok (oneTup l) h'
        | d :: ds => leaveA idle (d :: ds) h' fun h2 => rs m h2 fun l => .ok (oneTup l) h2)))
  | .fail => .fail

noncomputable def cFn (idle : IdleF) (S : Summ) (f : FuncId) : W FC := match S f with
  | some s => ⟨fun _ _ args h => s args h⟩
  | none => (match E.P.funcs[f]? with
    | none => ⟨fun _ _ _ _ => .fail⟩
    | some fn => (match fn.body with
      | none => ⟨fun _ _ _ _ => .fail⟩
      | some c => fN fn.ntmps fun sz => Bool.rec (motive := fun _ => W FC) ⟨fun _ _ _ _ => .fail⟩
        (wK (rsK E fn.results.toList) fun rs => wK (cCode E sz false c) fun cc => ⟨fun callF Y args h => Bool.rec (motive := fun _ => VRes) .fail (saK args 0 undefT fun m => finK idle rs (cc callF Y m [] h fun m' ds' h' => .done .normal ⟨sz, m', ds'⟩ h')) (Nat.ble (lenR args) sz)⟩)
        (Nat.ble sz 448)))

theorem cFn_eq (idle : IdleF) (S : Summ) (f : FuncId) (callF : CallY) (Y : YF) (args : List AV) (h : Heap) : (cFn E idle S f).f callF Y args h = match S f with
    | some s => s args h
    | none => (match E.P.funcs[f]? with
      | some fn => runBody E idle callF Y fn args h
      | none => .fail) := by
  unfold cFn
  cases S f with
  | some s => rfl
  | none =>
    simp only
    cases E.P.funcs[f]? with
    | none => rfl
    | some fn =>
      simp only
      unfold runBody
      cases fn.body with
      | none => rfl
      | some c =>
        simp only [fN_eq]
        cases Nat.ble fn.ntmps 448 with
        | false => rfl
        | true =>
          simp only [Bool.true_and, wK_eq, lenR_eq]
          cases Nat.ble args.length fn.ntmps with
          | false => rfl
          | true =>
            simp only [cond_true]
            rw [saK_eq]
            congr 1
            funext m
            rw [cCode_eq]
            have hk : ∀ r, coK r (fun m' ds' h' => .done .normal ⟨fn.ntmps, m', ds'⟩ h') = r ∨ ∃ a h, r = .done .normal a h := by
              intro r
              cases r with
              | fail => exact .inl rfl
              | done x a h => cases x with
                | normal => exact .inr ⟨a, h, rfl⟩
                | _ => exact .inl rfl
            cases hr : evalC E callF Y false c ⟨fn.ntmps, m, []⟩ h with
            | fail => rfl
            | done x a' h' =>
              have hsz : a'.sz = fn.ntmps := code_sz E c false _ h _ _ _ hr
              obtain ⟨sz', m', ds'⟩ := a'
              simp only at hsz
              subst hsz
              clear hr
              have main : (match ds' with
                  | [] => (rsK E fn.results.toList).f m' h' fun l => .ok (oneTup l) h'
                  | d :: ds => leaveA idle (d :: ds) h' fun h2 => (rsK E fn.results.toList).f m' h2 fun l => .ok (oneTup l) h2) =
                  leaveA idle ds' h' fun h2 => match resultsA E ⟨fn.ntmps, m', ds'⟩ h2 fn.results.toList with
                    | some l => .ok (oneTup l) h2
                    | none => .fail := by
                cases ds' with
                | nil => simp only [leaveA]; exact rsK_eq E fn.ntmps m' [] h' _ _
                | cons d ds => simp only [rsK_eq E fn.ntmps m' (d :: ds)]
              cases x with
              | normal => exact main
              | ret => exact main
              | exit id => rfl
              | goto l => rfl

noncomputable def callR (idle : IdleF) (S : Summ) (n : Nat) : CallY := Nat.rec (motive := fun _ => CallY) (fun _ _ _ _ => .fail) (fun _ ih Y f args h => (cFn E idle S f).f ih Y args h) n

/-- **Both forms are one.** -/
theorem callR_eq (idle : IdleF) (S : Summ) : ∀ n, callR E idle S n = callN E idle S n := by
  intro n
  induction n with
  | zero => rfl
  | succ n ih =>
    funext Y f args h
    show (cFn E idle S f).f (callR E idle S n) Y args h = _
    rw [cFn_eq, ih]
    simp only [callN]
    rfl

end
end Ev
end Go.Proofs.YtodemhmfnokomaaGreatDoor
