/- A logic of runs over abstract states: pieces by the evaluator, pieces by hand, put together. Conditions: what is said of the program and of the summaries. -/
import Derived.Test.YtodemhmfnokomaaGreatDoorEvS
namespace Go.Proofs.YtodemhmfnokomaaGreatDoor
namespace Ev
open Go
open Go.RowKit (Below)

def FreeA (ι : Inj) (n : Nat) : Prop := ∀ b, n ≤ b → ι b = none

section
variable {E : Env} {base : Nat}

theorem FreeA.to {ι : Inj} {n m : Nat} (h : FreeA ι n) : Free ι n m := fun b h1 _ => h b h1
theorem Stp.freeA {ι ι' : Inj} {h h' : Heap} {w w' : World} (s : Stp E base ι h w ι' h' w') (hf : FreeA ι h.next) : FreeA ι' h'.next := fun b hb => by
  rw [s.agree b (.inr hb)]; exact hf b (Nat.le_trans s.next hb)

/-- where code comes to: states that fit what K allows -/
def Ends (E : Env) (base : Nat) (ι : Inj) (h : Heap) (w : World) (K : AX → AF → Heap → Prop) (e : Exit) (act' : Act) (w' : World) : Prop :=
  ∃ x a' h' ι', e = AX.toExit x ∧ K x a' h' ∧ Stp E base ι h w ι' h' w' ∧ FRel ι' a' act'

/-- from every state that fits (a, h) the code comes to states that fit what K allows -/
def Rns (E : Env) (base : Nat) (c : Code) (a : AF) (h : Heap) (K : AX → AF → Heap → Prop) : Prop :=
  ∀ ι act w, HRel E base ι h w → FRel ι a act → FreeA ι h.next → c.wpIn (FW none) 0 E.P (Ends E base ι h w K) act w

theorem Rns.mono {c : Code} {a : AF} {h : Heap} {K K' : AX → AF → Heap → Prop} (r : Rns E base c a h K) (hk : ∀ x a' h', K x a' h' → K' x a' h') : Rns E base c a h K' :=
  fun ι act w H hr hf => wpIn_mono (r ι act w H hr hf) fun _ _ _ ⟨x, a', h', ι', e, k, s⟩ => ⟨x, a', h', ι', e, hk _ _ _ k, s⟩

theorem Ends.trans {ι ι1 : Inj} {h h1 : Heap} {w w1 w' : World} {K : AX → AF → Heap → Prop} {e : Exit} {act' : Act} (s : Stp E base ι h w ι1 h1 w1) (p : Ends E base ι1 h1 w1 K e act' w') : Ends E base ι h w K e act' w' := by
  obtain ⟨x, a', h', ι', e, k, s2, r⟩ := p
  exact ⟨x, a', h', ι', e, k, s.trans s2, r⟩

/-- a piece by the evaluator -/
theorem Rns.ev {callF : CallY} (hC : CallsOk E base callF) (hmC : MonoC callF) {c : Code} (hD : DrawsOk E base callF c) {a : AF} {h : Heap} {x : AX} {a' : AF} {h' : Heap} {K : AX → AF → Heap → Prop}
    (he : evalC E callF noY false c a h = .done x a' h') (hk : K x a' h') : Rns E base c a h K := fun ι act w H r hf => by
  refine wpIn_mono (code_ok hC hmC c hD noY noY_mono false none (fun _ => rfl) _ _ _ _ _ ι _ w he H r (noY_ok _ _ _) hf.to) ?_
  rintro e act1 w1 ⟨rfl, ι1, s1, r1⟩
  exact ⟨x, a', h', ι1, rfl, hk, s1, r1⟩

theorem Rns.seq {c d : Code} {a : AF} {h : Heap} {K K1 : AX → AF → Heap → Prop} (h1 : Rns E base c a h K1) (h2 : ∀ a' h', K1 .normal a' h' → Rns E base d a' h' K) (h3 : ∀ x a' h', x ≠ .normal → K1 x a' h' → K x a' h') : Rns E base (.seq c d) a h K := fun ι act w H r hf => by
  refine wpIn_seq (wpIn_mono (h1 ι act w H r hf) ?_)
  rintro e act1 w1 ⟨x, a1, h1', ι1, rfl, k, s, r1⟩
  cases x with
  | normal => exact wpIn_mono (h2 a1 h1' k ι1 act1 w1 s.rel r1 (s.freeA hf)) fun _ _ _ p => p.trans s
  | exit id => exact ⟨_, a1, h1', ι1, rfl, h3 _ _ _ (by simp) k, s, r1⟩
  | goto l => exact ⟨_, a1, h1', ι1, rfl, h3 _ _ _ (by simp) k, s, r1⟩
  | ret => exact ⟨_, a1, h1', ι1, rfl, h3 _ _ _ (by simp) k, s, r1⟩

theorem Rns.cond {x : Operand} {c d : Code} {a : AF} {h : Heap} {K : AX → AF → Heap → Prop} {b : Bool} (hb : a.ev x = .bool b) (hr : Rns E base (if b then c else d) a h K) : Rns E base (.cond x c d) a h K := fun ι act w H r hf => by
  have hv := r.ev x
  rw [hb] at hv
  have hv := hv.bool_inv
  cases b
  · exact wpIn_cond hv (hr ι act w H r hf)
  · exact wpIn_cond hv (hr ι act w H r hf)

theorem Rns.block {id : Nat} {c : Code} {a : AF} {h : Heap} {K : AX → AF → Heap → Prop} (hr : Rns E base c a h fun x a' h' => K (match x with | .exit id' => if id' = id then .normal else .exit id' | x => x) a' h') : Rns E base (.block id c) a h K := fun ι act w H r hf => by
  refine wpIn_block (wpIn_mono (hr ι act w H r hf) ?_)
  rintro e act1 w1 ⟨x, a1, h1, ι1, rfl, k, s, r1⟩
  cases x with
  | exit id' =>
    simp only [AX.toExit, Exit.inBlock]
    by_cases hid : id' = id
    · rw [if_pos hid]; exact ⟨.normal, a1, h1, ι1, rfl, by simpa [hid] using k, s, r1⟩
    · rw [if_neg hid]; exact ⟨.exit id', a1, h1, ι1, rfl, by simpa [hid] using k, s, r1⟩
  | normal => exact ⟨_, a1, h1, ι1, rfl, k, s, r1⟩
  | goto l => exact ⟨_, a1, h1, ι1, rfl, k, s, r1⟩
  | ret => exact ⟨_, a1, h1, ι1, rfl, k, s, r1⟩

theorem Rns.ret {a : AF} {h : Heap} {K : AX → AF → Heap → Prop} (k : K .ret a h) : Rns E base .ret a h K := fun ι _ _ H r _ => wpIn_ret ⟨.ret, a, h, ι, rfl, k, Stp.refl H, r⟩
theorem Rns.skip {a : AF} {h : Heap} {K : AX → AF → Heap → Prop} (k : K .normal a h) : Rns E base .skip a h K := fun ι _ _ H r _ => wpIn_skip ⟨.normal, a, h, ι, rfl, k, Stp.refl H, r⟩
theorem Rns.exit {id : Nat} {a : AF} {h : Heap} {K : AX → AF → Heap → Prop} (k : K (.exit id) a h) : Rns E base (.exit id) a h K := fun ι _ _ H r _ => wpIn_exit ⟨.exit id, a, h, ι, rfl, k, Stp.refl H, r⟩

/-- the operations l, which are the last ones of ops -/
def RnsO (E : Env) (base : Nat) (ops : Array Oper) (l : List Oper) (a : AF) (h : Heap) (K : AF → Heap → Prop) : Prop :=
  ∀ i ι act w, ops.toList.drop i = l → HRel E base ι h w → FRel ι a act → FreeA ι h.next → ∀ Q : Exit → Act → World → Prop,
    (∀ a' h' ι' act' w', K a' h' → Stp E base ι h w ι' h' w' → FRel ι' a' act' → Q .normal act' w') → wpOpsIn (FW none) 0 E.P ops Q (List.range' i l.length) act w

theorem RnsO.nil {ops : Array Oper} {a : AF} {h : Heap} {K : AF → Heap → Prop} (k : K a h) : RnsO E base ops [] a h K := fun _ _ _ _ _ H r _ _ hQ => hQ _ _ _ _ _ k (Stp.refl H) r

/-- all of them by the evaluator -/
theorem RnsO.eval {callF : CallY} (hC : CallsOk E base callF) (hmC : MonoC callF) {ops : Array Oper} {l : List Oper} {a : AF} {h : Heap} {a' : AF} {h' : Heap} {K : AF → Heap → Prop}
    (he : evalOps E callF noY false ops l a h = .ok a' h') (hk : K a' h') : RnsO E base ops l a h K := fun i ι act w hl H r hf Q hQ =>
  ops_wp hC hmC noY_mono false (fun _ => rfl) ops l i a h a' h' ι act w hl he H r (noY_ok _ _ _) hf.to Q fun _ _ _ s r' => hQ _ _ _ _ _ hk s r'

/-- a step: what an operation may bring -/
theorem RnsO.step {ops : Array Oper} {o : Oper} {l : List Oper} {a : AF} {h : Heap} {K : AF → Heap → Prop} {V : AV → Heap → Prop}
    (hw : wantA ops o a = .yes)
    (hs : ∀ ι act w, HRel E base ι h w → FRel ι a act → FreeA ι h.next → ∀ (next : Act → World → Prop) (Q : Exit → Act → World → Prop), (∀ v h1, V v h1 → Behind E base ι h w v h1 fun v' w' => next (act.put o.dst v') w') → o.wpIn (FW none) 0 E.P act w next Q)
    (hk : ∀ v h1, V v h1 → ∃ a1, (putK .fail a o.dst v fun a' => FRes.ok a' h1) = .ok a1 h1 ∧ RnsO E base ops l a1 h1 K) : RnsO E base ops (o :: l) a h K := fun i ι act w hl H r hf Q hQ => by
  obtain ⟨h1, h2⟩ := drop_cons hl
  have ho : ops[i]? = some o := by simpa using h1
  obtain ⟨w1, _⟩ := want_ok (ops := ops) (o := o) r
  simp only [List.length_cons, List.range'_succ, wpOpsIn, ho]
  rw [if_pos (w1 hw)]
  refine hs ι act w H r hf _ Q fun v h1 hv ι' v' w' s hvv => ?_
  obtain ⟨a1, hp, hr⟩ := hk v h1 hv
  obtain ⟨a2, e1, r1, _⟩ := (r.mono (s.le hf.to)).put hvv (by simp) hp
  cases e1
  exact hr (i + 1) ι' _ w' h2 s.rel r1 (s.freeA hf) Q fun a' h' ι2 act2 w2 k s2 r2 => hQ _ _ _ _ _ k (s.trans s2) r2

/-- one operation by the evaluator -/
theorem RnsO.one {callF : CallY} (hC : CallsOk E base callF) {ops : Array Oper} {o : Oper} {l : List Oper} {a : AF} {h : Heap} {K : AF → Heap → Prop} {v : AV} {h1 : Heap} {a1 : AF}
    (hw : wantA ops o a = .yes) (he : evalOp E callF noY o.op a h = .ok v h1) (hp : (putK .fail a o.dst v fun a' => FRes.ok a' h1) = .ok a1 h1) (hr : RnsO E base ops l a1 h1 K) : RnsO E base ops (o :: l) a h K :=
  RnsO.step (V := fun v' h' => v' = v ∧ h' = h1) hw (fun ι act w H r hf next Q hn => op_wp hC noY_mono (noY_ok _ _ _) H r o he hf.to (hn v h1 ⟨rfl, rfl⟩)) fun v' h' ⟨e1, e2⟩ => by subst e1; subst e2; exact ⟨a1, hp, hr⟩

/-- an operation without memory by hand -/
theorem RnsO.pure {ops : Array Oper} {o : Oper} {l : List Oper} {a : AF} {h : Heap} {K : AF → Heap → Prop} {V : AV → Prop}
    (hw : wantA ops o a = .yes) (hd : ∀ c, o.op ≠ .defer c)
    (hs : ∀ ι act w, FRel ι a act → ∃ v v', V v ∧ VRel ι v v' ∧ (execOp act.eval o).run E.P w = .ok (.value v') w)
    (hk : ∀ v, V v → ∃ a1, (putK .fail a o.dst v fun a' => FRes.ok a' h) = .ok a1 h ∧ RnsO E base ops l a1 h K) : RnsO E base ops (o :: l) a h K :=
  RnsO.step (V := fun v' h' => V v' ∧ h' = h) hw (fun ι act w H r hf next Q hn => by
    obtain ⟨v, v', k1, k2, k3⟩ := hs ι act w r
    exact OpRes.wp ⟨ι, w, Stp.refl H, .inl ⟨v', k2, k3⟩⟩ hd (hn v h ⟨k1, rfl⟩)) fun v' h' ⟨e1, e2⟩ => by subst e2; exact hk v' e1

theorem Rns.region {id : Nat} {ops : Array Oper} {a : AF} {h : Heap} {K : AX → AF → Heap → Prop} (hr : RnsO E base ops ops.toList a h fun a' h' => K .normal a' h') : Rns E base (.region id ops false) a h K := fun ι act w H r hf => by
  refine wpIn_region ?_
  have := hr 0 ι act w rfl H r hf (Ends E base ι h w K) fun a' h' ι' act' w' k s r' => ⟨.normal, a', h', ι', rfl, k, s, r'⟩
  rw [Array.length_toList] at this
  rwa [List.range_eq_range']

/-- what a call may bring -/
def FnRuns (E : Env) (base : Nat) (f : FuncId) (args : List AV) (h : Heap) (V : AV → Heap → Prop) : Prop :=
  ∀ ι w (args' : Array Value), HRel E base ι h w → FreeA ι h.next → VRels ι args args'.toList → CallRes E f args' w fun e w' => ∃ v h1, V v h1 ∧ CallPost E base ι h w v h1 e w'

theorem FnRuns.eval {callF : CallY} (hC : CallsOk E base callF) {f : FuncId} {args : List AV} {h : Heap} {v : AV} {h1 : Heap} {V : AV → Heap → Prop} (he : callF noY f args h = .ok v h1) (hv : V v h1) : FnRuns E base f args h V :=
  fun ι w args' H hf hr => (hC ι noY noY_mono (noY_ok _ _ _) f args h v h1 args' w he H hf.to hr).mono fun _ _ p => ⟨v, h1, hv, p⟩

theorem FnRuns.mono {f : FuncId} {args : List AV} {h : Heap} {V V' : AV → Heap → Prop} (r : FnRuns E base f args h V) (hv : ∀ v h1, V v h1 → V' v h1) : FnRuns E base f args h V' :=
  fun ι w args' H hf hr => (r ι w args' H hf hr).mono fun _ _ ⟨v, h1, k, p⟩ => ⟨v, h1, hv _ _ k, p⟩

/-- a call in a region -/
theorem RnsO.call {ops : Array Oper} {o : Oper} {l : List Oper} {a : AF} {h : Heap} {K : AF → Heap → Prop} {V : AV → Heap → Prop} {c : Call} {x : Operand} {g : FuncId} {first captured : List AV}
    (hw : wantA ops o a = .yes) (ho : o.op = .call c) (hcal : c.callee = .value x) (hx : a.ev x = .fn (.func g) first captured) (hg : FnRuns E base g (first ++ evL a c.args.toList ++ captured) h V)
    (hk : ∀ v h1, V v h1 → ∃ a1, (putK .fail a o.dst v fun a' => FRes.ok a' h1) = .ok a1 h1 ∧ RnsO E base ops l a1 h1 K) : RnsO E base ops (o :: l) a h K :=
  RnsO.step (V := V) hw (fun ι act w H r hf next Q hn => by
    have hs : ∀ c, o.op ≠ .defer c := fun c e => by rw [ho] at e; cases e
    have hexec : execOp act.eval o = (do let d ← resolve act.eval c o.type; invoke d.target d.args) := by simp only [execOp, ho]
    refine ⟨fun _ _ => trivial, ?_⟩
    rw [Oper.semAt_eq _ _ _ hs, hexec]
    have hfr := r.ev x
    rw [hx] at hfr
    have hargs := r.evL c.args.toList
    obtain ⟨f', xs, ys, e1, e2, h1, h2⟩ := hfr
    obtain rfl : f' = .func g := e2
    have hres : (do let d ← resolve act.eval c o.type; invoke d.target d.args : Sem Next).run E.P w = (callFunc g (xs ++ c.args.map act.eval ++ ys)).run E.P w := by
      simp [resolve, hcal, e1, Deferred.ofValue, invoke]
    have hrel : VRels ι (first ++ evL a c.args.toList ++ captured) (xs ++ c.args.map act.eval ++ ys).toList := by
      simp only [Array.toList_append, Array.toList_map]
      exact (h1.append hargs).append h2
    rw [hres]
    rcases hg ι w _ H hf hrel with ⟨_, v', w', k1, v, h3, k2, ι', v'', k3, k4, k5⟩ | ⟨k1, k2⟩
    · cases k3
      rw [k1]
      exact hn _ _ k2 _ _ _ k5 k4
    · rw [k1]
      exact ⟨fun e => (by cases e), k2.mono fun e w' ⟨v, h3, k3, k4⟩ => callPost_wp (hn _ _ k3) e w' k4⟩) hk

/-- a call's first slots -/
def argsT : List AV → Nat → Tmps → Tmps
  | [], _, m => m
  | x :: r, i, m => argsT r (Nat.succ i) (tmpsSet m (pth i) x)

theorem setArgs_eq (f : Tmps → VRes) : ∀ (l : List AV) (i : Nat) (m : Tmps), setArgs l i m f = f (argsT l i m)
  | [], i, m => rfl
  | x :: r, i, m => by simp only [setArgs, argsT, tmpsSetK_eq]; exact setArgs_eq f r _ _

open Classical in
/-- a body without deferred calls -/
theorem FnRuns.body {f : FuncId} {fn : Func} {c : Code} (hf : E.P.funcs[f]? = some fn) (hb : fn.body = some c) (hname : fn.name ≠ "runtime.NumGoroutine") (hle : fn.ntmps ≤ 448) {args : List AV} (hlen : args.length ≤ fn.ntmps) {h : Heap} {V : AV → Heap → Prop}
    (hr : Rns E base c ⟨fn.ntmps, argsT args 0 undefT, []⟩ h fun x a' h' => (x = .normal ∨ x = .ret) ∧ a'.ds = [] ∧ ∃ l, resultsA E a' h' fn.results.toList = some l ∧ V (oneTup l) h') :
    FnRuns E base f args h V := fun ι w args' H hfr hv => by
  refine .inr ⟨by simp [callFunc, hf, hname, hb], callsIn_of_wp_marks hf hb trivial ?_⟩
  obtain ⟨m, he, r⟩ := first_frame (l := args) (f := fun m => if m = argsT args 0 undefT then .ok .nilp h else .fail) (v := .nilp) (h' := h) (by rw [setArgs_eq]; simp) hv hlen hle
  obtain rfl : m = argsT args 0 undefT := by
    by_cases hm : m = argsT args 0 undefT
    · exact hm
    · simp [hm] at he
  refine wpIn_mono (hr ι _ w H r hfr) ?_
  rintro e act1 w1 ⟨x, a', h1, ι1, rfl, ⟨hx, hds, l, hl, hV⟩, s1, r1⟩
  refine end_ok (idle := fun _ => false) (fun f hf => by cases hf) (v := oneTup l) (h' := h1) ?_ s1 r1 fun e w' p => ⟨_, h1, hV, p⟩
  rcases hx with rfl | rfl <;> simp [endA, hds, leaveA, hl]

/-- a law: true, and what lay there lies there -/
theorem FnRuns.law {f : FuncId} {args : List AV} {args' : Array Value} {w : World} (hbody : hasBody E.P f = true) (hr : FnRuns E w.heap.size f args ⟨0, .nil⟩ fun v _ => v = .bool true)
    (hG : ∀ n cs, E.glob n = some cs → n < w.heap.size ∧ ∃ C T fr, w.heap[n]? = some (.cells C T fr) ∧ VRels (fun _ => none) cs C.toList) (hl : VRels (fun _ => none) args args'.toList) :
    Calls E.P f args' w fun e w' => e = .returned (.bool true) ∧ Below w.heap.size w w' := by
  rcases hr (fun _ => none) w args' (HRel.start w hG) (fun _ _ => rfl) hl with ⟨h1, _⟩ | ⟨_, h2⟩
  · rw [hbody] at h1; cases h1
  · refine ((callsIn_wide (n := 0)).1 h2).mono ?_
    rintro e w' ⟨v, h1, rfl, p⟩
    exact post_true p

/-- the loop: a relation between abstract states and a number that falls -/
theorem Rns.loop {c : Code} (I : Nat → AF → Heap → Prop) {K : AX → AF → Heap → Prop} (hr : ∀ n a h, I n a h → Rns E base c a h fun x a' h' => (x = .normal ∧ ∃ m, m < n ∧ I m a' h') ∨ (x ≠ .normal ∧ K x a' h')) {n : Nat} {a : AF} {h : Heap} (h0 : I n a h) : Rns E base (.loop c) a h K := by
  have key : ∀ n a h, I n a h → ∀ ι act w, HRel E base ι h w → FRel ι a act → FreeA ι h.next → ∀ Q : Exit → Act → World → Prop, (∀ e act' w', Ends E base ι h w K e act' w' → Q e act' w') → Code.roundsIn (FW none) 0 E.P c Q (n + 1) act w := by
    intro n
    induction n using Nat.strongRecOn with
    | ind n ih =>
      intro a h hi ι act w H r hf Q hQ
      refine wpIn_mono (hr n a h hi ι act w H r hf) ?_
      rintro e act1 w1 ⟨x, a1, h1, ι1, rfl, ⟨rfl, m, hm, hi'⟩ | ⟨hx, hk⟩, s, r1⟩
      · exact roundsIn_le (by omega) (ih m hm a1 h1 hi' ι1 act1 w1 s.rel r1 (s.freeA hf) Q fun e act' w' p => hQ _ _ _ (p.trans s))
      · have := hQ _ _ _ ⟨x, a1, h1, ι1, rfl, hk, s, r1⟩
        cases x with
        | normal => exact absurd rfl hx
        | exit id => exact this
        | goto l => exact this
        | ret => exact this
  exact fun ι act w H r hf => wpIn_loop_rounds _ (key n a h h0 ι act w H r hf _ fun _ _ _ p => p)

end
end Ev
end Go.Proofs.YtodemhmfnokomaaGreatDoor
namespace Go.Proofs.YtodemhmfnokomaaGreatDoor
namespace Ev
open Go

section
variable {E : Env} {base : Nat}

/-- of some slots nothing is known any more -/
theorem FRel.weak {ι : Inj} {a a2 : AF} {act : Act} (r : FRel ι a act) (hsz : a2.sz = a.sz) (hds : a2.ds = a.ds) (hg : ∀ t, a2.get t = .any ∨ a2.get t = a.get t) : FRel ι a2 act :=
  ⟨by rw [hsz]; exact r.sz, by rw [hsz]; exact r.le, fun t => by
    rcases hg t with h | h
    · rw [h]; simp only [VRel]
    · rw [h]; exact r.get t, by rw [hds]; exact r.ds⟩

theorem Rns.weak {c : Code} {a a2 : AF} {h : Heap} {K : AX → AF → Heap → Prop} (hr : Rns E base c a2 h K) (hsz : a2.sz = a.sz) (hds : a2.ds = a.ds) (hg : ∀ t, a2.get t = .any ∨ a2.get t = a.get t) : Rns E base c a h K :=
  fun ι act w H r hf => hr ι act w H (r.weak hsz hds hg) hf

theorem RnsO.weak {ops : Array Oper} {l : List Oper} {a a2 : AF} {h : Heap} {K : AF → Heap → Prop} (hr : RnsO E base ops l a2 h K) (hsz : a2.sz = a.sz) (hds : a2.ds = a.ds) (hg : ∀ t, a2.get t = .any ∨ a2.get t = a.get t) : RnsO E base ops l a h K :=
  fun i ι act w hl H r hf => hr i ι act w hl H (r.weak hsz hds hg) hf

/-- slots laid one by one: each is what the frame has -/
theorem slotsT_get (g : Nat → AV) : ∀ (l : List (Nat × AV)), (∀ p ∈ l, p.1 < 448 ∧ g p.1 = p.2) → ∀ t, tmpsGet (slotsT l) (pth t) = .any ∨ tmpsGet (slotsT l) (pth t) = g t
  | [], _, t => .inl (anyT_get t)
  | x :: r, hl, t => by
    show tmpsGet (tmpsSet (slotsT r) (pth x.1) x.2) (pth t) = _ ∨ tmpsGet (tmpsSet (slotsT r) (pth x.1) x.2) (pth t) = _
    obtain ⟨h1, h2⟩ := hl x (List.mem_cons_self ..)
    by_cases ht : t = x.1
    · subst ht; rw [tmpsGet_set_same]; exact .inr h2.symm
    · rw [tmpsGet_set_ne _ _ (pth_ne h1 ht)]
      exact slotsT_get g r (fun p hp => hl p (List.mem_cons_of_mem _ hp)) t

theorem Rns.slots {c : Code} {a : AF} {h : Heap} {K : AX → AF → Heap → Prop} (l : List (Nat × AV)) (hds : a.ds = []) (hl : ∀ p ∈ l, p.1 < 448 ∧ a.get p.1 = p.2) (hr : Rns E base c ⟨a.sz, slotsT l, []⟩ h K) : Rns E base c a h K :=
  hr.weak rfl hds.symm fun t => by rw [AF.get_eq]; exact slotsT_get a.get l hl t

theorem RnsO.slots {ops : Array Oper} {l : List Oper} {a : AF} {h : Heap} {K : AF → Heap → Prop} (s : List (Nat × AV)) (hds : a.ds = []) (hl : ∀ p ∈ s, p.1 < 448 ∧ a.get p.1 = p.2) (hr : RnsO E base ops l ⟨a.sz, slotsT s, []⟩ h K) : RnsO E base ops l a h K :=
  hr.weak rfl hds.symm fun t => by rw [AF.get_eq]; exact slotsT_get a.get s hl t

/-- pieces in a row -/
def seqC : List Code → Code
  | [] => .skip
  | [c] => c
  | c :: d :: l => .seq c (seqC (d :: l))
def seqs : List Code → Code → Code
  | [], d => d
  | c :: l, d => .seq c (seqs l d)

theorem Rns.chain {callF : CallY} (hC : CallsOk E base callF) (hmC : MonoC callF) {d : Code} {K : AX → AF → Heap → Prop} : ∀ (l : List Code), l ≠ [] → (∀ c ∈ l, DrawsOk E base callF c) → ∀ {a : AF} {h : Heap} {a' : AF} {h' : Heap},
    evalC E callF noY false (seqC l) a h = .done .normal a' h' → Rns E base d a' h' K → Rns E base (seqs l d) a h K
  | [], hn, _, _, _, _, _, _, _ => absurd rfl hn
  | [c], _, hD, a, h, a', h', he, hr => Rns.seq (K1 := fun x a1 h1 => x = .normal ∧ a1 = a' ∧ h1 = h') (Rns.ev hC hmC (hD c (List.mem_cons_self ..)) he ⟨rfl, rfl, rfl⟩) (fun a1 h1 ⟨_, e1, e2⟩ => by subst e1; subst e2; exact hr) fun x a1 h1 hx ⟨e, _⟩ => absurd e hx
  | c :: d' :: l, _, hD, a, h, a', h', he, hr => by
    simp only [seqC, evalC] at he
    cases h1 : evalC E callF noY false c a h with
    | fail => rw [h1] at he; cases he
    | done x a1 h1' =>
      rw [h1] at he
      have hx : x = .normal := by
        cases x with
        | normal => rfl
        | exit id => cases he
        | goto id => cases he
        | ret => cases he
      subst hx
      exact Rns.seq (K1 := fun x a2 h2 => x = .normal ∧ a2 = a1 ∧ h2 = h1') (Rns.ev hC hmC (hD c (List.mem_cons_self ..)) h1 ⟨rfl, rfl, rfl⟩)
        (fun a2 h2 ⟨_, e1, e2⟩ => by subst e1; subst e2; exact Rns.chain hC hmC (d' :: l) (by simp) (fun c hc => hD c (List.mem_cons_of_mem _ hc)) he hr) fun x a2 h2 hx ⟨e, _⟩ => absurd e hx

/-- operations whose guards are none look at no other operation -/
theorem evalOps_any {callF : CallY} {Y : YF} {inR : Bool} {ops ops' : Array Oper} : ∀ (l : List Oper), (∀ o ∈ l, o.guard = none) → ∀ (a : AF) (h : Heap), evalOps E callF Y inR ops l a h = evalOps E callF Y inR ops' l a h
  | [], _, a, h => rfl
  | o :: r, hl, a, h => by
    have ho : o.guard = none := hl o (List.mem_cons_self ..)
    have hw : ∀ ops, wantA ops o a = .yes := fun ops => by unfold wantA; rw [ho]
    have ih := fun a h => evalOps_any (callF := callF) (Y := Y) (inR := inR) (ops := ops) (ops' := ops') r (fun o ho => hl o (List.mem_cons_of_mem _ ho)) a h
    simp only [evalOps, hw, ih]

/-- the first operations by the evaluator -/
theorem RnsO.pre {callF : CallY} (hC : CallsOk E base callF) {ops : Array Oper} {post : List Oper} {K : AF → Heap → Prop} : ∀ (pre : List Oper), (∀ o ∈ pre, o.guard = none ∧ isDefer o.op = false) → ∀ {a : AF} {h : Heap} {a' : AF} {h' : Heap},
    evalOps E callF noY false ops pre a h = .ok a' h' → RnsO E base ops post a' h' K → RnsO E base ops (pre ++ post) a h K
  | [], _, a, h, a', h', he, hr => by cases he; exact hr
  | o :: r, hl, a, h, a', h', he, hr => by
    obtain ⟨ho, hd⟩ := hl o (List.mem_cons_self ..)
    have hw : wantA ops o a = .yes := by unfold wantA; rw [ho]
    simp only [evalOps, hw, hd, cond_false] at he
    split at he
    · rename_i v h1 hop
      have : ∃ a1, (putK .fail a o.dst v fun a' => FRes.ok a' h1) = .ok a1 h1 ∧ evalOps E callF noY false ops r a1 h1 = .ok a' h' := by
        revert he
        cases o.dst with
        | none => intro he; exact ⟨a, rfl, he⟩
        | some t =>
          obtain ⟨sz, m, ds⟩ := a
          intro he
          simp only [putK] at he ⊢
          cases hb : Nat.ble (Nat.succ t) sz <;> rw [hb] at he <;> simp only [cond_true, cond_false, reduceCtorEq] at he ⊢
          rw [tmpsSetK_eq] at he ⊢
          exact ⟨_, rfl, he⟩
      obtain ⟨a1, h2, h3⟩ := this
      exact RnsO.one hC hw hop h2 (RnsO.pre hC r (fun o ho => hl o (List.mem_cons_of_mem _ ho)) h3 hr)
    · cases he

/-- a piece, quickly -/
noncomputable def runC (E : Env) (idle : IdleF) (S : Summ) (n sz : Nat) (c : Code) (m : Tmps) (h : Heap) : CRes :=
  (cCode E sz false c).f (callR E idle S n) noY m [] h fun m' ds' h' => .done .normal ⟨sz, m', ds'⟩ h'

theorem runC_eq (idle : IdleF) (S : Summ) (n sz : Nat) (c : Code) (m : Tmps) (h : Heap) : runC E idle S n sz c m h = evalC E (callN E idle S n) noY false c ⟨sz, m, []⟩ h := by
  unfold runC
  rw [callR_eq, cCode_eq]
  cases hr : evalC E (callN E idle S n) noY false c ⟨sz, m, []⟩ h with
  | fail => rfl
  | done x a' h' =>
    have hsz : a'.sz = sz := code_sz E c false _ h _ _ _ hr
    obtain ⟨sz', m', ds'⟩ := a'
    simp only at hsz
    subst hsz
    cases x <;> rfl

def isNorm : CRes → Bool
  | .done .normal ⟨_, _, []⟩ _ => true
  | _ => false
def frOf : CRes → Tmps
  | .done _ a _ => a.tmps
  | .fail => anyT
def hpOf : CRes → Heap
  | .done _ _ h => h
  | .fail => ⟨0, .nil⟩

theorem runC_norm {idle : IdleF} {S : Summ} {n sz : Nat} {c : Code} {m : Tmps} {h : Heap} (hn : isNorm (runC E idle S n sz c m h) = true) :
    evalC E (callN E idle S n) noY false c ⟨sz, m, []⟩ h = .done .normal ⟨sz, frOf (runC E idle S n sz c m h), []⟩ (hpOf (runC E idle S n sz c m h)) := by
  have hq := runC_eq (E := E) idle S n sz c m h
  generalize runC E idle S n sz c m h = r at *
  rw [← hq]
  unfold isNorm at hn
  split at hn
  · rename_i sz' m' h'
    have hsz := code_sz E c false _ h _ _ _ hq.symm
    simp only at hsz
    subst hsz
    rfl
  · cases hn

/-- the end of a body -/
theorem endA_ends {idle : IdleF} {fn : Func} {c : Code} {a : AF} {h : Heap} {callF : CallY} {v : AV} {h' : Heap} (he : endA E idle fn (evalC E callF noY false c a h) = .ok v h') (hds : ∀ x a' h', evalC E callF noY false c a h = .done x a' h' → a'.ds = []) :
    ∃ x a' h1, evalC E callF noY false c a h = .done x a' h1 ∧ (x = .normal ∨ x = .ret) ∧ a'.ds = [] ∧ ∃ l, resultsA E a' h1 fn.results.toList = some l ∧ v = oneTup l ∧ h' = h1 := by
  cases hr : evalC E callF noY false c a h with
  | fail => rw [hr] at he; cases he
  | done x a' h1 =>
    rw [hr] at he
    have hd := hds x a' h1 hr
    refine ⟨x, a', h1, rfl, ?_⟩
    cases x with
    | exit id => cases he
    | goto id => cases he
    | normal =>
      simp only [endA, hd, leaveA] at he
      split at he
      · rename_i l hl; cases he; exact ⟨.inl rfl, hd, l, hl, rfl, rfl⟩
      · cases he
    | ret =>
      simp only [endA, hd, leaveA] at he
      split at he
      · rename_i l hl; cases he; exact ⟨.inr rfl, hd, l, hl, rfl, rfl⟩
      · cases he

end
end Ev
end Go.Proofs.YtodemhmfnokomaaGreatDoor
namespace Go.Proofs.YtodemhmfnokomaaGreatDoor
namespace Ev
open Go

section
variable {E : Env} {base : Nat}

/-- the value of a body that has come to its end -/
def endV (E : Env) (rs : List ResultVar) : CRes → Option (AV × Heap)
  | .done x a h => (match x with
    | .exit _ => none
    | .goto _ => none
    | _ => (match a with
      | ⟨sz, m, ds⟩ => (match ds with
        | [] => (match resultsA E ⟨sz, m, []⟩ h rs with
          | some l => some (oneTup l, h)
          | none => none)
        | _ => none)))
  | .fail => none

def EndK (E : Env) (rs : List ResultVar) (V : AV → Heap → Prop) (x : AX) (a' : AF) (h' : Heap) : Prop := (x = .normal ∨ x = .ret) ∧ a'.ds = [] ∧ ∃ l, resultsA E a' h' rs = some l ∧ V (oneTup l) h'

theorem endV_some {rs : List ResultVar} {r : CRes} {v : AV} {h' : Heap} (he : endV E rs r = some (v, h')) : ∃ x a' h1, r = .done x a' h1 ∧ EndK E rs (fun v' h2 => v' = v ∧ h2 = h') x a' h1 := by
  unfold endV at he
  split at he
  · rename_i x a h1
    obtain ⟨sz, m, ds⟩ := a
    split at he
    · cases he
    · cases he
    · rename_i hx1 hx2
      split at he
      rename_i sz' m' ds' ha
      cases ha
      split at he
      · split at he
        · rename_i l hl
          cases he
          refine ⟨x, _, _, rfl, ?_, rfl, l, hl, rfl, rfl⟩
          cases x with
          | normal => exact .inl rfl
          | ret => exact .inr rfl
          | exit id => exact absurd rfl (hx1 id)
          | goto id => exact absurd rfl (hx2 id)
        · cases he
      · cases he
  · cases he

/-- the rest of a body -/
theorem Rns.endE {idle : IdleF} {S : Summ} {n : Nat} (hC : CallsOk E base (callN E idle S n)) (hmC : MonoC (callN E idle S n)) {c : Code} (hD : DrawsOk E base (callN E idle S n) c) {sz : Nat} {m : Tmps} {h : Heap} {rs : List ResultVar} {v : AV} {h' : Heap} {V : AV → Heap → Prop}
    (he : endV E rs (runC E idle S n sz c m h) = some (v, h')) (hV : V v h') : Rns E base c ⟨sz, m, []⟩ h (EndK E rs V) := by
  obtain ⟨x, a', h1, h2, h3, h4, l, h5, h6, h7⟩ := endV_some he
  rw [runC_eq] at h2
  exact Rns.ev hC hmC hD h2 ⟨h3, h4, l, h5, by rw [h6, h7]; exact hV⟩

/-- the value is true -/
def isT : Option (AV × Heap) → Bool
  | some (.bool true, _) => true
  | _ => false

theorem isT_inv {r : Option (AV × Heap)} (h : isT r = true) : ∃ h', r = some (.bool true, h') := by
  unfold isT at h
  split at h
  · exact ⟨_, rfl⟩
  · cases h

theorem putK_slots {β : Type} {fail : β} {sz : Nat} {l : List (Nat × AV)} {ds : List ADef} {t : Nat} {v : AV} {f : AF → β} (ht : t < sz) : putK fail ⟨sz, slotsT l, ds⟩ (some t) v f = f ⟨sz, slotsT ((t, v) :: l), ds⟩ := by
  simp only [putK]
  rw [show Nat.ble (Nat.succ t) sz = true from Nat.ble_eq_true_of_le ht]
  simp only [cond_true, tmpsSetK_eq]
  rfl

theorem slots_get (sz : Nat) (l : List (Nat × AV)) (ds : List ADef) (t : Nat) : AF.get ⟨sz, slotsT l, ds⟩ t = tmpsGet (slotsT l) (pth t) := rfl

theorem slots_ev (sz : Nat) (l : List (Nat × AV)) (ds : List ADef) (t : Nat) : AF.ev ⟨sz, slotsT l, ds⟩ (.tmp t) = tmpsGet (slotsT l) (pth t) := rfl

theorem slots_same {l : List (Nat × AV)} {t : Nat} {v : AV} : tmpsGet (slotsT ((t, v) :: l)) (pth t) = v := by
  show tmpsGet (tmpsSet (slotsT l) (pth t) v) (pth t) = v
  rw [tmpsGet_set_same]

theorem slots_skip {l : List (Nat × AV)} {s t : Nat} {v : AV} (hs : s < 448) (hne : t ≠ s) : tmpsGet (slotsT ((s, v) :: l)) (pth t) = tmpsGet (slotsT l) (pth t) := by
  show tmpsGet (tmpsSet (slotsT l) (pth s) v) (pth t) = _
  rw [tmpsGet_set_ne _ _ (pth_ne hs hne)]

/-- a byte as a whole number -/
theorem conv_u8 {P : Program} {s d : TypeId} {k : IntKind} (hs : P.underlying s = some (.int k)) (hd : P.underlying d = some (.int .i64)) {n : Nat} (hn : n ≤ 255) {k' : IntKind} {h : Heap} : doConvert P s d (.nat k' n) h = .ok (.nat .i64 n) h := by
  unfold doConvert
  simp only [hs, hd]
  rw [show Nat.ble n (kMax .i64) = true from Nat.ble_eq_true_of_le (by show n ≤ 9223372036854775807; omega)]
  rfl

theorem rem_nat {P : Program} {t : TypeId} {ox oy : Operand} {m n : Nat} : binA P .rem t ox oy (.nat .i64 m) (.nat .i64 (n + 1)) = .ok (.nat .i64 (m % (n + 1))) := by
  simp only [binA, kEq, cond_true, natArith]
  rw [show Nat.beq (n + 1) 0 = false from rfl]
  simp only [cond_false, okNat, forceN_eq]
  rfl

/-- a whole number of 64 bits -/
def zA (z : Int) : AV := match z with
  | .ofNat n => .nat .i64 n
  | .negSucc n => .neg .i64 n

theorem zA_rel (ι : Inj) (z : Int) : VRel ι (zA z) (.int .i64 z) := by
  cases z <;> simp only [zA, VRel] <;> rfl

theorem mkI_zA (z : Int) : mkI .i64 z = zA z := by
  cases z <;> simp [mkI, zA, forceN_eq]

theorem rem_z {P : Program} {t : TypeId} {ox oy : Operand} {z : Int} {n : Nat} : binA P .rem t ox oy (zA z) (.nat .i64 (n + 1)) = .ok (zA (z.tmod (n + 1))) := by
  cases z with
  | ofNat m =>
    show binA P .rem t ox oy (.nat .i64 m) (.nat .i64 (n + 1)) = _
    rw [rem_nat]
    rfl
  | negSucc m =>
    show binA P .rem t ox oy (.neg .i64 m) (.nat .i64 (n + 1)) = _
    simp only [binA, kEq, cond_true, slowArith]
    rw [show ((Int.ofNat (n + 1)) == 0) = false from by simp; omega]
    simp only [cond_false, mkI_zA]
    rfl

theorem op_bin {callF : CallY} {Y : YF} {op : BinOp} {t z : TypeId} {x y : Operand} {a : AF} {h : Heap} {u v r : AV} (hx : a.ev x = u) (hy : a.ev y = v) (hb : binA E.P op t x y u v = .ok r) : evalOp E callF Y (.binOp op t x y z) a h = .ok r h := by
  simp only [evalOp]; rw [hx, hy, hb]; rfl

theorem op_move {callF : CallY} {Y : YF} {x : Operand} {a : AF} {h : Heap} {u : AV} (hx : a.ev x = u) : evalOp E callF Y (.move x) a h = .ok u h := by
  simp only [evalOp]; rw [hx]

theorem op_assign {callF : CallY} {Y : YF} {x : Operand} {a : AF} {h : Heap} {u : AV} (hx : a.ev x = u) : evalOp E callF Y (.assign x) a h = .ok u h := by
  simp only [evalOp]; rw [hx]

/-! ### Parts of code -/

def cFst : Code → Code
  | .seq x _ => x
  | c => c
def cSnd : Code → Code
  | .seq _ y => y
  | c => c
def cOps : Code → Array Oper
  | .region _ ops _ => ops
  | _ => #[]
def fBody (f : Func) : Code := match f.body with
  | some c => c
  | none => .skip

/-- an operation read as an abstract one: its slot and what it does; no guard -/
def OpIs (o : Oper) (t : Nat) (op : Op) : Prop := o.dst = some t ∧ o.op = op ∧ o.guard = none

theorem OpIs.want {o : Oper} {t : Nat} {op : Op} (h : OpIs o t op) (ops : Array Oper) (a : AF) : wantA ops o a = .yes := by
  unfold wantA; rw [h.2.2]

/-- one operation by the evaluator, the slots known one by one -/
theorem RnsO.op {callF : CallY} (hC : CallsOk E base callF) {ops : Array Oper} {o : Oper} {t : Nat} {op : Op} (ho : OpIs o t op) {l : List Oper} {sz : Nat} {s : List (Nat × AV)} {h : Heap} {K : AF → Heap → Prop} {v : AV}
    (ht : t < sz) (he : evalOp E callF noY op ⟨sz, slotsT s, []⟩ h = .ok v h) (hr : RnsO E base ops l ⟨sz, slotsT ((t, v) :: s), []⟩ h K) : RnsO E base ops (o :: l) ⟨sz, slotsT s, []⟩ h K :=
  RnsO.one hC (ho.want _ _) (by rw [ho.2.1]; exact he) (by rw [ho.1, putK_slots ht]) hr

/-- the same, where memory turns -/
theorem RnsO.opH {callF : CallY} (hC : CallsOk E base callF) {ops : Array Oper} {o : Oper} {t : Nat} {op : Op} (ho : OpIs o t op) {l : List Oper} {sz : Nat} {s : List (Nat × AV)} {h h1 : Heap} {K : AF → Heap → Prop} {v : AV}
    (ht : t < sz) (he : evalOp E callF noY op ⟨sz, slotsT s, []⟩ h = .ok v h1) (hr : RnsO E base ops l ⟨sz, slotsT ((t, v) :: s), []⟩ h1 K) : RnsO E base ops (o :: l) ⟨sz, slotsT s, []⟩ h K :=
  RnsO.one hC (ho.want _ _) (by rw [ho.2.1]; exact he) (by rw [ho.1, putK_slots ht]) hr

/-- a call whose result is of a known kind -/
theorem RnsO.callS {ops : Array Oper} {o : Oper} {t : Nat} {c : Call} (ho : OpIs o t (.call c)) {l : List Oper} {sz : Nat} {s : List (Nat × AV)} {h : Heap} {K : AF → Heap → Prop} {V : AV → Heap → Prop} {g : FuncId}
    (ht : t < sz) (hcal : c.callee = .value (.func g)) (hg : FnRuns E base g (evL ⟨sz, slotsT s, []⟩ c.args.toList) h V)
    (hk : ∀ v h1, V v h1 → RnsO E base ops l ⟨sz, slotsT ((t, v) :: s), []⟩ h1 K) : RnsO E base ops (o :: l) ⟨sz, slotsT s, []⟩ h K :=
  RnsO.call (V := V) (x := .func g) (first := []) (captured := []) (ho.want _ _) ho.2.1 hcal rfl (by simpa using hg) fun v h1 hv => ⟨_, by rw [ho.1, putK_slots ht], hk v h1 hv⟩

/-- of some slots less is known -/
def Wk (a a2 : AF) : Prop := a2.sz = a.sz ∧ a2.ds = a.ds ∧ ∀ t, a2.get t = .any ∨ a2.get t = a.get t

theorem Wk.refl (a : AF) : Wk a a := ⟨rfl, rfl, fun _ => .inr rfl⟩

theorem Wk.slots {sz : Nat} {m : Tmps} (l : List (Nat × AV)) (hl : ∀ p ∈ l, p.1 < 448 ∧ tmpsGet m (pth p.1) = p.2) : Wk ⟨sz, m, []⟩ ⟨sz, slotsT l, []⟩ :=
  ⟨rfl, rfl, fun t => by rw [AF.get_eq, AF.get_eq]; exact slotsT_get (fun t => tmpsGet m (pth t)) l hl t⟩

theorem Wk.slot1 {sz : Nat} {m : Tmps} {t1 : Nat} {v1 : AV} (h1 : t1 < 448) (g1 : tmpsGet m (pth t1) = v1) : Wk ⟨sz, m, []⟩ ⟨sz, slotsT [(t1, v1)], []⟩ := Wk.slots _ fun p hp => by
  simp only [List.mem_cons, List.not_mem_nil, or_false] at hp
  subst hp; exact ⟨h1, g1⟩

theorem Wk.slot2 {sz : Nat} {m : Tmps} {t1 t2 : Nat} {v1 v2 : AV} (h1 : t1 < 448) (g1 : tmpsGet m (pth t1) = v1) (h2 : t2 < 448) (g2 : tmpsGet m (pth t2) = v2) : Wk ⟨sz, m, []⟩ ⟨sz, slotsT [(t1, v1), (t2, v2)], []⟩ := Wk.slots _ fun p hp => by
  simp only [List.mem_cons, List.not_mem_nil, or_false] at hp
  rcases hp with rfl | rfl
  · exact ⟨h1, g1⟩
  · exact ⟨h2, g2⟩

theorem Wk.slot3 {sz : Nat} {m : Tmps} {t1 t2 t3 : Nat} {v1 v2 v3 : AV} (h1 : t1 < 448) (g1 : tmpsGet m (pth t1) = v1) (h2 : t2 < 448) (g2 : tmpsGet m (pth t2) = v2) (h3 : t3 < 448) (g3 : tmpsGet m (pth t3) = v3) : Wk ⟨sz, m, []⟩ ⟨sz, slotsT [(t1, v1), (t2, v2), (t3, v3)], []⟩ := Wk.slots _ fun p hp => by
  simp only [List.mem_cons, List.not_mem_nil, or_false] at hp
  rcases hp with rfl | rfl | rfl
  · exact ⟨h1, g1⟩
  · exact ⟨h2, g2⟩
  · exact ⟨h3, g3⟩

theorem Wk.slot4 {sz : Nat} {m : Tmps} {t1 t2 t3 t4 : Nat} {v1 v2 v3 v4 : AV} (h1 : t1 < 448) (g1 : tmpsGet m (pth t1) = v1) (h2 : t2 < 448) (g2 : tmpsGet m (pth t2) = v2) (h3 : t3 < 448) (g3 : tmpsGet m (pth t3) = v3) (h4 : t4 < 448) (g4 : tmpsGet m (pth t4) = v4) : Wk ⟨sz, m, []⟩ ⟨sz, slotsT [(t1, v1), (t2, v2), (t3, v3), (t4, v4)], []⟩ := Wk.slots _ fun p hp => by
  simp only [List.mem_cons, List.not_mem_nil, or_false] at hp
  rcases hp with rfl | rfl | rfl | rfl
  · exact ⟨h1, g1⟩
  · exact ⟨h2, g2⟩
  · exact ⟨h3, g3⟩
  · exact ⟨h4, g4⟩

theorem RnsO.wk {ops : Array Oper} {l : List Oper} {a a2 : AF} {h : Heap} {K : AF → Heap → Prop} (hw : Wk a a2) (hr : RnsO E base ops l a2 h K) : RnsO E base ops l a h K := hr.weak hw.1 hw.2.1 hw.2.2

theorem Rns.wk {c : Code} {a a2 : AF} {h : Heap} {K : AX → AF → Heap → Prop} (hw : Wk a a2) (hr : Rns E base c a2 h K) : Rns E base c a h K := hr.weak hw.1 hw.2.1 hw.2.2

/-- a piece by hand ahead of pieces by the evaluator, otherwise bracketed -/
theorem Rns.inner {callF : CallY} (hC : CallsOk E base callF) (hmC : MonoC callF) {c d e : Code} (hDd : DrawsOk E base callF d) (hDe : DrawsOk E base callF e) {a : AF} {h : Heap} {K : AX → AF → Heap → Prop} {P : AF → Heap → Prop}
    (hc : Rns E base c a h fun x a1 h1 => x = .normal ∧ ∃ a2, Wk a1 a2 ∧ P a2 h1) (hp : ∀ a2 h2, P a2 h2 → ∃ x a3 h3, evalC E callF noY false (.seq d e) a2 h2 = .done x a3 h3 ∧ K x a3 h3) : Rns E base (.seq (.seq c d) e) a h K := by
  refine Rns.seq (K1 := fun x2 a3 h3 => ∃ a2 h2, P a2 h2 ∧ evalC E callF noY false d a2 h2 = .done x2 a3 h3) (Rns.seq hc (fun a3 h3 hk => ?_) fun x3 a3 h3 hx hk => absurd hk.1 hx) (fun a3 h3 hk => ?_) fun x3 a3 h3 hx hk => ?_
  · obtain ⟨_, a2, hw, hP⟩ := hk
    refine Rns.wk hw ?_
    obtain ⟨x, a4, h4, he, _⟩ := hp a2 h3 hP
    simp only [evalC] at he
    cases hd : evalC E callF noY false d a2 h3 with
    | fail => rw [hd] at he; cases he
    | done x1 a1 h1 => exact Rns.ev hC hmC hDd hd ⟨a2, h3, hP, hd⟩
  · obtain ⟨a2, h2, hP, hd⟩ := hk
    obtain ⟨x, a4, h4, he, hk⟩ := hp a2 h2 hP
    simp only [evalC, hd] at he
    exact Rns.ev hC hmC hDe he hk
  · obtain ⟨a2, h2, hP, hd⟩ := hk
    obtain ⟨x, a4, h4, he, hk⟩ := hp a2 h2 hP
    simp only [evalC, hd] at he
    cases x3 with
    | normal => exact absurd rfl hx
    | exit id => cases he; exact hk
    | goto id => cases he; exact hk
    | ret => cases he; exact hk

theorem runC_end {idle : IdleF} {S : Summ} {n : Nat} {c : Code} {sz : Nat} {m : Tmps} {h : Heap} {rs : List ResultVar} {v : AV} {h' : Heap} {V : AV → Heap → Prop}
    (he : endV E rs (runC E idle S n sz c m h) = some (v, h')) (hV : V v h') : ∃ x a3 h3, evalC E (callN E idle S n) noY false c ⟨sz, m, []⟩ h = .done x a3 h3 ∧ EndK E rs V x a3 h3 := by
  obtain ⟨x, a', h1, h3, h4, h5, l, h6, h7, h8⟩ := endV_some he
  rw [runC_eq] at h3
  exact ⟨x, a', h1, h3, h4, h5, l, h6, by rw [h7, h8]; exact hV⟩

end
end Ev
end Go.Proofs.YtodemhmfnokomaaGreatDoor
namespace Go.Proofs.YtodemhmfnokomaaGreatDoor
namespace Ev
open Go

section
variable {E : Env} {base : Nat} {ι : Inj} {h : Heap} {w : World}

def globH (h : Heap) (T : TypeId) (cs : List AV) : Heap := ⟨h.next + 1, h.tr.set h.next (some (.cells T cs.length (litTr cs) true false))⟩

theorem Stp.glob (H : HRel E base ι h w) (hf : ι h.next = none) {n : Nat} {cs : List AV} (hg : E.glob n = some cs) :
    ∃ T, Stp E base ι h w (ι.upd h.next ⟨n, 0, cs.length, none⟩) (globH h T cs) w := by
  obtain ⟨hn, C, T, fr, hC, hv⟩ := H.glob n cs hg
  refine ⟨T, ?_⟩
  have hle : ι.le (ι.upd h.next ⟨n, 0, cs.length, none⟩) := Inj.le_upd ι _ hf
  have hlen := hv.length
  rw [Array.length_toList] at hlen
  refine ⟨Nat.le_succ _, fun b hb => Inj.upd_ne _ _ (by simp only [globH] at hb; omega), ⟨?_, ?_, ?_, ?_, ?_, ?_⟩, rfl, rfl, rfl, Nat.le_refl _, fun k _ _ => rfl, ?_⟩
  · intro b B0 hb
    simp only [globH] at hb ⊢
    rw [Tr.get_set] at hb
    split at hb
    · omega
    · have := H.keys b B0 hb; omega
  · intro b B0 hb
    simp only [globH] at hb
    rw [Tr.get_set] at hb
    split at hb
    · rename_i e; subst e; cases hb
      refine ⟨_, Inj.upd_same _ _ _, C, fr, hC, hlen, by simp, fun i v hi hx => ?_, fun e => (by cases e), fun e => (by cases e)⟩
      rw [litTr_get] at hx
      obtain ⟨u, h1, h2⟩ := hv.get i v hx
      exact ⟨u, by simpa using h1, h2.mono hle⟩
    · rename_i e
      obtain ⟨g0, hg0, r⟩ := H.blk b B0 hb
      exact ⟨g0, by rw [Inj.upd_ne _ _ e]; exact hg0, r.mono hle⟩
  · intro b b' B0 B1 g0 g1 hb hb' hg0 hg1 hne hown
    simp only [globH] at hb hb'
    rw [Tr.get_set] at hb hb'
    split at hb
    · rename_i e; subst e; cases hb
      rw [if_neg (Ne.symm hne)] at hb'
      rw [Inj.upd_same] at hg0; cases hg0
      rw [Inj.upd_ne _ _ (Ne.symm hne)] at hg1
      rcases hown with ho | ho
      · cases ho
      · obtain ⟨g2, hg2, r⟩ := H.blk b' B1 hb'
        rw [hg1] at hg2; cases hg2
        have := r.base_le ho
        simp only; omega
    · rename_i e
      rw [Inj.upd_ne _ _ e] at hg0
      split at hb'
      · rename_i e'; subst e'; cases hb'
        rw [Inj.upd_same] at hg1; cases hg1
        rcases hown with ho | ho
        · obtain ⟨g2, hg2, r⟩ := H.blk b B0 hb
          rw [hg0] at hg2; cases hg2
          have := r.base_le ho
          simp only; omega
        · cases ho
      · rename_i e'
        rw [Inj.upd_ne _ _ e'] at hg1
        exact H.sep b b' B0 B1 g0 g1 hb hb' hg0 hg1 hne hown
  · intro m ds hm
    obtain ⟨h1, C', T', fr', h2, h3⟩ := H.glob m ds hm
    exact ⟨h1, C', T', fr', h2, h3.mono hle⟩
  · intro b B0 g0 hb hno hg0
    simp only [globH] at hb
    rw [Tr.get_set] at hb
    split at hb
    · rename_i e; subst e; rw [Inj.upd_same] at hg0; cases hg0; exact hn
    · rename_i e; rw [Inj.upd_ne _ _ e] at hg0; exact H.low b B0 g0 hb hno hg0
  · exact H.base
  · rintro k ⟨b, B0, g0, hb, hown, hg0, rfl⟩
    simp only [globH] at hb
    rw [Tr.get_set] at hb
    split at hb
    · cases hb; cases hown
    · rename_i e; rw [Inj.upd_ne _ _ e] at hg0; exact .inr ⟨b, B0, g0, hb, hown, hg0, rfl⟩

/-- a slice of a global array -/
theorem RnsO.globSlice {ops : Array Oper} {o : Oper} {t : Nat} {ty : TypeId} {n : Nat} (ho : OpIs o t (.slice ty (.global n) none none none)) {cs : List AV} (hg : E.glob n = some cs) {l : List Oper} {sz : Nat} {s : List (Nat × AV)} {K : AF → Heap → Prop} {v : AV}
    (ht : t < sz) (hd : ∀ T, doSlice E.P ty (.ptr h.next 0) none none none (globH h T cs) = .ok v (globH h T cs))
    (hr : ∀ T, RnsO E base ops l ⟨sz, slotsT ((t, v) :: s), []⟩ (globH h T cs) K) : RnsO E base ops (o :: l) ⟨sz, slotsT s, []⟩ h K :=
  RnsO.step (V := fun v' h' => v' = v ∧ ∃ T, h' = globH h T cs) (ho.want _ _) (fun ι act w H r hf next Q hn => by
    obtain ⟨T, s⟩ := Stp.glob H (hf _ (Nat.le_refl _)) hg
    have hx : VRel (ι.upd h.next ⟨n, 0, cs.length, none⟩) (.ptr h.next 0) (act.eval (.global n)) := by
      simp only [VRel]
      exact ⟨_, Inj.upd_same _ _ _, rfl⟩
    obtain ⟨_, v', h2, h3⟩ := doSlice_ok s.rel (hd T) hx (lo' := none) (hi' := none) (mx' := none) rfl rfl rfl
    refine OpRes.wp (v := v) (h' := globH h T cs) ⟨_, w, s, .inl ⟨v', h2, ?_⟩⟩ (fun c e => by rw [ho.2.1] at e; cases e) (hn v _ ⟨rfl, T, rfl⟩)
    simp only [execOp, ho.2.1]
    simp [h3]) fun v' h' ⟨e1, T, e2⟩ => by subst e1; subst e2; exact ⟨_, by rw [ho.1, putK_slots ht], hr T⟩

/-- a fact, out of the logic of runs -/
theorem factOk_runs {F : Fc} (hin : (F.lin.all fun L => Nat.ble (Nat.succ L.b) F.n0) = true) (hout : (F.lout.all fun L => Nat.ble F.n0 L.b && Nat.ble (Nat.succ L.b) F.n1) = true)
    (hr : ∀ base, FnRuns E base F.f F.args (heapOf F) fun v h1 => chkFact F (.ok v h1) = true) : FactOk E F := by
  simp only [List.all_eq_true, Bool.and_eq_true] at hin hout
  refine ⟨fun L hL => nble_iff (hin L hL), fun L hL => ⟨nble_iff (hout L hL).1, nble_iff (hout L hL).2⟩, fun w ι0 args' H hf hargs => ?_⟩
  refine (hr w.heap.size ι0 w args' H (fun b hb => hf b hb) hargs).mono ?_
  rintro e w' ⟨v, h1, hc, ι1, v', rfl, h2, h3⟩
  simp only [chkFact, Bool.and_eq_true, List.all_eq_true] at hc
  obtain ⟨⟨hv, ho⟩, _⟩ := hc
  refine ⟨ι1, h1, v', rfl, by rw [← same_eq _ _ hv]; exact h2, h3, fun L hL => ?_⟩
  have := (ho L hL).2
  split at this
  · rename_i ty sz t ex hb
    simp only [Bool.and_eq_true] at this
    obtain ⟨⟨k1, k2⟩, k3⟩ := this
    refine ⟨t, ex, by rw [hb, nbeq_iff k1, nbeq_iff k2], fun i x hx => ?_⟩
    have := cellsSame_get t L.cells 0 k3 i x hx
    rwa [Nat.zero_add] at this
  · cases this

end
end Ev
end Go.Proofs.YtodemhmfnokomaaGreatDoor
