/- Frames, code and calls, second part. Conditions: none. -/
import Derived.Test.YtodemhmfnokomaaGreatDoorEvF
import Derived.RangeFuncRecord
namespace Go.Proofs.YtodemhmfnokomaaGreatDoor
namespace Ev
open Go

section
variable {E : Env} {base : Nat} {ι : Inj} {h : Heap} {w : World} {callF : CallY} {Y : YF} {ro : Option Nat}

theorem undefRel (ι : Inj) : VRel ι undefA undef := by
  simp only [undefA, VRel]; exact ⟨_, rfl, VRels.nil ι⟩

/-- what is asked behind an operation -/
def Behind (E : Env) (base : Nat) (ι : Inj) (h : Heap) (w : World) (v : AV) (h' : Heap) (K : Value → World → Prop) : Prop :=
  ∀ ι' v' w', Stp E base ι h w ι' h' w' → VRel ι' v v' → K v' w'

theorem OpRes.wp {o : Oper} {act : Act} {v : AV} {h' : Heap} {next : Act → World → Prop} {Q : Exit → Act → World → Prop} (hr : OpRes E base ι h w v h' (execOp act.eval o)) (hs : ∀ c, o.op ≠ .defer c)
    (hn : Behind E base ι h w v h' fun v' w' => next (act.put o.dst v') w') : o.wpIn (FW ro) 0 E.P act w next Q := by
  refine ⟨fun _ _ => trivial, ?_⟩
  rw [Oper.semAt_eq _ _ _ hs]
  obtain ⟨ι', w', h1, h2 | h2⟩ := hr
  · obtain ⟨v', h3, h4⟩ := h2
    rw [h4]
    exact hn _ _ _ h1 h3
  · obtain ⟨rfl, h4⟩ := h2
    rw [h4]
    exact hn _ _ _ h1 (undefRel _)

theorem callPost_wp {o : Oper} {act : Act} {v : AV} {h' : Heap} {next : Act → World → Prop} {Q : Exit → Act → World → Prop}
    (hn : Behind E base ι h w v h' fun v' w' => next (act.put o.dst v') w') : ∀ e w', CallPost E base ι h w v h' e w' → (match e, w' with
      | .returned v, w'' => next (act.put o.dst v) w''
      | .panicked chain, w'' => Q (.panic chain) act w''
      | .outgrown, _ => LetsOut Q) := by
  rintro e w' ⟨ι', v', rfl, h1, h2⟩
  exact hn _ _ _ h2 h1

theorem op_wp (hC : CallsOk E base callF) (hmY : MonoY Y) (hY : YOk E base ι Y) (H : HRel E base ι h w) {a : AF} {act : Act} (r : FRel ι a act) (o : Oper) {v : AV} {h' : Heap}
    (hd : evalOp E callF Y o.op a h = .ok v h') (hf : Free ι h.next h'.next) {next : Act → World → Prop} {Q : Exit → Act → World → Prop}
    (hn : Behind E base ι h w v h' fun v' w' => next (act.put o.dst v') w') : o.wpIn (FW ro) 0 E.P act w next Q := by
  have hs : ∀ c, o.op ≠ .defer c := fun c e => by rw [e] at hd; simp only [evalOp, reduceCtorEq] at hd
  by_cases hc : ∃ c, o.op = .call c
  · obtain ⟨c, hc⟩ := hc
    rw [hc] at hd
    simp only [evalOp, doCall] at hd
    have hexec : execOp act.eval o = (do let d ← resolve act.eval c o.type; invoke d.target d.args) := by simp only [execOp, hc]
    split at hd
    · rename_i f hcal
      refine ⟨fun _ _ => trivial, ?_⟩
      rw [Oper.semAt_eq _ _ _ hs, hexec]
      have hfr := r.ev f
      have hargs := r.evL c.args.toList
      unfold doCallV at hd
      split at hd
      · rename_i g first captured hv
        rw [hv] at hfr
        obtain ⟨f', xs, ys, e1, e2, h1, h2⟩ := hfr
        obtain rfl : f' = .func g := e2
        have hres : (do let d ← resolve act.eval c o.type; invoke d.target d.args : Sem Next).run E.P w = (callFunc g (xs ++ c.args.map act.eval ++ ys)).run E.P w := by
          simp [resolve, hcal, e1, Deferred.ofValue, invoke]
        have hrel : VRels ι (first ++ evL a c.args.toList ++ captured) (xs ++ c.args.map act.eval ++ ys).toList := by
          simp only [Array.toList_append, Array.toList_map]
          exact (h1.append hargs).append h2
        rw [hres]
        rcases hC ι Y hmY hY g _ h v h' _ w hd H hf hrel with ⟨_, v', w', k1, ι', v'', k2, k3, k4⟩ | ⟨k1, k2⟩
        · cases k2
          rw [k1]
          exact hn _ _ _ k4 k3
        · rw [k1]
          exact ⟨fun e => (by cases e), k2.mono (callPost_wp hn)⟩
      · rename_i l hv
        rw [hv] at hfr
        obtain ⟨f', xs, ys, e1, e2, h1, h2⟩ := hfr
        obtain ⟨g, hg, rfl⟩ := e2
        obtain rfl : xs = #[] := Array.toList_inj.1 (by simpa only [VRels] using h1)
        obtain ⟨g', hg', fn, tmps, assign, body, k1, k2⟩ := hY ι (Inj.le_refl ι) l _ h v h' (c.args.map act.eval) w hd H hf (by simpa using hargs)
        rw [hg] at hg'; cases hg'
        have hres : (do let d ← resolve act.eval c o.type; invoke d.target d.args : Sem Next).run E.P w = (Instr.yield g.cb (c.args.map act.eval)).run E.P w := by
          simp [resolve, hcal, e1, Deferred.ofValue, invoke]
        rw [hres, k1]
        exact ⟨fun e => (by cases e), k2.mono (callPost_wp hn)⟩
      · cases hd
    · rename_i b hcal
      have hb := doBuiltin_ok (ty := o.type) (consts := c.args.map fun | .const _ => true | _ => false) (args' := c.args.map act.eval) H hd hf (by simpa using r.evL c.args.toList)
      refine OpRes.wp (v := v) (h' := h') ?_ hs hn
      obtain ⟨ι', w', h1, h2⟩ := hb
      refine ⟨ι', w', h1, ?_⟩
      have hres : (execOp act.eval o).run E.P w = (builtin b c.argTypes o.type (c.args.map fun | .const _ => true | _ => false) (c.args.map act.eval)).run E.P w := by
        rw [hexec]; simp only [resolve, hcal]; rfl
      rw [hres]
      exact h2
    · cases hd
  · exact (evalOp_ok H r o (fun c e => hc ⟨c, e⟩) hd hf).wp hs hn

end
end Ev
end Go.Proofs.YtodemhmfnokomaaGreatDoor
namespace Go.Proofs.YtodemhmfnokomaaGreatDoor
namespace Ev
open Go

section
variable {E : Env} {base : Nat} {ι : Inj} {h : Heap} {w : World} {callF : CallY} {Y : YF} {ro : Option Nat}

theorem guardTmp_eq (ops : Array Oper) (j : Nat) : guardTmp ops j = (ops[j]?).bind (·.dst) := by
  unfold guardTmp
  rw [nthO_eq, Array.getElem?_toList]
  cases ops[j]? <;> rfl

theorem want_ok {ops : Array Oper} {o : Oper} {a : AF} {act : Act} (r : FRel ι a act) :
    (wantA ops o a = .yes → Region.wanted o (yielded ops act.tmps) = true) ∧ (wantA ops o a = .no → Region.wanted o (yielded ops act.tmps) = false) := by
  unfold wantA Region.wanted
  cases hg : o.guard with
  | none => simp
  | some jw =>
    obtain ⟨j, want⟩ := jw
    simp only
    rw [guardTmp_eq]
    unfold yielded
    cases ht : (ops[j]?).bind (·.dst) with
    | none => simp
    | some t =>
      have hr := r.get t
      simp only [Option.bind_some]
      have hget : act.tmps.getD t undef = (act.tmps[t]?).getD undef := Array.getD_eq_getD_getElem? ..
      rw [hget] at hr
      cases hv : a.get t with
      | bool b =>
        rw [hv] at hr
        have hb := hr.bool_inv
        cases hx : act.tmps[t]? with
        | none => rw [hx] at hb; cases hb
        | some u =>
          rw [hx] at hb
          simp only [Option.getD_some] at hb
          subst hb
          cases b <;> cases want <;> simp
      | tup vs =>
        rw [hv] at hr
        simp only [VRel] at hr
        obtain ⟨xs, e, _⟩ := hr
        cases hx : act.tmps[t]? with
        | none => simp
        | some u =>
          rw [hx] at e
          simp only [Option.getD_some] at e
          subst e
          simp
      | _ => simp

theorem drop_cons {α : Type} {l rest : List α} {i : Nat} {x : α} (h : l.drop i = x :: rest) : l[i]? = some x ∧ l.drop (i + 1) = rest := by
  constructor
  · have := congrArg (fun q => q[0]?) h
    simpa using this
  · have := congrArg List.tail h
    simpa using this

theorem ops_wp (hC : CallsOk E base callF) (hmC : MonoC callF) (hmY : MonoY Y) (inR : Bool) (hin : inR = false → ro = none) (ops : Array Oper) : ∀ (l : List Oper) (i : Nat) (a : AF) (h : Heap) (a' : AF) (h' : Heap) (ι : Inj) (act : Act) (w : World),
    ops.toList.drop i = l → evalOps E callF Y inR ops l a h = .ok a' h' → HRel E base ι h w → FRel ι a act → YOk E base ι Y → Free ι h.next h'.next → ∀ Q : Exit → Act → World → Prop,
    (∀ ι' act' w', Stp E base ι h w ι' h' w' → FRel ι' a' act' → Q .normal act' w') → wpOpsIn (FW ro) 0 E.P ops Q (List.range' i l.length) act w
  | [], i, a, h, a', h', ι, act, w, hl, he, H, r, hY, hf, Q, hQ => by
    simp only [evalOps, FRes.ok.injEq] at he
    obtain ⟨rfl, rfl⟩ := he
    exact hQ _ _ _ (Stp.refl H) r
  | o :: rest, i, a, h, a', h', ι, act, w, hl, he, H, r, hY, hf, Q, hQ => by
    obtain ⟨h1, h2⟩ := drop_cons hl
    have ho : ops[i]? = some o := by simpa using h1
    have ih := ops_wp hC hmC hmY inR hin ops rest (i + 1)
    obtain ⟨w1, w2⟩ := want_ok (ops := ops) (o := o) r
    simp only [List.length_cons, List.range'_succ, wpOpsIn, ho]
    simp only [evalOps] at he
    -- the rest, behind a value for the slot
    have put : ∀ (v : AV) (h1 : Heap), putK .fail a o.dst v (fun a' => evalOps E callF Y inR ops rest a' h1) = .ok a' h' → h1.next ≤ h'.next ∧
        (Free ι h.next h'.next → ∀ ι' v' w', Stp E base ι h w ι' h1 w' → VRel ι' v v' → wpOpsIn (FW ro) 0 E.P ops Q (List.range' (i + 1) rest.length) (act.put o.dst v') w') := by
      intro v h1 hp
      have hle : h1.next ≤ h'.next := putK_mono (fun a' => mono_ops E hmC hmY inR ops rest a' h1) _ _ hp
      refine ⟨hle, fun hfr ι' v' w' s hv => ?_⟩
      have hi : ι.le ι' := s.le (hfr.sub (Nat.le_refl _) hle)
      obtain ⟨a1, e1, r1, _⟩ := (r.mono hi).put hv (by simp) hp
      exact ih a1 h1 a' h' ι' _ w' h2 e1 s.rel r1 (hY.mono hi) (s.free hfr) Q fun ι2 act2 w3 s2 r2 => hQ _ _ _ (s.trans s2) r2
    split at he
    · rename_i hwant
      rw [if_pos (w1 hwant)]
      cases hdf : isDefer o.op <;> rw [hdf] at he <;> simp only [cond_true, cond_false] at he
      · split at he
        · rename_i v h1 hop
          obtain ⟨k1, k2⟩ := put v h1 he
          exact op_wp hC hmY hY H r o hop (hf.sub (Nat.le_refl _) k1) fun ι' v' w' s hv => k2 hf ι' v' w' s hv
        · cases he
      · cases inR with
        | true => simp only [cond_true, reduceCtorEq] at he
        | false =>
          simp only [cond_false] at he
          have hro := hin rfl
          subst hro
          refine ⟨fun _ _ => trivial, ?_⟩
          unfold deferA at he
          split at he
          · rename_i c hop
            split at he
            · rename_i x hcal
              split at he
              · rename_i g first captured hv
                obtain ⟨sz, m, ds⟩ := a
                simp only at he
                have hfr := r.ev x
                rw [hv] at hfr
                obtain ⟨f', xs, ys, e1, e2, q1, q2⟩ := hfr
                have hrun : (o.semAt (FW none).round act.eval).run E.P w = .ok (.defer { target := .fn f' ys, args := xs ++ c.args.map act.eval }) w := by
                  show (execOp act.eval o).run E.P w = _
                  simp only [execOp, hop]
                  simp [resolve, hcal, e1, Deferred.ofValue]
                rw [hrun]
                have r' : FRel ι ⟨sz, m, .call g captured (first ++ evL ⟨sz, m, ds⟩ c.args.toList) :: ds⟩ { act with defers := { target := .fn f' ys, args := xs ++ c.args.map act.eval } :: act.defers } :=
                  ⟨r.sz, r.le, r.get, _, _, rfl, ⟨f', ys, _, rfl, e2, q2, by
                    simp only [Array.toList_append, Array.toList_map]
                    exact q1.append (r.evL c.args.toList)⟩, r.ds⟩
                obtain ⟨a1, e3, r1, _⟩ := r'.put (d := o.dst) (undefRel ι) (by simp) he
                exact ih a1 h a' h' ι _ w h2 e3 H r1 hY hf Q hQ
              · cases he
            · cases he
          · cases he
    · rename_i hwant
      rw [if_neg (by rw [w2 hwant]; simp)]
      obtain ⟨k1, k2⟩ := put undefA h he
      exact ⟨fun _ _ => trivial, k2 hf ι undef w (Stp.refl H) (undefRel ι)⟩
    · cases he

end
end Ev
end Go.Proofs.YtodemhmfnokomaaGreatDoor
namespace Go.Proofs.YtodemhmfnokomaaGreatDoor
namespace Ev
open Go

def AX.toExit : AX → Exit
  | .normal => .normal
  | .exit id => .exit id
  | .goto l => .goto l
  | .ret => .ret

/-- how a piece of code ends -/
def CPost (E : Env) (base : Nat) (ι : Inj) (h : Heap) (w : World) (x : AX) (a' : AF) (h' : Heap) (e : Exit) (act' : Act) (w' : World) : Prop :=
  e = x.toExit ∧ ∃ ι', Stp E base ι h w ι' h' w' ∧ FRel ι' a' act'

/-- a piece of code does what the evaluator says -/
def CodeOk (E : Env) (base : Nat) (Y : YF) (ro : Option Nat) (c : Code) (body : AF → Heap → CRes) : Prop :=
  ∀ a h x a' h' ι act w, body a h = .done x a' h' → HRel E base ι h w → FRel ι a act → YOk E base ι Y → Free ι h.next h'.next →
    c.wpIn (FW ro) 0 E.P (CPost E base ι h w x a' h') act w

theorem roundsIn_le {F : Fence} {n : Nat} {P : Program} {c : Code} {Q : Exit → Act → World → Prop} : ∀ {m m' : Nat} {a : Act} {w : World}, m ≤ m' → Code.roundsIn F n P c Q m a w → Code.roundsIn F n P c Q m' a w
  | 0, _, _, _, _, h => h.elim
  | m + 1, 0, _, _, hl, _ => by omega
  | m + 1, m' + 1, a, w, hl, h => wpIn_mono h fun e a' w' he => by
      cases e <;> first | exact roundsIn_le (Nat.le_of_succ_le_succ hl) he | exact he

section
variable {E : Env} {base : Nat} {ι : Inj} {h : Heap} {w : World} {Y : YF} {ro : Option Nat} {c : Code} {body : AF → Heap → CRes}

theorem CPost.trans {ι' : Inj} {h1 h' : Heap} {w1 : World} (s : Stp E base ι h w ι' h1 w1) {x : AX} {a' : AF} {e : Exit} {act' : Act} {w' : World} (p : CPost E base ι' h1 w1 x a' h' e act' w') : CPost E base ι h w x a' h' e act' w' := by
  obtain ⟨e1, ι2, s2, r2⟩ := p
  exact ⟨e1, ι2, s.trans s2, r2⟩

theorem iter_wp (hb : CodeOk E base Y ro c body) (hm : ∀ a h, MonoR h.next (body a h)) : ∀ (k : Nat) (a : AF) (h : Heap) (ι : Inj) (act : Act) (w : World), HRel E base ι h w → FRel ι a act → YOk E base ι Y →
    (∀ a1 h1 M, iter body k a h = .more a1 h1 → h1.next ≤ M → Free ι h.next M → ∀ m (Q : Exit → Act → World → Prop),
      (∀ ι' act' w', Stp E base ι h w ι' h1 w' → FRel ι' a1 act' → YOk E base ι' Y → Free ι' h1.next M → Code.roundsIn (FW ro) 0 E.P c Q m act' w') → Code.roundsIn (FW ro) 0 E.P c Q (m + 2 ^ k) act w) ∧
    (∀ x a1 h1, iter body k a h = .stop (.done x a1 h1) → Free ι h.next h1.next → ∀ Q : Exit → Act → World → Prop, (∀ e act' w', CPost E base ι h w x a1 h1 e act' w' → Q e act' w') → Code.roundsIn (FW ro) 0 E.P c Q (2 ^ k) act w)
  | 0, a, h, ι, act, w, H, r, hY => by
    have hmono := hm a h
    constructor
    · intro a1 h1 M he hle hf m Q hQ
      simp only [iter, rnd] at he
      split at he
      · rename_i x a' h' hbody
        split at he
        · cases he
          have hf1 := hf.sub (Nat.le_refl _) hle
          refine wpIn_mono (hb _ _ _ _ _ _ _ _ hbody H r hY hf1) ?_
          rintro e act' w' ⟨rfl, ι', s, r'⟩
          exact hQ ι' act' w' s r' (hY.mono (s.le hf1)) (s.free hf)
        · cases he
      · cases he
    · intro x a1 h1 he hf Q hQ
      simp only [iter, rnd] at he
      split at he
      · rename_i x' a' h' hbody
        split at he
        · cases he
        · rename_i hx
          cases he
          refine wpIn_mono (hb _ _ _ _ _ _ _ _ hbody H r hY hf) ?_
          intro e act' w' hp
          have := hQ _ _ _ hp
          obtain ⟨rfl, _⟩ := hp
          cases x with
          | normal => exact absurd rfl hx
          | exit id => exact this
          | goto l => exact this
          | ret => exact this
      · cases he
  | k + 1, a, h, ι, act, w, H, r, hY => by
    obtain ⟨i1, i2⟩ := iter_wp hb hm k a h ι act w H r hY
    have hpow : 2 ^ (k + 1) = 2 ^ k + 2 ^ k := by rw [Nat.pow_succ]; omega
    constructor
    · intro a1 h1 M he hle hf m Q hQ
      simp only [iter] at he
      split at he
      · rename_i a' h' hfirst
        have hmono : h'.next ≤ h1.next := by have := mono_iter hm k a' h'; rw [he] at this; exact this
        rw [hpow, ← Nat.add_assoc]
        refine i1 a' h' M hfirst (Nat.le_trans hmono hle) hf _ Q fun ι' act' w' s r' hY' hf' => ?_
        exact (iter_wp hb hm k a' h' ι' act' w' s.rel r' hY').1 a1 h1 M he hle hf' m Q fun ι2 act2 w2 s2 r2 hY2 hf2 => hQ ι2 act2 w2 (s.trans s2) r2 hY2 hf2
      · cases he
    · intro x a1 h1 he hf Q hQ
      simp only [iter] at he
      split at he
      · rename_i a' h' hfirst
        have hmono : h'.next ≤ h1.next := by have := mono_iter hm k a' h'; rw [he] at this; exact this _ _ _ rfl
        rw [hpow]
        refine i1 a' h' h1.next hfirst hmono hf _ Q fun ι' act' w' s r' hY' hf' => ?_
        exact (iter_wp hb hm k a' h' ι' act' w' s.rel r' hY').2 x a1 h1 he hf' Q fun e act2 w2 hp => hQ _ _ _ (hp.trans s)
      · rename_i r0 hfirst
        cases he
        exact roundsIn_le (by rw [hpow]; exact Nat.le_add_left _ _) (i2 x a1 h1 hfirst hf Q hQ)

theorem loop_wp (hb : CodeOk E base Y ro c body) (hm : ∀ a h, MonoR h.next (body a h)) : CodeOk E base Y ro (.loop c) (evalLoop body) := by
  intro a h x a' h' ι act w he H r hY hf
  unfold evalLoop at he
  split at he
  · cases he
  · rename_i r0 hit
    subst he
    exact wpIn_loop_rounds _ ((iter_wp hb hm 20 a h ι act w H r hY).2 x a' h' hit hf _ fun _ _ _ hp => hp)

end
end Ev
end Go.Proofs.YtodemhmfnokomaaGreatDoor
namespace Go.Proofs.YtodemhmfnokomaaGreatDoor
namespace Ev
open Go

section
variable {E : Env} {base : Nat} {ι : Inj} {h : Heap} {w : World} {callF : CallY} {Y : YF}

theorem Stp.put (H : HRel E base ι h w) {b : Nat} {B B' : Blk} {g : Gh} {o' : Obj} (hb : h.tr.get b = some B) (hown : B.own = true) (hg : ι b = some g)
    (hB : BRel ι base g (some o') B') (hw : B'.own = true := by rfl) : Stp E base ι h w ι ⟨h.next, h.tr.set b (some B')⟩ (w.putObj g.cb o') :=
  Stp.turn H hb hown hg hB (fun _ hk => World.putObj_heap_other hk) (World.putObj_heap_same (H.cb_lt hb hg)) World.putObj_size rfl rfl rfl hw

theorem setParams_ok : ∀ (ps : List Tmp) (args : List AV) (args' : List Value) (sz : Nat) (m : Tmps) (tmps : Array Value) (f : Tmps → VRes) (v : AV) (h' : Heap),
    setParams ps args sz m f = .ok v h' → VRels ι args args' → FRel ι ⟨sz, m, []⟩ { tmps := tmps, defers := [] } →
    args'.length = ps.length ∧ ∃ m', f m' = .ok v h' ∧ FRel ι ⟨sz, m', []⟩ { tmps := (ps.zip args').foldl (fun tmps x => tmps.setIfInBounds x.1 x.2) tmps, defers := [] }
  | [], [], args', sz, m, tmps, f, v, h', h, hv, r => by
    simp only [VRels] at hv
    subst hv
    exact ⟨rfl, m, by simpa only [setParams] using h, by simpa using r⟩
  | t :: ps, x :: args, args', sz, m, tmps, f, v, h', h, hv, r => by
    simp only [VRels] at hv
    obtain ⟨y, q, rfl, h1, h2⟩ := hv
    obtain ⟨a', e, r', _⟩ := r.put (d := some t) h1 (fail := VRes.fail) (f := fun a' => setParams ps args a'.sz a'.tmps f) (res := .ok v h') (by simp) (by simpa only [setParams, putK] using h)
    obtain ⟨sz', m', ds'⟩ := a'
    have hds := r'.ds
    have hsz := r'.sz
    have hs0 := r.sz
    simp only [Act.put, Array.size_setIfInBounds] at hsz hs0
    obtain rfl : sz' = sz := by omega
    cases ds' with
    | cons d ds => obtain ⟨_, _, e, _⟩ := hds; cases e
    | nil =>
      obtain ⟨k1, m2, k2, k3⟩ := setParams_ok ps args q _ m' _ f v h' e h2 r'
      exact ⟨by simp [k1], m2, k2, by simpa using k3⟩
  | [], _ :: _, _, _, _, _, _, _, _, h, _, _ => by simp only [setParams, reduceCtorEq] at h
  | _ :: _, [], _, _, _, _, _, _, _, h, _, _ => by simp only [setParams, reduceCtorEq] at h

theorem isLp_inv {b : Nat} (e : isLp h b = true) : ∃ p s, h.tr.get b = some (.lp p s) := by
  unfold isLp at e
  split at e
  · rename_i p s hb; exact ⟨p, s, hb⟩
  · cases e

theorem beginLp_inv {b : Nat} {f : Heap → VRes} {v : AV} {h' : Heap} (e : beginLp h b f = .ok v h') : h.tr.get b = some (.lp none false) ∧ f ⟨h.next, h.tr.set b (some (.lp none true))⟩ = .ok v h' := by
  obtain ⟨next, tr⟩ := h
  simp only [beginLp] at e
  split at e
  · rename_i hb; rw [Tr.setK_eq] at e; exact ⟨hb, e⟩
  · cases e

theorem endLp_inv {b : Nat} {x : Option AX} {f : Heap → VRes} {v : AV} {h' : Heap} (e : endLp h b x f = .ok v h') : (∃ p, h.tr.get b = some (.lp p true)) ∧ f ⟨h.next, h.tr.set b (some (.lp x false))⟩ = .ok v h' := by
  obtain ⟨next, tr⟩ := h
  simp only [endLp] at e
  split at e
  · rename_i p hb; rw [Tr.setK_eq] at e; exact ⟨⟨p, hb⟩, e⟩
  · cases e

theorem HRel.lp_obj (H : HRel E base ι h w) {b : Nat} {p : Option AX} {s : Bool} {g : Gh} (hb : h.tr.get b = some (.lp p s)) (hg : ι b = some g) :
    base ≤ g.cb ∧ ∃ L : Loop, g.lp = some L ∧ w.heap[g.cb]? = some (.loop { L with state := if s then .busy else if p.isNone then .ready else .done, pending := p.map AX.code }) := H.rel_of hb hg

/-- the end of a round -/
theorem endRound_ok (H : HRel E base ι h w) {b : Nat} {p : Option AX} {g : Gh} (hb : h.tr.get b = some (.lp p true)) (hg : ι b = some g) (x : Option AX) :
    ∃ w', (Instr.endRound g.cb (x.map AX.code)).run E.P w = .ok (.bool x.isNone) w' ∧ Stp E base ι h w ι ⟨h.next, h.tr.set b (some (.lp x false))⟩ w' := by
  obtain ⟨h0, L, hL, ho⟩ := H.lp_obj hb hg
  refine ⟨_, ?_, Stp.put H hb rfl hg (o' := .loop { L with state := if x.isNone then .ready else .done, pending := x.map AX.code }) ⟨h0, L, hL, by simp⟩⟩
  rw [run_endRound _ ho]
  cases x <;> rfl

theorem round_ok {l sz : Nat} {m : Tmps} {ps : Array Tmp} {assign body : Code} (hY : YOk E base ι Y) {g : Gh} (hg : ι l = some g) (hg2 : ∃ L, g.lp = some L ∧ L.params = ps ∧ L.assign = assign ∧ L.body = body ∧ FRel ι ⟨sz, m, []⟩ { tmps := L.tmps, defers := [] })
    {fa fb : AF → Heap → CRes} (ha : ∀ l, CodeOk E base Y (some l) assign fa) (hb : ∀ l, CodeOk E base Y (some l) body fb) (mb : ∀ a h, MonoR h.next (fb a h))
    {ds : List ADef} {args : List AV} {v : AV} {h' : Heap} {args' : Array Value} (he : roundA fa fb l ps.toList ⟨sz, m, ds⟩ args h = .ok v h') (H : HRel E base ι h w) (hf : Free ι h.next h'.next) (hv : VRels ι args args'.toList) :
    ∃ f tmps assign body, (Instr.yield g.cb args').run E.P w = .ok (.round g.cb f tmps assign body) w ∧
      RoundIn (FW none) 0 E.P g.cb f tmps assign body w (CallPost E base ι h w v h') := by
  obtain ⟨L, hL, rfl, rfl, rfl, hr⟩ := hg2
  unfold roundA at he
  cases hlp : isLp h l <;> rw [hlp] at he <;> simp only [cond_true, cond_false, reduceCtorEq] at he
  obtain ⟨p, s, hbk⟩ := isLp_inv hlp
  obtain ⟨_, L', hL', ho⟩ := H.lp_obj hbk hg
  rw [hL] at hL'; cases hL'
  obtain ⟨hlen, m', he, hr'⟩ := setParams_ok _ _ _ _ _ _ _ _ _ he hv hr
  refine ⟨_, _, _, _, run_yield ho (by simpa using hlen), roundIn_of_wpIn trivial ?_⟩
  split at he
  · rename_i a1 h1 hassign
    obtain ⟨hb1, he⟩ := beginLp_inv he
    -- what is left of the round never lowers the heap
    have hm1 : h1.next ≤ h'.next := by
      have hmb := mb a1 ⟨h1.next, h1.tr.set l (some (.lp none true))⟩
      split at he
      · rename_i x a2 h2 hbody
        have h12 := hmb _ _ _ hbody
        cases hd : noDefers a2.ds <;> rw [hd] at he <;> simp only [cond_true, cond_false, reduceCtorEq] at he
        split at he <;> obtain ⟨_, he⟩ := endLp_inv he <;> cases he <;> exact h12
      · cases he
    have htm : (Array.zip L.params args').foldl (fun tmps x => tmps.setIfInBounds x.1 x.2) L.tmps = (L.params.toList.zip args'.toList).foldl (fun tmps x => tmps.setIfInBounds x.1 x.2) L.tmps := by
      rw [← Array.foldl_toList, Array.toList_zip]
    have hA := ha g.cb _ _ _ _ _ ι { tmps := (Array.zip L.params args').foldl (fun tmps x => tmps.setIfInBounds x.1 x.2) L.tmps, defers := [] } w hassign H (by rw [htm]; exact hr') hY (hf.sub (Nat.le_refl _) hm1)
    refine wpIn_mono hA ?_
    rintro e act1 w1 ⟨rfl, ι1, s1, r1⟩
    have hle1 := s1.le (hf.sub (Nat.le_refl _) hm1)
    have hg1 := hle1 _ _ hg
    obtain ⟨_, L1, hL1, ho1⟩ := s1.rel.lp_obj hb1 hg1
    rw [hL] at hL1; cases hL1
    have s2 := Stp.put s1.rel hb1 rfl hg1 (o' := .loop { L with state := .busy, pending := none }) (B' := .lp none true) ⟨(s1.rel.lp_obj hb1 hg1).1, L, hL, rfl⟩
    refine ⟨_, run_beginRound ho1 rfl, ?_⟩
    have hf1 : Free ι1 h1.next h'.next := s1.free hf
    split at he
    · rename_i x a2 h2 hbody
      have h12 : h1.next ≤ h2.next := mb a1 ⟨h1.next, h1.tr.set l (some (.lp none true))⟩ _ _ _ hbody
      have h2' : h2.next ≤ h'.next := by
        cases hd : noDefers a2.ds <;> rw [hd] at he <;> simp only [cond_true, cond_false, reduceCtorEq] at he
        split at he <;> obtain ⟨_, he⟩ := endLp_inv he <;> cases he <;> exact Nat.le_refl _
      refine wpIn_mono (hb g.cb _ _ _ _ _ ι1 act1 _ hbody s2.rel r1 (hY.mono hle1) (hf1.sub (Nat.le_refl _) h2')) ?_
      rintro e act2 w2 ⟨rfl, ι2, s3, r2⟩
      have hg2 := s3.le (hf1.sub (Nat.le_refl _) h2') _ _ hg1
      cases hd : noDefers a2.ds <;> rw [hd] at he <;> simp only [cond_true, cond_false, reduceCtorEq] at he
      have fin : ∀ (y : Option AX), endLp h2 l y (fun h3 => .ok (.bool y.isNone) h3) = .ok v h' → ∃ v' w', (Instr.endRound g.cb (y.map AX.code)).run E.P w2 = .ok v' w' ∧ CallPost E base ι h w v h' (.returned v') w' := by
        intro y hy
        obtain ⟨⟨p2, hb2⟩, hy⟩ := endLp_inv hy
        cases hy
        obtain ⟨w3, q1, q2⟩ := endRound_ok s3.rel hb2 hg2 y
        exact ⟨_, w3, q1, ι2, _, rfl, VRel.ofBool _ _, ((s1.trans s2).trans s3).trans q2⟩
      split at he
      · exact fin none he
      · rename_i hx
        have := fin (some x) he
        cases x with
        | normal => exact absurd rfl hx
        | exit id => exact this
        | goto t => exact this
        | ret => exact this
    · cases he
  · cases he

theorem range_wp (hC : CallsOk E base callF) (hmC : MonoC callF) (hmY : MonoY Y) (f : Operand) (ps : Array Tmp) {assign body : Code} {fa fb : AF → Heap → CRes}
    (ha : ∀ l, CodeOk E base Y (some l) assign fa) (hb : ∀ l, CodeOk E base Y (some l) body fb) (ma : ∀ a h, MonoR h.next (fa a h)) (mb : ∀ a h, MonoR h.next (fb a h)) :
    CodeOk E base Y none (.rangeFunc f ps assign body) (fun a h => evalRange E.P callF Y (a.ev f) ps.toList fa fb a h) := by
  intro a h x a' h' ι act w he H r hY hf
  simp only at he
  unfold evalRange at he
  split at he
  · rename_i _ _ _ g first captured sz m ds next tr hfn
    cases hbd : hasBody E.P g <;> rw [hbd] at he <;> simp only [cond_true, cond_false, reduceCtorEq] at he
    rw [Tr.setK_eq, Tr.setK_eq] at he
    split at he
    · rename_i v h3 hcall
      have hmY' : MonoY (fun l args h => bif Nat.beq l (Nat.succ next) then roundA fa fb (Nat.succ next) ps.toList ⟨sz, m, ds⟩ args h else Y l args h) := fun l args h => by
        cases hl : Nat.beq l (Nat.succ next) <;> simp only [hl, cond_true, cond_false]
        · exact hmY l args h
        · exact mono_round ma mb _ _ _ _ _
      have hmono : next + 2 ≤ h3.next := hmC _ g _ _ hmY' _ _ hcall
      have hend : h3.next = h'.next ∧ ∃ p, h3.tr.get (next + 1) = some (.lp p false) ∧ h' = ⟨h3.next, h3.tr.set (next + 1) none⟩ ∧ a' = ⟨sz, m, .mark next :: ds⟩ ∧ x = (match p with | none => .normal | some x => x) := by
        obtain ⟨n3, t3⟩ := h3
        simp only [endRange] at he
        split at he
        · rename_i p hp
          rw [Tr.setK_eq] at he
          cases p <;> simp only [CRes.done.injEq] at he <;> obtain ⟨rfl, rfl, rfl⟩ := he <;> exact ⟨rfl, _, hp, rfl, rfl, rfl⟩
        · cases he
      obtain ⟨hn3, p, hp, rfl, rfl, hx⟩ := hend
      simp only at hf
      refine wpIn_rangeFunc fun fn _ => ?_
      -- the block and the record
      let L : Loop := { state := .ready, pending := none, fn, tmps := act.tmps, params := ps, assign, body, defers := w.heap.size }
      let g1 : Gh := ⟨w.heap.size, 0, 0, none⟩
      let g2 : Gh := ⟨w.heap.size + 1, 0, 0, some L⟩
      have s1 : Stp E base ι ⟨next, tr⟩ w (ι.upd next g1) ⟨next + 1, tr.set next (some .dfr)⟩ (w.alloc (.deferred (some []))) :=
        Stp.new H .dfr (.deferred (some [])) g1 rfl (hf next (Nat.le_refl _) (by omega)) ⟨H.base, rfl⟩ rfl rfl rfl rfl
      have hfree1 := s1.free (m := h3.next) hf
      have s2 : Stp E base (ι.upd next g1) ⟨next + 1, tr.set next (some .dfr)⟩ (w.alloc (.deferred (some []))) ((ι.upd next g1).upd (next + 1) g2) ⟨next + 1 + 1, (tr.set next (some .dfr)).set (next + 1) (some (.lp none false))⟩ ((w.alloc (.deferred (some []))).alloc (.loop L)) :=
        Stp.new s1.rel (.lp none false) (.loop L) g2 (by simp [g2]) (hfree1 _ (Nat.le_refl _) (by simp only; omega)) ⟨Nat.le_succ_of_le H.base, L, rfl, rfl⟩ rfl rfl rfl rfl
      have s12 := s1.trans s2
      have hle12 := s12.le (hf.sub (Nat.le_refl _) hmono)
      have hfree2 := s12.free hf
      have hfv := r.ev f
      rw [hfn] at hfv
      obtain ⟨f', xs, ys, e1, e2, q1, q2⟩ := hfv
      obtain rfl : f' = .func g := e2
      have hyv : VRel ((ι.upd next g1).upd (next + 1) g2) (.fn (.yield (Nat.succ next)) [] []) (.func (.yield (w.heap.size + 1)) #[] #[]) :=
        ⟨_, _, _, rfl, ⟨g2, Inj.upd_same _ _ _, rfl⟩, VRels.nil _, VRels.nil _⟩
      have hargs : VRels ((ι.upd next g1).upd (next + 1) g2) (first ++ [.fn (.yield (Nat.succ next)) [] []] ++ captured) (xs ++ #[Value.func (.yield (w.heap.size + 1)) #[] #[]] ++ ys).toList := by
        simp only [Array.toList_append]
        exact ((VRels.mono hle12 _ _ q1).append (.cons hyv (VRels.nil _))).append (VRels.mono hle12 _ _ q2)
      have hY' : YOk E base ((ι.upd next g1).upd (next + 1) g2) (fun l args h => bif Nat.beq l (Nat.succ next) then roundA fa fb (Nat.succ next) ps.toList ⟨sz, m, ds⟩ args h else Y l args h) := by
        intro κ hκ l args h0 v0 h0' args' w0 e0 H0 hf0 hv0
        simp only at e0
        cases hl : Nat.beq l (Nat.succ next) <;> rw [hl] at e0 <;> simp only [cond_true, cond_false] at e0
        · exact hY.mono hle12 κ hκ l args h0 v0 h0' args' w0 e0 H0 hf0 hv0
        · obtain rfl := nbeq_iff hl
          exact ⟨g2, Inj.upd_same _ _ _, round_ok (hY.mono (Inj.le_trans hle12 hκ)) (hκ _ _ (Inj.upd_same _ _ _)) ⟨L, rfl, rfl, rfl, rfl,
            ⟨r.sz, r.le, fun t => VRel.mono (Inj.le_trans hle12 hκ) _ _ (r.get t), rfl⟩⟩ ha hb mb e0 H0 hf0 hv0⟩
      rcases hC _ _ hmY' hY' _ _ _ _ _ _ _ hcall s2.rel hfree2 hargs with ⟨k, _⟩ | ⟨k1, k2⟩
      · rw [hbd] at k; cases k
      · refine ⟨_, _, _, { target := .fn (.func g) ys, args := xs ++ #[.func (.yield (w.heap.size + 1)) #[] #[]] }, (w.alloc (.deferred (some []))).alloc (.loop L), _, _, _, run_enterLoop_outer fn act.tmps ps assign body, ?_, fun _ _ => trivial, ?_, fun e => (by cases e), k2.mono ?_⟩
        · have hk : ∀ c : Value, act.eval (.const c) = c := fun _ => rfl
          simp [resolve, e1, Deferred.ofValue, hk]
          rfl
        · show (invoke _ _).run _ _ = _
          simpa [invoke] using k1
        · rintro e w3 ⟨ι3, v', rfl, _, s3⟩
          have hg2 : ι3 (next + 1) = some g2 := s3.le hfree2 _ _ (Inj.upd_same _ _ _)
          have hg1 : ι3 next = some g1 := s3.le hfree2 _ _ (by rw [Inj.upd_ne _ _ (by omega)]; exact Inj.upd_same _ _ _)
          obtain ⟨_, L3, hL3, ho3⟩ := s3.rel.lp_obj hp hg2
          cases hL3
          have s4 := Stp.kill s3.rel hp rfl hg2 (.loop { L with state := .exhausted, pending := p.map AX.code })
          have sall := (s12.trans s3).trans s4
          have hle := Inj.le_trans hle12 (s3.le hfree2)
          have hpost : CPost E base ι ⟨next, tr⟩ w x ⟨sz, m, .mark next :: ds⟩ ⟨h3.next, h3.tr.set (next + 1) none⟩ x.toExit { act with defers := [{ target := .collected w.heap.size, args := #[] }] ++ act.defers } _ :=
            ⟨rfl, ι3, sall, r.sz, r.le, fun t => VRel.mono hle _ _ (r.get t), _, _, rfl, ⟨g1, hg1, rfl⟩, DRels.mono hle r.ds⟩
          refine ⟨p.map AX.code, _, run_endLoop ho3 (by cases p <;> simp), ?_⟩
          cases p with
          | none => subst hx; exact hpost
          | some y =>
            simp only at hx
            cases y with
            | normal => subst hx; exact wpIn_skip hpost
            | exit id => subst hx; exact wpIn_exit hpost
            | goto t => subst hx; exact wpIn_goto hpost
            | ret => subst hx; exact wpIn_ret hpost
    · cases he
  · cases he

end
end Ev
end Go.Proofs.YtodemhmfnokomaaGreatDoor
namespace Go.Proofs.YtodemhmfnokomaaGreatDoor
namespace Ev
open Go

/-- a region that draws its order does what evalDraw says -/
def DrawOk (E : Env) (base : Nat) (callF : CallY) (ops : Array Oper) : Prop :=
  ∀ Y, MonoY Y → ∀ ro id, CodeOk E base Y ro (.region id ops true) (fun a h => match evalDraw E callF Y ops (plan ops) a h [h] 0 with
    | .ok a' h' => .done .normal a' h'
    | .fail => .fail)

/-- so do all of a piece of code -/
def DrawsOk (E : Env) (base : Nat) (callF : CallY) : Code → Prop
  | .region _ ops draw => draw = true → DrawOk E base callF ops
  | .seq x y => DrawsOk E base callF x ∧ DrawsOk E base callF y
  | .cond _ x y => DrawsOk E base callF x ∧ DrawsOk E base callF y
  | .block _ x => DrawsOk E base callF x
  | .loop x => DrawsOk E base callF x
  | .scope x => DrawsOk E base callF x
  | .rangeFunc _ _ x y => DrawsOk E base callF x ∧ DrawsOk E base callF y
  | _ => True

section
variable {E : Env} {base : Nat} {callF : CallY}

theorem code_ok (hC : CallsOk E base callF) (hmC : MonoC callF) : ∀ (c : Code), DrawsOk E base callF c → ∀ Y, MonoY Y → ∀ (inR : Bool) (ro : Option Nat), (inR = false → ro = none) →
    CodeOk E base Y ro c (evalC E callF Y inR c) := by
  intro c
  induction c with
  | skip => intro _ Y hmY inR ro hin a h x a' h' ι act w he H r hY hf; simp only [evalC, CRes.done.injEq] at he; obtain ⟨rfl, rfl, rfl⟩ := he; exact wpIn_skip ⟨rfl, ι, Stp.refl H, r⟩
  | label l => intro _ Y hmY inR ro hin a h x a' h' ι act w he H r hY hf; simp only [evalC, CRes.done.injEq] at he; obtain ⟨rfl, rfl, rfl⟩ := he; exact wpIn_label ⟨rfl, ι, Stp.refl H, r⟩
  | ret => intro _ Y hmY inR ro hin a h x a' h' ι act w he H r hY hf; simp only [evalC, CRes.done.injEq] at he; obtain ⟨rfl, rfl, rfl⟩ := he; exact wpIn_ret ⟨rfl, ι, Stp.refl H, r⟩
  | exit id => intro _ Y hmY inR ro hin a h x a' h' ι act w he H r hY hf; simp only [evalC, CRes.done.injEq] at he; obtain ⟨rfl, rfl, rfl⟩ := he; exact wpIn_exit ⟨rfl, ι, Stp.refl H, r⟩
  | goto l => intro _ Y hmY inR ro hin a h x a' h' ι act w he; simp only [evalC, reduceCtorEq] at he
  | refuse s => intro _ Y hmY inR ro hin a h x a' h' ι act w he; simp only [evalC, reduceCtorEq] at he
  | region id ops draw =>
    intro hd Y hmY inR ro hin a h x a' h' ι act w he H r hY hf
    cases draw with
    | true => exact hd rfl Y hmY ro id a h x a' h' ι act w he H r hY hf
    | false =>
      simp only [evalC] at he
      split at he
      · rename_i a1 h1 hops
        simp only [CRes.done.injEq] at he
        obtain ⟨rfl, rfl, rfl⟩ := he
        refine wpIn_region ?_
        have := ops_wp hC hmC hmY inR hin ops ops.toList 0 a h _ _ ι act w rfl hops H r hY hf (CPost E base ι h w .normal a1 h1) fun ι' act' w' s r' => ⟨rfl, ι', s, r'⟩
        rw [Array.length_toList] at this
        rwa [List.range_eq_range']
      · cases he
  | seq x y ihx ihy =>
    intro hd Y hmY inR ro hin a h e a' h' ι act w he H r hY hf
    simp only [evalC] at he
    split at he
    · rename_i e1 a1 h1 hx
      have hle1 : h1.next ≤ h'.next := by
        split at he
        · exact mono_code E hmC hmY y inR _ _ _ _ _ he
        · cases he; exact Nat.le_refl _
      refine wpIn_seq (wpIn_mono (ihx hd.1 Y hmY inR ro hin _ _ _ _ _ _ _ _ hx H r hY (hf.sub (Nat.le_refl _) hle1)) ?_)
      rintro e2 act1 w1 hp
      split at he
      · obtain ⟨rfl, ι1, s1, r1⟩ := hp
        refine wpIn_mono (ihy hd.2 Y hmY inR ro hin _ _ _ _ _ ι1 act1 w1 he s1.rel r1 (hY.mono (s1.le (hf.sub (Nat.le_refl _) hle1))) (s1.free hf)) ?_
        exact fun _ _ _ p => p.trans s1
      · rename_i hne
        cases he
        have hp' := hp
        obtain ⟨rfl, _⟩ := hp
        cases e with
        | normal => exact absurd rfl hne
        | exit id => exact hp'
        | goto l => exact hp'
        | ret => exact hp'
    · cases he
  | cond c x y ihx ihy =>
    intro hd Y hmY inR ro hin a h e a' h' ι act w he H r hY hf
    simp only [evalC] at he
    split at he
    · rename_i b hb
      have hv := r.ev c
      rw [hb] at hv
      have hv := hv.bool_inv
      cases b
      · exact wpIn_cond hv (ihy hd.2 Y hmY inR ro hin _ _ _ _ _ _ _ _ he H r hY hf)
      · exact wpIn_cond hv (ihx hd.1 Y hmY inR ro hin _ _ _ _ _ _ _ _ he H r hY hf)
    · cases he
  | block id x ih =>
    intro hd Y hmY inR ro hin a h e a' h' ι act w he H r hY hf
    simp only [evalC] at he
    split at he
    · rename_i e1 a1 h1 hx
      have hn : a1 = a' ∧ h1 = h' := by
        split at he
        · rename_i id'
          cases hid : Nat.beq id' id <;> rw [hid] at he <;> simp only [cond_true, cond_false] at he <;> cases he <;> exact ⟨rfl, rfl⟩
        · cases he; exact ⟨rfl, rfl⟩
      obtain ⟨rfl, rfl⟩ := hn
      refine wpIn_block (wpIn_mono (ih hd Y hmY inR ro hin _ _ _ _ _ _ _ _ hx H r hY hf) ?_)
      rintro e2 act1 w1 ⟨rfl, ι1, s1, r1⟩
      cases e1 with
      | normal => simp only [CRes.done.injEq] at he; obtain ⟨rfl, _⟩ := he; exact ⟨rfl, ι1, s1, r1⟩
      | goto l => simp only [CRes.done.injEq] at he; obtain ⟨rfl, _⟩ := he; exact ⟨rfl, ι1, s1, r1⟩
      | ret => simp only [CRes.done.injEq] at he; obtain ⟨rfl, _⟩ := he; exact ⟨rfl, ι1, s1, r1⟩
      | exit id' =>
        simp only [AX.toExit, Exit.inBlock]
        simp only at he
        cases hid : Nat.beq id' id <;> rw [hid] at he <;> simp only [cond_true, cond_false, CRes.done.injEq] at he <;> obtain ⟨rfl, _⟩ := he
        · rw [if_neg (nbeq_ne hid)]; exact ⟨rfl, ι1, s1, r1⟩
        · rw [if_pos (nbeq_iff hid)]; exact ⟨rfl, ι1, s1, r1⟩
    · cases he
  | loop x ih =>
    intro hd Y hmY inR ro hin
    exact loop_wp (ih hd Y hmY inR ro hin) (mono_code E hmC hmY x inR)
  | scope x ih =>
    intro hd Y hmY inR ro hin a h e a' h' ι act w he H r hY hf
    simp only [evalC] at he
    split at he
    · rename_i e1 a1 h1 hx
      split at he
      · cases he
      · rename_i hne
        cases he
        refine wpIn_scope (wpIn_mono (ih hd Y hmY inR ro hin _ _ _ _ _ _ _ _ hx H r hY hf) ?_)
        intro e2 act1 w1 hp
        refine ⟨fun l hl => ?_, hp⟩
        obtain ⟨rfl, _⟩ := hp
        cases e with
        | goto l' => exact hne l' rfl
        | normal => cases hl
        | exit id => cases hl
        | ret => cases hl
    · cases he
  | rangeFunc f ps assign body iha ihb =>
    intro hd Y hmY inR ro hin
    cases inR with
    | true => intro a h e a' h' ι act w he; simp only [evalC, cond_true, reduceCtorEq] at he
    | false =>
      obtain rfl := hin rfl
      have := range_wp hC hmC hmY f ps (assign := assign) (body := body) (fun l => iha hd.1 Y hmY true (some l) (fun e => by cases e)) (fun l => ihb hd.2 Y hmY true (some l) (fun e => by cases e))
        (mono_code E hmC hmY assign true) (mono_code E hmC hmY body true)
      intro a h e a' h' ι act w he
      exact this a h e a' h' ι act w (by simpa only [evalC, cond_false] using he)

end
end Ev
end Go.Proofs.YtodemhmfnokomaaGreatDoor
namespace Go.Proofs.YtodemhmfnokomaaGreatDoor
namespace Ev
open Go

/-- entered as a deferred call on an ordinary return, the function changes nothing -/
def IdleOk (E : Env) (f : FuncId) : Prop := ∀ (args : Array Value) (w : World), (callFunc f args).run E.P w = .ok (.enter f args) w ∧
  CallsDIn (FW none) 0 E.P f args .returning w fun e u' w' => (∃ v, e = .returned v) ∧ u' = .returning ∧ w'.os = w.os ∧ w'.tape = w.tape ∧ w'.output = w.output ∧
    w.heap.size ≤ w'.heap.size ∧ ∀ k, k < w.heap.size → w'.heap[k]? = w.heap[k]?

section
variable {E : Env} {base : Nat} {ι : Inj} {h : Heap} {w w' : World}

/-- more memory, nothing else -/
theorem Stp.grow (H : HRel E base ι h w) (ho : w'.os = w.os) (ht : w'.tape = w.tape) (hu : w'.output = w.output) (hs : w.heap.size ≤ w'.heap.size)
    (hk : ∀ k, k < w.heap.size → w'.heap[k]? = w.heap[k]?) : Stp E base ι h w ι h w' := by
  refine ⟨Nat.le_refl _, fun _ _ => rfl, ⟨H.keys, fun b B hb => ?_, H.sep, fun n cs hn => ?_, H.low, Nat.le_trans H.base hs⟩, ho, ht, hu, hs, fun k hk' _ => hk k hk', fun _ o => .inr o⟩
  · obtain ⟨g, hg, r⟩ := H.blk b B hb
    exact ⟨g, hg, by rw [hk _ (H.cb_lt hb hg)]; exact r⟩
  · obtain ⟨h1, C, T, fr, h2, h3⟩ := H.glob n cs hn
    exact ⟨h1, C, T, fr, by rw [hk _ (Nat.lt_of_lt_of_le h1 H.base)]; exact h2, h3⟩

theorem leave_ok {idle : IdleF} (hI : ∀ f, idle f = true → IdleOk E f) {fn : Func} {tmps : Array Value} {R : Ending → World → Prop} {f : Heap → VRes} {v : AV} {h' : Heap} :
    ∀ (ds : List ADef) (ds' : List Deferred) (h : Heap) (w : World), leaveA idle ds h f = .ok v h' → HRel E base ι h w → DRels ι ds ds' →
    (∀ w2 h2, f h2 = .ok v h' → h2.next = h.next → Stp E base ι h w ι h2 w2 → ∃ v', (results fn tmps).run E.P w2 = .ok v' w2 ∧ R (.returned v') w2) →
    LeavesInM (FW none) 0 E.P fn tmps R ds' .returning w
  | [], ds', h, w, he, H, hd, hR => by
    simp only [DRels] at hd
    subst hd
    simp only [leaveA] at he
    exact hR w h he rfl (Stp.refl H)
  | d :: r, ds', h, w, he, H, hd, hR => by
    obtain ⟨d', ds', rfl, h1, h2⟩ := hd
    simp only [leaveA] at he
    split at he
    · rename_i g cap args
      cases hid : idle g <;> rw [hid] at he <;> simp only [cond_true, cond_false, reduceCtorEq] at he
      obtain ⟨f', cap', args', rfl, e2, _, _⟩ := h1
      obtain rfl : f' = .func g := e2
      obtain ⟨k1, k2⟩ := hI g hid (args' ++ cap') w
      refine ⟨by simp, .inr ⟨fun e => (by cases e), _, _, g, args' ++ cap', rfl, by simpa [invoke] using k1, fun _ _ => trivial, k2.mono ?_⟩⟩
      rintro e u' w2 ⟨⟨v2, rfl⟩, rfl, p1, p2, p3, p4, p5⟩
      have s := Stp.grow H p1 p2 p3 p4 p5
      exact leave_ok hI r ds' h w2 he s.rel h2 fun w3 h3 q1 q2 q3 => hR w3 h3 q1 q2 (s.trans q3)
    · rename_i b
      obtain ⟨next, tr⟩ := h
      simp only at he
      split at he
      · rename_i hb
        rw [Tr.setK_eq] at he
        obtain ⟨g, hg, rfl⟩ := h1
        have hk : base ≤ g.cb ∧ w.heap[g.cb]? = some (.deferred (some [])) := H.rel_of hb hg
        have s := Stp.kill H hb rfl hg (.deferred none)
        exact ⟨by simp, .inl ⟨_, _, rfl, run_takeDeferred hk.2, leave_ok hI r ds' _ _ he s.rel h2 fun w3 h3 q1 q2 q3 => hR w3 h3 q1 q2 (s.trans q3)⟩⟩
      · cases he
    · cases he

/-- one result -/
def resSem (tmps : Array Value) : ResultVar → Sem Value
  | .tmp t => pure (tmps.getD t undef)
  | .cell a t => do loadVar t (← asAddr (tmps.getD a undef))

theorem results_eq (fn : Func) (tmps : Array Value) : results fn tmps = (do let vs ← fn.results.mapM (resSem tmps); pure (if h : vs.size = 1 then vs[0] else .tuple vs)) := by
  unfold results
  rfl

theorem asAddr_of (u : Value) {t : TypeId} {v' : Value} (h : (Instr.loadAt t u).run E.P w = .ok v' w) : (do loadVar t (← asAddr u) : Sem Value).run E.P w = .ok v' w := by
  rw [← h]
  simp only [Instr.loadAt, Sem.run_bind] at h ⊢
  cases u with
  | pointer q => cases q <;> simp [asAddr, Instr.sureAddr] at h ⊢
  | _ => simp [Instr.sureAddr] at h

theorem resultOne_ok (H : HRel E base ι h w) {a : AF} {tmps : Array Value} (r : ∀ t, VRel ι (a.get t) (tmps.getD t undef)) {x : ResultVar} {v : AV} (he : resultOne E a h x = some v) :
    ∃ v', VRel ι v v' ∧ (resSem tmps x).run E.P w = .ok v' w := by
  cases x with
  | tmp t => simp only [resultOne, Option.some.injEq] at he; subst he; exact ⟨_, r t, by simp [resSem]⟩
  | cell p t =>
    simp only [resultOne] at he
    split at he
    · rename_i v1 h1 hd
      cases he
      obtain ⟨_, v', k1, k2⟩ := doLoad_ok H hd (r p)
      exact ⟨v', k1, asAddr_of _ k2⟩
    · cases he

theorem results_ok (H : HRel E base ι h w) {a : AF} {tmps : Array Value} (r : ∀ t, VRel ι (a.get t) (tmps.getD t undef)) : ∀ (rs : List ResultVar) (l : List AV), resultsA E a h rs = some l →
    ∃ vs : List Value, VRels ι l vs ∧ (rs.mapM (resSem tmps)).run E.P w = .ok vs w
  | [], l, he => by simp only [resultsA, Option.some.injEq] at he; subst he; exact ⟨[], VRels.nil ι, by simp⟩
  | x :: rs, l, he => by
    simp only [resultsA] at he
    split at he
    · rename_i v l' h1 h2
      cases he
      obtain ⟨v', k1, k2⟩ := resultOne_ok H r h1
      obtain ⟨vs, k3, k4⟩ := results_ok H r rs l' h2
      refine ⟨v' :: vs, .cons k1 k3, ?_⟩
      rw [List.mapM_cons]
      simp only [Sem.run_bind, Sem.run_pure, k2, k4, Result.andThen_ok]
    · cases he

theorem oneTup_ok (H : HRel E base ι h w) {a : AF} {fn : Func} {tmps : Array Value} (r : ∀ t, VRel ι (a.get t) (tmps.getD t undef)) {l : List AV} (he : resultsA E a h fn.results.toList = some l) :
    ∃ v', VRel ι (oneTup l) v' ∧ (results fn tmps).run E.P w = .ok v' w := by
  obtain ⟨vs, k1, k2⟩ := results_ok H r _ _ he
  have hm : (fn.results.mapM (resSem tmps)).run E.P w = .ok vs.toArray w := by
    rw [Array.mapM_eq_mapM_toList, map_eq_pure_bind]
    simp only [Sem.run_bind, k2, Result.andThen_ok, Sem.run_pure]
  refine ⟨_, ?_, by rw [results_eq]; simp only [Sem.run_bind, hm, Result.andThen_ok, Sem.run_pure]; rfl⟩
  split
  · rename_i h1
    match l, vs, k1, h1 with
    | [x], [y], k1, h1 => obtain ⟨_, e, k⟩ := k1.one; cases e; exact k
    | [], [y], k1, h1 => simp only [VRels] at k1; cases k1
    | x :: x' :: l, [y], k1, h1 => simp only [VRels] at k1; obtain ⟨_, _, e, _, _, _, e2, _⟩ := k1; cases e; cases e2
  · rename_i h1
    have hl := k1.length
    have : oneTup l = .tup l := by
      match l, hl with
      | [x], hl => simp at hl h1; omega
      | [], hl => rfl
      | _ :: _ :: _, hl => rfl
    rw [this]
    simp only [VRel]
    exact ⟨_, rfl, by simpa using k1⟩

theorem setArgs_ok : ∀ (l : List AV) (l' : List Value) (i n : Nat) (m : Tmps) (tmps : Array Value) (f : Tmps → VRes) (v : AV) (h' : Heap),
    setArgs l i m f = .ok v h' → VRels ι l l' → i + l.length ≤ n → FRel ι ⟨n, m, []⟩ { tmps := tmps, defers := [] } →
    ∃ m', f m' = .ok v h' ∧ FRel ι ⟨n, m', []⟩ { tmps := (l'.foldl (fun (p : Array Value × Nat) x => (p.1.setIfInBounds p.2 x, p.2 + 1)) (tmps, i)).1, defers := [] }
  | [], l', i, n, m, tmps, f, v, h', he, hl, hn, r => by
    simp only [VRels] at hl
    subst hl
    exact ⟨m, by simpa only [setArgs] using he, by simpa using r⟩
  | x :: l, l', i, n, m, tmps, f, v, h', he, hl, hn, r => by
    simp only [VRels] at hl
    obtain ⟨y, q, rfl, h1, h2⟩ := hl
    simp only [List.length_cons] at hn
    have hb : Nat.ble (Nat.succ i) n = true := Nat.ble_eq_true_of_le (by omega)
    obtain ⟨a', e, r', _⟩ := r.put (d := some i) h1 (fail := VRes.fail) (f := fun a' => setArgs l (i + 1) a'.tmps f) (res := .ok v h') (by simp) (by simpa only [setArgs, putK, hb, cond_true] using he)
    obtain ⟨sz', m', ds'⟩ := a'
    have hds := r'.ds
    have hsz := r'.sz
    have hs0 := r.sz
    simp only [Act.put, Array.size_setIfInBounds] at hsz hs0
    obtain rfl : sz' = n := by omega
    cases ds' with
    | cons d ds => obtain ⟨_, _, e, _⟩ := hds; cases e
    | nil =>
      obtain ⟨m2, k2, k3⟩ := setArgs_ok l q (i + 1) _ m' _ f v h' e h2 (by omega) r'
      exact ⟨m2, k2, by simpa using k3⟩

theorem slots_set : ∀ (l : List Value) (tmps : Array Value) (i t : Nat),
    (l.foldl (fun (p : Array Value × Nat) x => (p.1.setIfInBounds p.2 x, p.2 + 1)) (tmps, i)).1[t]? = if i ≤ t ∧ t < i + l.length ∧ t < tmps.size then l[t - i]? else tmps[t]?
  | [], tmps, i, t => by
    rw [if_neg (by simp only [List.length_nil]; omega)]
    rfl
  | y :: q, tmps, i, t => by
    rw [List.foldl_cons, slots_set q]
    simp only [Array.size_setIfInBounds, List.length_cons, Array.getElem?_setIfInBounds]
    by_cases ht : t = i
    · subst ht
      rw [if_neg (by omega), if_pos rfl]
      by_cases hs : t < tmps.size
      · rw [if_pos hs, if_pos ⟨Nat.le_refl _, by omega, hs⟩]; simp
      · rw [if_neg hs, if_neg (by omega)]
        exact (Array.getElem?_eq_none (by omega)).symm
    · by_cases hc : i + 1 ≤ t ∧ t < i + 1 + q.length ∧ t < tmps.size
      · rw [if_pos hc, if_pos (by omega), show t - i = (t - (i + 1)) + 1 by omega]; simp
      · rw [if_neg hc, if_neg (by omega), if_neg (by omega)]

theorem slots_args (args : Array Value) (n : Nat) (h : args.size ≤ n) :
    (args.toList.foldl (fun (p : Array Value × Nat) x => (p.1.setIfInBounds p.2 x, p.2 + 1)) (Array.replicate n undef, 0)).1 = args ++ Array.replicate (n - args.size) undef := by
  apply Array.ext_getElem?
  intro t
  rw [slots_set]
  simp only [Nat.zero_le, true_and, Array.length_toList, Nat.zero_add, Array.size_replicate, Nat.sub_zero, Array.getElem?_toList, Array.getElem?_append, Array.getElem?_replicate]
  by_cases ht : t < args.size
  · rw [if_pos ⟨ht, by omega⟩, if_pos ht]
  · rw [if_neg (by omega), if_neg ht]
    by_cases h2 : t < n
    · rw [if_pos h2, if_pos (by omega)]
    · rw [if_neg h2, if_neg (by omega)]

theorem undefT_get (t : Nat) : tmpsGet undefT (pth t) = undefA := by
  simp only [tmpsGet_eq, undefT, N8.get_all]

/-- the slots at a call's start -/
theorem first_frame {l : List AV} {args : Array Value} {n : Nat} {f : Tmps → VRes} {v : AV} {h' : Heap} (he : setArgs l 0 undefT f = .ok v h') (hl : VRels ι l args.toList) (hn : l.length ≤ n) (h448 : n ≤ 448) :
    ∃ m', f m' = .ok v h' ∧ FRel ι ⟨n, m', []⟩ { tmps := args ++ Array.replicate (n - args.size) undef, defers := [] } := by
  have hlen := hl.length
  rw [Array.length_toList] at hlen
  have r0 : FRel ι ⟨n, undefT, []⟩ { tmps := Array.replicate n undef, defers := [] } := by
    refine ⟨by simp, h448, fun t => ?_, rfl⟩
    rw [AF.get_eq, undefT_get]
    have : (Array.replicate n undef).getD t undef = undef := by
      rw [Array.getD_eq_getD_getElem?, Array.getElem?_replicate]
      split <;> rfl
    rw [this]
    exact undefRel ι
  obtain ⟨m', k1, k2⟩ := setArgs_ok l args.toList 0 n undefT _ f v h' he hl (by omega) r0
  rw [slots_args args n (by omega)] at k2
  exact ⟨m', k1, k2⟩

theorem body_ok {callF : CallY} {idle : IdleF} (hC : CallsOk E base callF) (hmC : MonoC callF) (hI : ∀ f, idle f = true → IdleOk E f) {f : FuncId} {fn : Func} {c : Code} (hf : E.P.funcs[f]? = some fn)
    (hb : fn.body = some c) (hname : fn.name ≠ "runtime.NumGoroutine") (hD : DrawsOk E base callF c) {Y : YF} (hmY : MonoY Y) (hY : YOk E base ι Y) {args : List AV} {args' : Array Value} {v : AV} {h' : Heap}
    (he : runBody E idle callF Y fn args h = .ok v h') (H : HRel E base ι h w) (hfr : Free ι h.next h'.next) (hv : VRels ι args args'.toList) : CallRes E f args' w (CallPost E base ι h w v h') := by
  have hlen := hv.length
  rw [Array.length_toList] at hlen
  refine .inr ⟨by simp [callFunc, hf, hname, hb], ?_⟩
  refine callsIn_of_wp_marks hf hb trivial ?_
  unfold runBody at he
  rw [hb] at he
  simp only at he
  cases hg : (Nat.ble fn.ntmps 448 && Nat.ble args.length fn.ntmps) <;> rw [hg] at he <;> simp only [cond_true, cond_false, reduceCtorEq] at he
  simp only [Bool.and_eq_true] at hg
  obtain ⟨m, he, r⟩ := first_frame he hv (nble_iff hg.2) (nble_iff hg.1)
  split at he
  · rename_i x a' h1 hcode
    have hret : x = .normal ∨ x = .ret := by
      cases x with
      | exit id => cases he
      | goto l => cases he
      | normal => exact .inl rfl
      | ret => exact .inr rfl
    have he' : leaveA idle a'.ds h1 (fun h2 => match resultsA E a' h2 fn.results.toList with | some l => .ok (oneTup l) h2 | none => .fail) = .ok v h' := by
      rcases hret with rfl | rfl <;> exact he
    have hle : h1.next ≤ h'.next := by
      refine mono_leave idle a'.ds h1 _ (fun h2 h3 => ?_) _ _ he'
      split
      · exact .ok h3
      · exact .fail _
    refine wpIn_mono (code_ok hC hmC c hD Y hmY false none (fun _ => rfl) _ _ _ _ _ ι _ w hcode H r hY (hfr.sub (Nat.le_refl _) hle)) ?_
    rintro e act1 w1 ⟨rfl, ι1, s1, r1⟩
    have main : LeavesInM (FW none) 0 E.P fn act1.tmps (CallPost E base ι h w v h') act1.defers .returning w1 := by
      refine leave_ok hI a'.ds act1.defers h1 w1 he' s1.rel r1.ds fun w2 h2 hres hn s2 => ?_
      split at hres
      · rename_i l hl
        cases hres
        obtain ⟨v', k1, k2⟩ := oneTup_ok s2.rel r1.get hl
        exact ⟨v', k2, ι1, v', rfl, k1, s1.trans s2⟩
      · cases hres
    rcases hret with rfl | rfl <;> exact main
  · cases he

/-- what summaries must say -/
def SummOk (E : Env) (base : Nat) (S : Summ) : Prop := ∀ f s, S f = some s → (∀ args h, Mono h.next (s args h)) ∧
  ∀ ι args h v h' (args' : Array Value) w, s args h = .ok v h' → HRel E base ι h w → Free ι h.next h'.next → VRels ι args args'.toList → CallRes E f args' w (CallPost E base ι h w v h')

/-- **The evaluator is right.** -/
theorem callN_ok {idle : IdleF} {S : Summ} (hI : ∀ f, idle f = true → IdleOk E f) (hS : SummOk E base S)
    (hnames : ∀ (f : FuncId) fn c, E.P.funcs[f]? = some fn → fn.body = some c → fn.name ≠ "runtime.NumGoroutine")
    (hdraw : ∀ callF, CallsOk E base callF → MonoC callF → ∀ (f : FuncId) fn c, S f = none → E.P.funcs[f]? = some fn → fn.body = some c → DrawsOk E base callF c) : ∀ n, CallsOk E base (callN E idle S n)
  | 0 => fun ι Y hmY hY f args h v h' args' w he => by simp only [callN, reduceCtorEq] at he
  | n + 1 => fun ι Y hmY hY f args h v h' args' w he H hf hv => by
    simp only [callN] at he
    split at he
    · rename_i s hs
      exact (hS f s hs).2 ι args h v h' args' w he H hf hv
    · rename_i hsn
      split at he
      · rename_i fn hfn
        have ih := callN_ok hI hS hnames hdraw n
        have hm := mono_callN E idle (fun f s e => (hS f s e).1) n
        cases hb : fn.body with
        | none => unfold runBody at he; rw [hb] at he; cases he
        | some c => exact body_ok ih hm hI hfn hb (hnames f fn c hfn hb) (hdraw _ ih hm f fn c hsn hfn hb) hmY hY he H hf hv
      · cases he

end
end Ev
end Go.Proofs.YtodemhmfnokomaaGreatDoor
