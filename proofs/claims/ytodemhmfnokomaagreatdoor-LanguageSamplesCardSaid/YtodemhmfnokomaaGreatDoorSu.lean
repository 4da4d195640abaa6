/- LanguageSamples: the sample at any number, the code in pieces, the walk. Conditions: what the runs of the six sample languages show. -/
import Derived.Test.YtodemhmfnokomaaGreatDoorFp
import Derived.Test.YtodemhmfnokomaaGreatDoorEvT
import Derived.KernelRfl
import Derived.Test.YtodemhmfnokomaaGreatDoorSdb
import Derived.Test.YtodemhmfnokomaaGreatDoorSda
import Derived.Test.YtodemhmfnokomaaGreatDoorSdc
namespace Go.Proofs.YtodemhmfnokomaaGreatDoor
namespace Ev
open Go Go.Proofs

noncomputable def smp0 : Code := cFst (fBody Tryz.f16)
noncomputable def smp1 : Code := cFst (cFst (cSnd (fBody Tryz.f16)))
noncomputable def smpB : Code := cSnd (cFst (cSnd (fBody Tryz.f16)))
noncomputable def smpT : Code := cSnd (cSnd (fBody Tryz.f16))
/-- memory behind the first region -/
noncomputable def smpH : Heap := hpOf (runC E0 idle0 L0 60 63 smp0 anyT ⟨0, .nil⟩)
/-- the sample language r -/
noncomputable def smp (r : Nat) : Option (AV × Heap) := endV E0 Tryz.f16.results.toList (runC E0 idle0 L0 60 63 (.seq smpB smpT) (slotsT [(7, .nat .i64 r), (2, .ptr 0 0)]) smpH)

theorem smp_code : fBody Tryz.f16 = .seq smp0 (.seq (.seq smp1 smpB) smpT) := by kernel_rfl
theorem smp_body : Tryz.f16.body = some (fBody Tryz.f16) := by kernel_rfl
theorem smp_name : Tryz.f16.name ≠ "runtime.NumGoroutine" := by simp [Tryz.f16]
theorem smp_0 : (smp 0).isSome = true := by kernel_rfl
theorem smp_1 : (smp 1).isSome = true := by kernel_rfl
theorem smp_2 : (smp 2).isSome = true := by kernel_rfl
theorem smp_3 : (smp 3).isSome = true := by kernel_rfl
theorem smp_4 : (smp 4).isSome = true := by kernel_rfl
theorem smp_5 : (smp 5).isSome = true := by kernel_rfl
theorem smp_d0 : codeOk smp0 = true := by kernel_rfl
theorem smp_dB : codeOk smpB = true := by kernel_rfl
theorem smp_dT : codeOk smpT = true := by kernel_rfl
theorem smp_r0 (z : AV) : isNorm (runC E0 idle0 L0 60 63 smp0 (slotsT [(0, z)]) ⟨0, .nil⟩) = true := by kernel_rfl
theorem smp_g0 (z : AV) : tmpsGet (frOf (runC E0 idle0 L0 60 63 smp0 (slotsT [(0, z)]) ⟨0, .nil⟩)) (pth 0) = z := by kernel_rfl
theorem smp_g2 (z : AV) : tmpsGet (frOf (runC E0 idle0 L0 60 63 smp0 (slotsT [(0, z)]) ⟨0, .nil⟩)) (pth 2) = .ptr 0 0 := by kernel_rfl
theorem smp_h (z : AV) : hpOf (runC E0 idle0 L0 60 63 smp0 (slotsT [(0, z)]) ⟨0, .nil⟩) = smpH := by kernel_rfl

theorem smp_ops : ∃ o1 o2 o3 o4, smp1 = .region 1 #[o1, o2, o3, o4] false ∧ OpIs o1 4 (.move (.tmp 0)) ∧ OpIs o2 5 (.binOp .rem 3 (.tmp 4) (.const (.int .i64 6)) 3) ∧ OpIs o3 6 (.binOp .add 3 (.tmp 5) (.const (.int .i64 6)) 3) ∧ OpIs o4 7 (.binOp .rem 3 (.tmp 6) (.const (.int .i64 6)) 3) := by
  refine ⟨_, _, _, _, rfl, ?_, ?_, ?_, ?_⟩
  all_goals exact ⟨rfl, rfl, rfl⟩

theorem smp_fin {r : Nat} (h : r < 6) : (smp r).isSome = true := by
  match r, h with
  | 0, _ => exact smp_0
  | 1, _ => exact smp_1
  | 2, _ => exact smp_2
  | 3, _ => exact smp_3
  | 4, _ => exact smp_4
  | 5, _ => exact smp_5

section
variable {base : Nat}

theorem cN (n : Nat) {S : Summ} (hS : ∀ base, SummOk E0 base S) (hb : ∀ f, bad0 f = true → S f ≠ none) : CallsOk E0 base (callN E0 idle0 S n) := calls_ok prog_ok (hS _) hb n
theorem mN (n : Nat) {S : Summ} (hS : ∀ base, SummOk E0 base S) : MonoC (callN E0 idle0 S n) := mono_callN E0 idle0 (S := S) (fun f s e => ((hS 0) f s e).1) n
theorem dN (n : Nat) {S : Summ} (hS : ∀ base, SummOk E0 base S) (hb : ∀ f, bad0 f = true → S f ≠ none) {c : Code} (hc : codeOk c = true) : DrawsOk E0 base (callN E0 idle0 S n) c := draws_ok prog_ok.mix (cN n hS hb) (mN n hS) c hc

/-- what lies behind the number's rest -/
theorem smp_rest {o3 o4 : Oper} {ops : Array Oper} (h3 : OpIs o3 6 (.binOp .add 3 (.tmp 5) (.const (.int .i64 6)) 3)) (h4 : OpIs o4 7 (.binOp .rem 3 (.tmp 6) (.const (.int .i64 6)) 3)) (q : Int) (hq : -6 < q) (hq' : q < 6) (z : Int) :
    RnsO E0 base ops [o3, o4] ⟨63, slotsT [(5, zA q), (4, zA z), (0, zA z), (2, .ptr 0 0)], []⟩ smpH fun a1 h1 => ∃ r, r < 6 ∧ Wk a1 ⟨63, slotsT [(7, .nat .i64 r), (2, .ptr 0 0)], []⟩ ∧ h1 = smpH := by
  have hC : CallsOk E0 base (callN E0 idle0 L0 60) := cN 60 L0_ok bad_L0
  have key : ∀ (s r : Nat), r < 6 → binA E0.P .add 3 (.tmp 5) (.const (.int .i64 6)) (zA q) (.nat .i64 6) = .ok (.nat .i64 s) → binA E0.P .rem 3 (.tmp 6) (.const (.int .i64 6)) (.nat .i64 s) (.nat .i64 6) = .ok (.nat .i64 r) →
      RnsO E0 base ops [o3, o4] ⟨63, slotsT [(5, zA q), (4, zA z), (0, zA z), (2, .ptr 0 0)], []⟩ smpH fun a1 h1 => ∃ r, r < 6 ∧ Wk a1 ⟨63, slotsT [(7, .nat .i64 r), (2, .ptr 0 0)], []⟩ ∧ h1 = smpH := by
    intro s r hr e1 e2
    refine RnsO.op hC h3 (by decide) (v := .nat .i64 s) ?_ (RnsO.op hC h4 (by decide) (v := .nat .i64 r) ?_ (RnsO.nil ⟨r, hr, Wk.slots _ ?_, rfl⟩))
    · exact op_bin (by kernel_rfl) (by kernel_rfl) e1
    · exact op_bin (by kernel_rfl) (by kernel_rfl) e2
    · intro p hp
      simp only [List.mem_cons, List.not_mem_nil, or_false] at hp
      rcases hp with rfl | rfl
      · exact ⟨by show 7 < 448; decide, by kernel_rfl⟩
      · exact ⟨by show 2 < 448; decide, by kernel_rfl⟩
  have : q = -5 ∨ q = -4 ∨ q = -3 ∨ q = -2 ∨ q = -1 ∨ q = 0 ∨ q = 1 ∨ q = 2 ∨ q = 3 ∨ q = 4 ∨ q = 5 := by omega
  rcases this with rfl | rfl | rfl | rfl | rfl | rfl | rfl | rfl | rfl | rfl | rfl
  · exact key 1 1 (by decide) rfl rfl
  · exact key 2 2 (by decide) rfl rfl
  · exact key 3 3 (by decide) rfl rfl
  · exact key 4 4 (by decide) rfl rfl
  · exact key 5 5 (by decide) rfl rfl
  · exact key 6 0 (by decide) rfl rfl
  · exact key 7 1 (by decide) rfl rfl
  · exact key 8 2 (by decide) rfl rfl
  · exact key 9 3 (by decide) rfl rfl
  · exact key 10 4 (by decide) rfl rfl
  · exact key 11 5 (by decide) rfl rfl

theorem sample_runs (z : Int) : FnRuns E0 base 16 [zA z] ⟨0, .nil⟩ fun v h1 => ∃ r, r < 6 ∧ smp r = some (v, h1) := by
  have hC : CallsOk E0 base (callN E0 idle0 L0 60) := cN 60 L0_ok bad_L0
  have hM := mN 60 L0_ok
  refine FnRuns.body (E := E0) (f := 16) (fn := Tryz.f16) (c := fBody Tryz.f16) Tryz.func16 smp_body smp_name (show 63 ≤ 448 by decide) (args := [zA z]) (show 1 ≤ 63 by decide) ?_
  show Rns E0 base (fBody Tryz.f16) ⟨63, argsT [zA z] 0 undefT, []⟩ ⟨0, .nil⟩ _
  rw [smp_code]
  refine Rns.wk (a2 := ⟨63, slotsT [(0, zA z)], []⟩) (Wk.slots _ fun p hp => ?_) ?_
  · simp only [List.mem_cons, List.not_mem_nil, or_false] at hp
    subst hp
    exact ⟨by show 0 < 448; decide, by simp only [argsT]; rw [tmpsGet_set_same]⟩
  have h0 := runC_norm (E := E0) (idle := idle0) (S := L0) (n := 60) (sz := 63) (c := smp0) (m := slotsT [(0, zA z)]) (h := ⟨0, .nil⟩) (smp_r0 (zA z))
  rw [smp_h] at h0
  refine Rns.seq (K1 := fun x a1 h1 => x = .normal ∧ a1 = ⟨63, frOf (runC E0 idle0 L0 60 63 smp0 (slotsT [(0, zA z)]) ⟨0, .nil⟩), []⟩ ∧ h1 = smpH) (Rns.ev hC hM (dN 60 L0_ok bad_L0 smp_d0) h0 ⟨rfl, rfl, rfl⟩) ?_ fun x a1 h1 hx ⟨e, _⟩ => absurd e hx
  intro a1 h1 hk
  rw [hk.2.1, hk.2.2]
  clear hk
  refine Rns.wk (a2 := ⟨63, slotsT [(0, zA z), (2, .ptr 0 0)], []⟩) (Wk.slots _ fun p hp => ?_) ?_
  · simp only [List.mem_cons, List.not_mem_nil, or_false] at hp
    rcases hp with rfl | rfl
    · exact ⟨by show 0 < 448; decide, smp_g0 _⟩
    · exact ⟨by show 2 < 448; decide, smp_g2 _⟩
  obtain ⟨o1, o2, o3, o4, hops, i1, i2, i3, i4⟩ := smp_ops
  have hreg : Rns E0 base smp1 ⟨63, slotsT [(0, zA z), (2, .ptr 0 0)], []⟩ smpH fun x a1 h1 => x = .normal ∧ ∃ r, r < 6 ∧ Wk a1 ⟨63, slotsT [(7, .nat .i64 r), (2, .ptr 0 0)], []⟩ ∧ h1 = smpH := by
    rw [hops]
    refine Rns.region (K := fun x a1 h1 => x = .normal ∧ ∃ r, r < 6 ∧ Wk a1 ⟨63, slotsT [(7, .nat .i64 r), (2, .ptr 0 0)], []⟩ ∧ h1 = smpH) ?_
    refine RnsO.op hC i1 (by decide) (v := zA z) (op_move (by kernel_rfl)) (RnsO.op hC i2 (by decide) (v := zA (z.tmod 6)) ?_ ?_)
    · exact op_bin (u := zA z) (v := .nat .i64 (5 + 1)) (by kernel_rfl) (by kernel_rfl) rem_z
    · have h1 : (-6 : Int) < z.tmod 6 := by have := Int.lt_tmod_of_pos z (b := 6) (by decide); omega
      have h2 : z.tmod 6 < (6 : Int) := Int.tmod_lt_of_pos z (by decide)
      intro i ι act w hl H r hf Q hQ
      exact smp_rest i3 i4 _ h1 h2 z i ι act w hl H r hf Q fun a' h' ι' act' w' k => hQ a' h' ι' act' w' ⟨rfl, k⟩
  refine Rns.inner hC hM (dN 60 L0_ok bad_L0 smp_dB) (dN 60 L0_ok bad_L0 smp_dT) (P := fun a2 h2 => ∃ r, r < 6 ∧ a2 = ⟨63, slotsT [(7, .nat .i64 r), (2, .ptr 0 0)], []⟩ ∧ h2 = smpH) (hreg.mono fun x a1 h1 hk => ?_) fun a2 h2 hk => ?_
  · obtain ⟨hx, r, hr, hw, hh⟩ := hk
    exact ⟨hx, _, hw, r, hr, rfl, hh⟩
  · obtain ⟨r, hr, e1, e2⟩ := hk
    rw [e1, e2]
    obtain ⟨⟨v, h1⟩, hs⟩ := Option.isSome_iff_exists.1 (smp_fin hr)
    exact runC_end (V := fun v h1 => ∃ r, r < 6 ∧ smp r = some (v, h1)) hs ⟨r, hr, hs⟩
end

end Ev
end Go.Proofs.YtodemhmfnokomaaGreatDoor
namespace Go.Proofs.YtodemhmfnokomaaGreatDoor
namespace Ev
open Go Go.Proofs

noncomputable def tm : Code := fBody Tryz.f58
noncomputable def tmA : Code := cFst tm
noncomputable def tmB : Code := cFst (cSnd tm)
noncomputable def tmC : Code := cFst (cSnd (cSnd tm))
noncomputable def tmQ : Code := cSnd (cSnd (cSnd tm))
noncomputable def tmD : Code := cFst (cFst tmQ)
def cThen : Code → Code
  | .cond _ x _ => x
  | c => c
noncomputable def tmE : Code := cThen (cSnd (cFst tmQ))
noncomputable def tmF : Code := cFst (cSnd tmQ)
noncomputable def tmR1 : CRes := runC E0 idle0 L0 60 25 (seqC [tmA, tmB, tmC]) (argsT fs3c58_0.args 0 undefT) (heapOf fs3c58_0)
noncomputable def tmR2 : CRes := runC E0 idle0 L0 60 25 tmD (frOf tmR1) (hpOf tmR1)
noncomputable def tmCs : List AV := [.str 7 31073811032534629, .str 6 115922851688052, .str 6 110386638843508]
noncomputable def tmV : AV := tmpsGet (frOf tmR2) (pth 3)
noncomputable def tmG : AV := .sl (hpOf tmR2).next 0 3 1 true
def valV : VRes → AV
  | .ok v _ => v
  | .fail => .any
def hpV : VRes → Heap
  | .ok _ h => h
  | .fail => ⟨0, .nil⟩
def okV : VRes → Bool
  | .ok _ _ => true
  | .fail => false
theorem okV_eq {r : VRes} (h : okV r = true) : r = .ok (valV r) (hpV r) := by cases r with | ok v h => rfl | fail => cases h
noncomputable def tmApp (T : TypeId) : VRes := doAppend E0.P [35, 35] tmV tmG (globH (hpOf tmR2) T tmCs)
noncomputable def tmR3 (T : TypeId) : Option (AV × Heap) := endV E0 Tryz.f58.results.toList (runC E0 idle0 L0 60 25 (.seq tmF .ret) (slotsT [(3, valV (tmApp T))]) (hpV (tmApp T)))
noncomputable def tmChk (T : TypeId) : Bool := match tmR3 T with
  | some (v, h) => chkFact fs3c58_0 (.ok v h)
  | none => false

theorem tm_body : Tryz.f58.body = some (fBody Tryz.f58) := by kernel_rfl
theorem tm_name : Tryz.f58.name ≠ "runtime.NumGoroutine" := by simp [Tryz.f58]
theorem tm_code : fBody Tryz.f58 = seqs [tmA, tmB, tmC] (.seq (.seq tmD (.cond (.tmp 20) tmE .skip)) (.seq tmF .ret)) := by kernel_rfl
theorem tm_dA : codeOk tmA = true := by kernel_rfl
theorem tm_dB : codeOk tmB = true := by kernel_rfl
theorem tm_dC : codeOk tmC = true := by kernel_rfl
theorem tm_dD : codeOk tmD = true := by kernel_rfl
theorem tm_dF : codeOk (.seq tmF .ret) = true := by kernel_rfl
theorem tm_1 : isNorm tmR1 = true := by kernel_rfl
theorem tm_2 : isNorm tmR2 = true := by kernel_rfl
theorem tm_20 : tmpsGet (frOf tmR2) (pth 20) = .bool true := by kernel_rfl
theorem tm_app (T : TypeId) : okV (tmApp T) = true := by kernel_rfl
theorem tm_chk (T : TypeId) : tmChk T = true := by kernel_rfl
theorem tm_glob : E0.glob 0 = some tmCs := by kernel_rfl
theorem tm_slice (T : TypeId) : doSlice E0.P 208 (.ptr (hpOf tmR2).next 0) none none none (globH (hpOf tmR2) T tmCs) = .ok tmG (globH (hpOf tmR2) T tmCs) := by kernel_rfl
def tmCall : Call := { callee := .builtin .append, args := #[.tmp 21, .tmp 22], argTypes := #[35, 35] }
theorem tm_ops : ∃ o1 o2 o3 o4, tmE = .region 8 #[o1, o2, o3, o4] false ∧ OpIs o1 21 (.move (.tmp 3)) ∧ OpIs o2 22 (.slice 208 (.global 0) none none none) ∧ OpIs o3 23 (.call tmCall) ∧ OpIs o4 3 (.assign (.tmp 23)) := by
  refine ⟨_, _, _, _, rfl, ?_, ?_, ?_, ?_⟩
  all_goals exact ⟨rfl, rfl, rfl⟩

theorem tm_call (T : TypeId) : evalOp E0 (callN E0 idle0 L0 60) noY (.call tmCall) ⟨25, slotsT [(22, tmG), (21, tmV), (3, tmV)], []⟩ (globH (hpOf tmR2) T tmCs) = .ok (valV (tmApp T)) (hpV (tmApp T)) := by
  rw [← okV_eq (tm_app T)]
  kernel_rfl

theorem tm_runs (base : Nat) : FnRuns E0 base 58 fs3c58_0.args (heapOf fs3c58_0) fun v h1 => chkFact fs3c58_0 (.ok v h1) = true := by
  have hC : CallsOk E0 base (callN E0 idle0 L0 60) := cN 60 L0_ok bad_L0
  have hM := mN 60 L0_ok
  refine FnRuns.body (E := E0) (f := 58) (fn := Tryz.f58) (c := fBody Tryz.f58) Tryz.func58 tm_body tm_name (show 25 ≤ 448 by decide) (args := fs3c58_0.args) (show 1 ≤ 25 by decide) ?_
  show Rns E0 base (fBody Tryz.f58) ⟨25, argsT fs3c58_0.args 0 undefT, []⟩ (heapOf fs3c58_0) _
  rw [tm_code]
  refine Rns.chain hC hM [tmA, tmB, tmC] (by simp) (fun c hc => ?_) (runC_norm (E := E0) (idle := idle0) (S := L0) (n := 60) (sz := 25) (c := seqC [tmA, tmB, tmC]) tm_1) ?_
  · simp only [List.mem_cons, List.not_mem_nil, or_false] at hc
    rcases hc with rfl | rfl | rfl
    · exact dN 60 L0_ok bad_L0 tm_dA
    · exact dN 60 L0_ok bad_L0 tm_dB
    · exact dN 60 L0_ok bad_L0 tm_dC
  have h2 := runC_norm (E := E0) (idle := idle0) (S := L0) (n := 60) (sz := 25) (c := tmD) (m := frOf tmR1) (h := hpOf tmR1) tm_2
  refine Rns.seq (K1 := fun x a1 h1 => x = .normal ∧ ∃ T, Wk a1 ⟨25, slotsT [(3, valV (tmApp T))], []⟩ ∧ h1 = hpV (tmApp T)) (Rns.seq (K1 := fun x a1 h1 => x = .normal ∧ a1 = ⟨25, frOf tmR2, []⟩ ∧ h1 = hpOf tmR2) (Rns.ev hC hM (dN 60 L0_ok bad_L0 tm_dD) h2 ⟨rfl, rfl, rfl⟩) (fun a1 h1 hk => ?_) fun x a1 h1 hx hk => absurd hk.1 hx) (fun a1 h1 hk => ?_) fun x a1 h1 hx hk => absurd hk.1 hx
  · rw [hk.2.1, hk.2.2]
    refine Rns.cond (b := true) tm_20 ?_
    rw [if_pos rfl]
    obtain ⟨o1, o2, o3, o4, hops, i1, i2, i3, i4⟩ := tm_ops
    rw [hops]
    refine Rns.region (K := fun x a1 h1 => x = .normal ∧ ∃ T, Wk a1 ⟨25, slotsT [(3, valV (tmApp T))], []⟩ ∧ h1 = hpV (tmApp T)) ?_
    refine RnsO.wk (a2 := ⟨25, slotsT [(3, tmV)], []⟩) (Wk.slot1 (by decide) rfl) ?_
    refine RnsO.op hC i1 (show 21 < 25 by decide) (v := tmV) (op_move (by rw [slots_ev]; exact slots_same)) ?_
    refine RnsO.globSlice i2 tm_glob (show 22 < 25 by decide) (v := tmG) tm_slice fun T => ?_
    refine RnsO.opH hC i3 (show 23 < 25 by decide) (h1 := hpV (tmApp T)) (v := valV (tmApp T)) (tm_call T) ?_
    refine RnsO.op hC i4 (show 3 < 25 by decide) (v := valV (tmApp T)) (op_assign (by rw [slots_ev]; exact slots_same)) (RnsO.nil ⟨rfl, T, Wk.slot1 (by decide) slots_same, rfl⟩)
  · obtain ⟨_, T, hw, hh⟩ := hk
    rw [hh]
    refine Rns.wk hw ?_
    have hc := tm_chk T
    unfold tmChk at hc
    split at hc
    · rename_i v h he
      exact Rns.endE (V := fun v h1 => chkFact fs3c58_0 (.ok v h1) = true) hC hM (dN 60 L0_ok bad_L0 tm_dF) he hc
    · cases hc

theorem fs3c58_0_ok : FactOk E0 fs3c58_0 := factOk_runs (by kernel_rfl) (by kernel_rfl) tm_runs

end Ev
end Go.Proofs.YtodemhmfnokomaaGreatDoor
namespace Go.Proofs.YtodemhmfnokomaaGreatDoor
namespace Ev
open Go Go.Proofs

/-- the summaries for sample r -/
noncomputable def SS (r : Nat) : Summ := addFs 8 [fc8_0] (match r with
  | 0 => S0_7
  | 1 => S1_7
  | 2 => addFs 9 [q2c9_0] L0
  | 3 => S3_8
  | 4 => S4_7
  | _ => S5_7)

noncomputable def sa : Code := fBody Tryz.f4
noncomputable def sa0 : Code := cFst sa
noncomputable def sa1 : Code := cFst (cSnd sa)
noncomputable def saX : Code := cFst (cSnd (cSnd sa))
noncomputable def saQ3 : Code := cSnd (cSnd (cSnd sa))
noncomputable def sa4 : Code := cFst saQ3
noncomputable def saY : Code := cFst (cSnd saQ3)
noncomputable def saQ4 : Code := cSnd (cSnd saQ3)
noncomputable def sa7 : Code := cFst saQ4
noncomputable def saR : Code := cSnd saQ4
/-- what stands behind the first region's first two operations; what stands ahead of the rest -/
noncomputable def saT : Array Oper := ((cOps sa1).toList.drop 2).toArray
noncomputable def saM : Array Oper := (((cOps sa7).toList.drop 2).take 3).toArray
noncomputable def saP : Code := seqC [.region 1 saT false, saX, sa4, saY]

noncomputable def smV (r : Nat) : AV := match smp r with
  | some (v, _) => v
  | none => .any
noncomputable def smH (r : Nat) : Heap := match smp r with
  | some (_, h) => h
  | none => ⟨0, .nil⟩

noncomputable def saR1 (r n : Nat) : CRes := runC E0 idle0 (SS r) 60 90 saP (slotsT [(14, smV r), (1, .nat .u8 n)]) (smH r)
noncomputable def saC (r n : Nat) : AV := tmpsGet (frOf (saR1 r n)) (pth 5)
noncomputable def saS (r n : Nat) : AV := tmpsGet (frOf (saR1 r n)) (pth 7)
noncomputable def saR2 (r n : Nat) : CRes := runC E0 idle0 (SS r) 60 90 (.region 7 saM false) (slotsT [(32, .nat .i64 n), (5, saC r n), (7, saS r n)]) (hpOf (saR1 r n))
noncomputable def saR3 (r n x : Nat) : Option (AV × Heap) := endV E0 Tryz.f4.results.toList (runC E0 idle0 (SS r) 60 90 saR (slotsT [(8, .nat .i64 x), (5, tmpsGet (frOf (saR2 r n)) (pth 5)), (7, tmpsGet (frOf (saR2 r n)) (pth 7))]) (hpOf (saR2 r n)))

/-- what the runs of sample r show: the language has L definitions -/
def RunOk (r L : Nat) : Prop := ∀ n, (isNorm (saR1 r n), tmpsGet (frOf (saR1 r n)) (pth 1), isNorm (saR2 r n), tmpsGet (frOf (saR2 r n)) (pth 32), tmpsGet (frOf (saR2 r n)) (pth 35)) = (true, .nat .u8 n, true, .nat .i64 n, .nat .i64 L)

theorem sa_body : Tryz.f4.body = some (fBody Tryz.f4) := by kernel_rfl
theorem sa_name : Tryz.f4.name ≠ "runtime.NumGoroutine" := by simp [Tryz.f4]
theorem sa_code : fBody Tryz.f4 = .seq sa0 (.seq sa1 (seqs [saX, sa4, saY] (.seq sa7 saR))) := by kernel_rfl
theorem sa_d0 : codeOk sa0 = true := by kernel_rfl
theorem sa_dX : codeOk saX = true := by kernel_rfl
theorem sa_d4 : codeOk sa4 = true := by kernel_rfl
theorem sa_dY : codeOk saY = true := by kernel_rfl
theorem sa_dR : codeOk saR = true := by kernel_rfl

end Ev
end Go.Proofs.YtodemhmfnokomaaGreatDoor
namespace Go.Proofs.YtodemhmfnokomaaGreatDoor
namespace Ev
open Go Go.Proofs

theorem evalC_split {E : Env} {callF : CallY} {id : Nat} {ops : Array Oper} {d : Code} {l : List Code} {a : AF} {h : Heap} {a' : AF} {h' : Heap} (he : evalC E callF noY false (seqC (.region id ops false :: d :: l)) a h = .done .normal a' h') :
    ∃ a1 h1, evalOps E callF noY false ops ops.toList a h = .ok a1 h1 ∧ evalC E callF noY false (seqC (d :: l)) a1 h1 = .done .normal a' h' := by
  simp only [seqC, evalC] at he
  cases h1 : evalOps E callF noY false ops ops.toList a h with
  | fail => rw [h1] at he; cases he
  | ok a1 h2 => rw [h1] at he; exact ⟨a1, h2, rfl, he⟩

theorem sa_ops0 : ∃ o, sa0 = .region 0 #[o] false ∧ OpIs o 4 (.assign (.const (.bool false))) := by
  refine ⟨_, rfl, ?_⟩
  exact ⟨rfl, rfl, rfl⟩
def saCall : Call := { callee := .value (.func 16), args := #[.tmp 13], argTypes := #[3] }
theorem sa_ops1 : ∃ o1 o2 ops, sa1 = .region 1 ops false ∧ ops.toList = o1 :: o2 :: saT.toList ∧ OpIs o1 13 (.move (.tmp 0)) ∧ OpIs o2 14 (.call saCall) := by
  refine ⟨_, _, _, rfl, rfl, ?_, ?_⟩
  all_goals exact ⟨rfl, rfl, rfl⟩
theorem sa_ops7 : ∃ o1 o2 o6 o7 ops, sa7 = .region 7 ops false ∧ ops.toList = o1 :: o2 :: (saM.toList ++ [o6, o7]) ∧ OpIs o1 31 (.move (.tmp 1)) ∧ OpIs o2 32 (.convert 5 3 (.tmp 31)) ∧ OpIs o6 36 (.binOp .rem 3 (.tmp 32) (.tmp 35) 3) ∧ OpIs o7 8 (.assign (.tmp 36)) := by
  refine ⟨_, _, _, _, _, rfl, rfl, ?_, ?_, ?_, ?_⟩
  all_goals exact ⟨rfl, rfl, rfl⟩
theorem saT_plain : (saT.toList.all fun o => o.guard.isNone && !isDefer o.op) = true := by kernel_rfl
theorem saM_plain : (saM.toList.all fun o => o.guard.isNone && !isDefer o.op) = true := by kernel_rfl
theorem t5_u8 : E0.P.underlying 5 = some (.int .u8) := by kernel_rfl
theorem t3_i64 : E0.P.underlying 3 = some (.int .i64) := by kernel_rfl

theorem plain_of {l : List Oper} (h : (l.all fun o => o.guard.isNone && !isDefer o.op) = true) : ∀ o ∈ l, o.guard = none ∧ isDefer o.op = false := fun o ho => by
  have := List.all_eq_true.1 h o ho
  simp only [Bool.and_eq_true, Option.isNone_iff_eq_none, Bool.not_eq_true'] at this
  exact this

variable {base : Nat}

set_option maxRecDepth 4000 in
theorem samples_runs (hSS : ∀ r base, SummOk E0 base (SS r)) (hbad : ∀ r f, bad0 f = true → SS r f ≠ none)
    (hrun : ∀ r, r < 6 → ∃ L, 0 < L ∧ RunOk r L ∧ ∀ n x, x < L → isT (saR3 r n x) = true) (k : Int) (n : Nat) (hn : n ≤ 255) : FnRuns E0 base 4 [zA k, .nat .u8 n] ⟨0, .nil⟩ fun v _ => v = .bool true := by
  refine FnRuns.body (E := E0) (f := 4) (fn := Tryz.f4) (c := fBody Tryz.f4) Tryz.func4 sa_body sa_name (show 90 ≤ 448 by decide) (args := [zA k, .nat .u8 n]) (show 2 ≤ 90 by decide) ?_
  show Rns E0 base (fBody Tryz.f4) ⟨90, argsT [zA k, .nat .u8 n] 0 undefT, []⟩ ⟨0, .nil⟩ _
  rw [sa_code]
  refine Rns.wk (a2 := ⟨90, slotsT [(0, zA k), (1, .nat .u8 n)], []⟩) (Wk.slot2 (by decide) (by kernel_rfl) (by decide) (by kernel_rfl)) ?_
  have hC0 : CallsOk E0 base (callN E0 idle0 L0 60) := cN 60 L0_ok bad_L0
  -- region 0
  refine Rns.seq (K1 := fun x a1 h1 => x = .normal ∧ Wk a1 ⟨90, slotsT [(0, zA k), (1, .nat .u8 n)], []⟩ ∧ h1 = ⟨0, .nil⟩) ?_ (fun a1 h1 hk => ?_) fun x a1 h1 hx hk => absurd hk.1 hx
  · obtain ⟨o, hops, i1⟩ := sa_ops0
    rw [hops]
    refine Rns.region (K := fun x a1 h1 => x = .normal ∧ Wk a1 ⟨90, slotsT [(0, zA k), (1, .nat .u8 n)], []⟩ ∧ h1 = ⟨0, .nil⟩) ?_
    exact RnsO.op hC0 i1 (show 4 < 90 by decide) (v := .bool false) (op_assign rfl) (RnsO.nil ⟨rfl, Wk.slot2 (by decide) (by kernel_rfl) (by decide) (by kernel_rfl), rfl⟩)
  obtain ⟨_, hw, hh⟩ := hk
  rw [hh]
  refine Rns.wk hw ?_
  clear hw hh a1 h1
  -- region 1
  refine Rns.seq (K1 := fun x a1 h1 => x = .normal ∧ ∃ r, r < 6 ∧ evalOps E0 (callN E0 idle0 (SS r) 60) noY false saT saT.toList ⟨90, slotsT [(14, smV r), (1, .nat .u8 n)], []⟩ (smH r) = .ok a1 h1) ?_ (fun a1 h1 hk => ?_) fun x a1 h1 hx hk => absurd hk.1 hx
  · obtain ⟨o1, o2, ops, hreg, hops, i1, i2⟩ := sa_ops1
    rw [hreg]
    refine Rns.region (K := fun x a1 h1 => x = .normal ∧ ∃ r, r < 6 ∧ evalOps E0 (callN E0 idle0 (SS r) 60) noY false saT saT.toList ⟨90, slotsT [(14, smV r), (1, .nat .u8 n)], []⟩ (smH r) = .ok a1 h1) ?_
    rw [hops]
    refine RnsO.op hC0 i1 (show 13 < 90 by decide) (v := zA k) (op_move (by kernel_rfl)) ?_
    refine RnsO.callS (g := 16) (V := fun v h1 => ∃ r, r < 6 ∧ smp r = some (v, h1)) i2 (show 14 < 90 by decide) rfl ?_ fun v h1 hv => ?_
    · have : evL ⟨90, slotsT [(13, zA k), (0, zA k), (1, .nat .u8 n)], []⟩ saCall.args.toList = [zA k] := by kernel_rfl
      rw [this]
      exact sample_runs k
    · obtain ⟨r, hr, hs⟩ := hv
      have e1 : v = smV r := by unfold smV; rw [hs]
      have e2 : h1 = smH r := by unfold smH; rw [hs]
      rw [e1, e2]
      refine RnsO.wk (a2 := ⟨90, slotsT [(14, smV r), (1, .nat .u8 n)], []⟩) (Wk.slot2 (by decide) slots_same (by decide) (by kernel_rfl)) ?_
      obtain ⟨L, hL, hR, _⟩ := hrun r hr
      have hq := hR n
      simp only [Prod.mk.injEq] at hq
      have hnorm := runC_norm (E := E0) (idle := idle0) (S := SS r) (n := 60) (sz := 90) (c := saP) (m := slotsT [(14, smV r), (1, .nat .u8 n)]) (h := smH r) hq.1
      obtain ⟨a3, h3, k1, _⟩ := evalC_split hnorm
      rw [evalOps_any (ops' := ops) saT.toList (fun o ho => (plain_of saT_plain o ho).1)] at k1
      refine RnsO.eval (cN 60 (hSS r) (hbad r)) (mN 60 (hSS r)) k1 ⟨rfl, r, hr, ?_⟩
      rw [evalOps_any (ops' := ops) saT.toList (fun o ho => (plain_of saT_plain o ho).1)]
      exact k1
  obtain ⟨_, r, hr, hev⟩ := hk
  obtain ⟨L, hL, hR, hfin⟩ := hrun r hr
  have hq := hR n
  simp only [Prod.mk.injEq] at hq
  obtain ⟨q1, q2, q3, q4, q5⟩ := hq
  have hC : CallsOk E0 base (callN E0 idle0 (SS r) 60) := cN 60 (hSS r) (hbad r)
  have hM := mN 60 (hSS r)
  have hnorm := runC_norm (E := E0) (idle := idle0) (S := SS r) (n := 60) (sz := 90) (c := saP) (m := slotsT [(14, smV r), (1, .nat .u8 n)]) (h := smH r) q1
  obtain ⟨a3, h3, k1, k2⟩ := evalC_split hnorm
  rw [hev] at k1
  cases k1
  refine Rns.chain hC hM [saX, sa4, saY] (by simp) (fun c hc => ?_) k2 ?_
  · simp only [List.mem_cons, List.not_mem_nil, or_false] at hc
    rcases hc with rfl | rfl | rfl
    · exact dN 60 (hSS r) (hbad r) sa_dX
    · exact dN 60 (hSS r) (hbad r) sa_d4
    · exact dN 60 (hSS r) (hbad r) sa_dY
  clear k2 hev
  refine Rns.wk (a2 := ⟨90, slotsT [(1, .nat .u8 n), (5, saC r n), (7, saS r n)], []⟩) (Wk.slot3 (by decide) q2 (by decide) rfl (by decide) rfl) ?_
  -- region 7
  refine Rns.seq (K1 := fun x a1 h1 => x = .normal ∧ Wk a1 ⟨90, slotsT [(8, .nat .i64 (n % L)), (5, tmpsGet (frOf (saR2 r n)) (pth 5)), (7, tmpsGet (frOf (saR2 r n)) (pth 7))], []⟩ ∧ h1 = hpOf (saR2 r n)) ?_ (fun a1 h1 hk => ?_) fun x a1 h1 hx hk => absurd hk.1 hx
  · obtain ⟨o1, o2, o6, o7, ops, hreg, hops, i1, i2, i6, i7⟩ := sa_ops7
    rw [hreg]
    refine Rns.region (K := fun x a1 h1 => x = .normal ∧ Wk a1 ⟨90, slotsT [(8, .nat .i64 (n % L)), (5, tmpsGet (frOf (saR2 r n)) (pth 5)), (7, tmpsGet (frOf (saR2 r n)) (pth 7))], []⟩ ∧ h1 = hpOf (saR2 r n)) ?_
    rw [hops]
    refine RnsO.op hC i1 (show 31 < 90 by decide) (v := .nat .u8 n) (op_move (by rw [slots_ev]; exact slots_same)) ?_
    refine RnsO.op hC i2 (show 32 < 90 by decide) (v := .nat .i64 n) ?_ ?_
    · show doConvert E0.P 5 3 (AF.ev ⟨90, slotsT _, []⟩ (.tmp 31)) _ = _
      rw [slots_ev, slots_same]
      exact conv_u8 t5_u8 t3_i64 hn
    refine RnsO.wk (a2 := ⟨90, slotsT [(32, .nat .i64 n), (5, saC r n), (7, saS r n)], []⟩) (Wk.slot3 (by decide) slots_same (by decide) (by rw [slots_skip (by decide) (by decide), slots_skip (by decide) (by decide), slots_skip (by decide) (by decide)]; exact slots_same) (by decide) (by rw [slots_skip (by decide) (by decide), slots_skip (by decide) (by decide), slots_skip (by decide) (by decide), slots_skip (by decide) (by decide)]; exact slots_same)) ?_
    have hn2 := runC_norm (E := E0) (idle := idle0) (S := SS r) (n := 60) (sz := 90) (c := .region 7 saM false) (m := slotsT [(32, .nat .i64 n), (5, saC r n), (7, saS r n)]) (h := hpOf (saR1 r n)) q3
    simp only [evalC] at hn2
    split at hn2
    · rename_i a4 h4 he4
      rw [evalOps_any (ops' := ops) saM.toList (fun o ho => (plain_of saM_plain o ho).1)] at he4
      refine RnsO.pre hC saM.toList (plain_of saM_plain) he4 ?_
      simp only [CRes.done.injEq, true_and] at hn2
      rw [hn2.1, hn2.2]
      refine RnsO.wk (a2 := ⟨90, slotsT [(32, .nat .i64 n), (35, .nat .i64 L), (5, tmpsGet (frOf (saR2 r n)) (pth 5)), (7, tmpsGet (frOf (saR2 r n)) (pth 7))], []⟩) (Wk.slot4 (by decide) q4 (by decide) q5 (by decide) rfl (by decide) rfl) ?_
      obtain ⟨L', rfl⟩ : ∃ L', L = L' + 1 := ⟨L - 1, by omega⟩
      refine RnsO.op hC i6 (show 36 < 90 by decide) (v := .nat .i64 (n % (L' + 1))) (op_bin (by rw [slots_ev]; exact slots_same) (by rw [slots_ev, slots_skip (by decide) (by decide)]; exact slots_same) rem_nat) ?_
      refine RnsO.op hC i7 (show 8 < 90 by decide) (v := .nat .i64 (n % (L' + 1))) (op_assign (by rw [slots_ev]; exact slots_same)) (RnsO.nil ⟨rfl, ?_, rfl⟩)
      refine Wk.slot3 (by decide) slots_same (by decide) ?_ (by decide) ?_
      · rw [slots_skip (by decide) (by decide), slots_skip (by decide) (by decide), slots_skip (by decide) (by decide), slots_skip (by decide) (by decide)]; exact slots_same
      · rw [slots_skip (by decide) (by decide), slots_skip (by decide) (by decide), slots_skip (by decide) (by decide), slots_skip (by decide) (by decide), slots_skip (by decide) (by decide)]; exact slots_same
    · cases hn2
  obtain ⟨_, hw, hh⟩ := hk
  rw [hh]
  refine Rns.wk hw ?_
  obtain ⟨h5, he⟩ := isT_inv (hfin n (n % L) (Nat.mod_lt _ hL))
  exact Rns.endE (V := fun v _ => v = .bool true) hC hM (dN 60 (hSS r) (hbad r) sa_dR) he rfl

end Ev
end Go.Proofs.YtodemhmfnokomaaGreatDoor
