/- The evaluator in a form that the kernel computes quickly, first part. Conditions: none. -/
import Derived.Test.YtodemhmfnokomaaGreatDoorEvGb
namespace Go.Proofs.YtodemhmfnokomaaGreatDoor
namespace Ev
open Go

structure W (α : Type) where
  f : α

/-- what W holds, laid into what follows -/
noncomputable def wK {α β : Type} (w : W α) (f : α → W β) : W β := W.rec (motive := fun _ => (α → W β) → W β) (fun a f => f a) w f
theorem wK_eq {α β : Type} (w : W α) (f : α → W β) : wK w f = f w.f := by cases w; rfl

noncomputable def fN {β : Type} (n : Nat) (f : Nat → β) : β := Nat.rec (motive := fun _ => (Nat → β) → β) (fun f => f 0) (fun m _ f => f (Nat.succ m)) n f
theorem fN_eq {β : Type} (n : Nat) (f : Nat → β) : fN n f = f n := by cases n <;> rfl

/-- which of eight -/
noncomputable def by8 {γ : Type} (c0 c1 c2 c3 c4 c5 c6 c7 : γ) (r : Nat) : γ :=
  Nat.rec (motive := fun _ => γ) c0 (fun r _ => Nat.rec (motive := fun _ => γ) c1 (fun r _ => Nat.rec (motive := fun _ => γ) c2 (fun r _ => Nat.rec (motive := fun _ => γ) c3 (fun r _ => Nat.rec (motive := fun _ => γ) c4 (fun r _ => Nat.rec (motive := fun _ => γ) c5
    (fun r _ => Nat.rec (motive := fun _ => γ) c6 (fun _ _ => c7) r) r) r) r) r) r) r

theorem by8_eq {γ : Type} (c0 c1 c2 c3 c4 c5 c6 c7 : γ) (r : Nat) (h : r < 8) : by8 c0 c1 c2 c3 c4 c5 c6 c7 r = (⟨c0, c1, c2, c3, c4, c5, c6, c7⟩ : N8 γ).get (dig r) := by
  have : r = 0 ∨ r = 1 ∨ r = 2 ∨ r = 3 ∨ r = 4 ∨ r = 5 ∨ r = 6 ∨ r = 7 := by omega
  rcases this with rfl | rfl | rfl | rfl | rfl | rfl | rfl | rfl <;> rfl

/-- one of a node's eight -/
noncomputable def selC (B : Type) (r : Nat) : W (N8 B → B) := by8 ⟨N8.a0⟩ ⟨N8.a1⟩ ⟨N8.a2⟩ ⟨N8.a3⟩ ⟨N8.a4⟩ ⟨N8.a5⟩ ⟨N8.a6⟩ ⟨N8.a7⟩ r

theorem selC_eq (B : Type) (r : Nat) (h : r < 8) (n : N8 B) : (selC B r).f n = n.get (dig r) := by
  unfold selC
  rw [by8_eq _ _ _ _ _ _ _ _ r h]
  cases dig r <;> rfl

noncomputable def mkG {A B C : Type} (G : W (A → B)) (U : W (B → C)) : W (A → C) := wK G fun g => wK U fun u => ⟨fun t => u (g t)⟩
theorem mkG_eq {A B C : Type} (G : W (A → B)) (U : W (B → C)) (t : A) : (mkG G U).f t = U.f (G.f t) := by simp only [mkG, wK_eq]

/-- one level down -/
noncomputable def stG {A B : Type} (g : Nat → W (A → N8 B)) (k : Nat) : W (A → B) := fN (Nat.div k 8) fun q => fN (Nat.mod k 8) fun r => mkG (g q) (selC B r)

theorem dg1 (k : Nat) : dg 1 k = dig (k % 8) := by unfold dg; rw [show Nat.div k 1 = k from Nat.div_one k]; rfl

theorem stG_eq {A B : Type} (g : Nat → W (A → N8 B)) (k : Nat) (t : A) : (stG g k).f t = ((g (k / 8)).f t).get (dg 1 k) := by
  unfold stG
  rw [fN_eq, fN_eq, show Nat.div k 8 = k / 8 from rfl, show Nat.mod k 8 = k % 8 from rfl, dg1]
  rw [mkG_eq]
  exact selC_eq B _ (Nat.mod_lt _ (by omega)) _

theorem dg_div (s k : Nat) : dg s (k / 8) = dg (8 * s) k := by
  unfold dg
  rw [show Nat.div (k / 8) s = k / 8 / s from rfl, show Nat.div k (8 * s) = k / (8 * s) from rfl, Nat.div_div_eq_div_mul]

def p0 (A : Type) : Nat → W (A → A) := fun _ => ⟨fun t => t⟩

section
variable (α : Type)
noncomputable def q1 : Nat → W (T1 α → Option α) := stG (p0 (T1 α))
noncomputable def q2 : Nat → W (T2 α → Option α) := stG (stG (p0 (T2 α)))
noncomputable def q3 : Nat → W (T3 α → Option α) := stG (stG (stG (p0 (T3 α))))
noncomputable def q4 : Nat → W (T4 α → Option α) := stG (stG (stG (stG (p0 (T4 α)))))
noncomputable def q5 : Nat → W (T5 α → Option α) := stG (stG (stG (stG (stG (p0 (T5 α))))))
noncomputable def q6 : Nat → W (T6 α → Option α) := stG (stG (stG (stG (stG (stG (p0 (T6 α)))))))
end

section
variable {α : Type}
theorem q1_eq (n : T1 α) (k : Nat) : (q1 α k).f n = Tr.g1 n k := by simp only [q1, stG_eq, p0]; rfl
theorem q2_eq (n : T2 α) (k : Nat) : (q2 α k).f n = Tr.g2 n k := by simp only [q2, stG_eq, p0, dg_div]; rfl
theorem q3_eq (n : T3 α) (k : Nat) : (q3 α k).f n = Tr.g3 n k := by simp only [q3, stG_eq, p0, dg_div]; rfl
theorem q4_eq (n : T4 α) (k : Nat) : (q4 α k).f n = Tr.g4 n k := by simp only [q4, stG_eq, p0, dg_div]; rfl
theorem q5_eq (n : T5 α) (k : Nat) : (q5 α k).f n = Tr.g5 n k := by simp only [q5, stG_eq, p0, dg_div]; rfl
theorem q6_eq (n : T6 α) (k : Nat) : (q6 α k).f n = Tr.g6 n k := by simp only [q6, stG_eq, p0, dg_div]; rfl

noncomputable def rdO (over : Nat → Option α) (k : Nat) : Option α := Bool.rec (motive := fun _ => Option α) none (over k) (Nat.ble 262144 k)
noncomputable def rd0 (v : Option α) (over : Nat → Option α) (k : Nat) : Option α := Bool.rec (motive := fun _ => Option α) v (rdO over k) (Nat.ble 1 k)
noncomputable def rd1 (n : T1 α) (over : Nat → Option α) (k : Nat) : Option α := Bool.rec (motive := fun _ => Option α) ((q1 α k).f n) (rdO over k) (Nat.ble 8 k)
noncomputable def rd2 (n : T2 α) (over : Nat → Option α) (k : Nat) : Option α := Bool.rec (motive := fun _ => Option α) ((q2 α k).f n) (rdO over k) (Nat.ble 64 k)
noncomputable def rd3 (n : T3 α) (over : Nat → Option α) (k : Nat) : Option α := Bool.rec (motive := fun _ => Option α) ((q3 α k).f n) (rdO over k) (Nat.ble 512 k)
noncomputable def rd4 (n : T4 α) (over : Nat → Option α) (k : Nat) : Option α := Bool.rec (motive := fun _ => Option α) ((q4 α k).f n) (rdO over k) (Nat.ble 4096 k)
noncomputable def rd5 (n : T5 α) (over : Nat → Option α) (k : Nat) : Option α := Bool.rec (motive := fun _ => Option α) ((q5 α k).f n) (rdO over k) (Nat.ble 32768 k)
noncomputable def rd6 (n : T6 α) (over : Nat → Option α) (k : Nat) : Option α := Bool.rec (motive := fun _ => Option α) ((q6 α k).f n) (rdO over k) (Nat.ble 262144 k)

/-- a read -/
noncomputable def Tr.rd (t : Tr α) (k : Nat) : Option α := Tp.rec (motive := fun _ => (Nat → Option α) → Nat → Option α) rd0 rd1 rd2 rd3 rd4 rd5 rd6 t.top t.over k

theorem Tr.rd_eq (t : Tr α) (k : Nat) : t.rd k = t.get k := by
  obtain ⟨top, over⟩ := t
  have two : ∀ (s : Nat) (x : Option α), s ≤ 262144 → (Bool.rec (motive := fun _ => Option α) x (rdO over k) (Nat.ble s k)) = bif Nat.ble 262144 k then over k else bif Nat.ble s k then none else x := by
    intro s x hs
    unfold rdO
    rcases Tr.ble_cases 262144 k with ⟨h1, h2⟩ | ⟨h1, h2⟩ <;> rcases Tr.ble_cases s k with ⟨h3, h4⟩ | ⟨h3, h4⟩ <;> rw [h1, h3]
    · rfl
    · omega
    · rfl
    · rfl
  unfold Tr.rd Tr.get
  cases top with
  | t0 v => exact two 1 _ (by omega)
  | t1 n => simp only [rd1, q1_eq, Tr.gT]; exact two 8 _ (by omega)
  | t2 n => simp only [rd2, q2_eq, Tr.gT]; exact two 64 _ (by omega)
  | t3 n => simp only [rd3, q3_eq, Tr.gT]; exact two 512 _ (by omega)
  | t4 n => simp only [rd4, q4_eq, Tr.gT]; exact two 4096 _ (by omega)
  | t5 n => simp only [rd5, q5_eq, Tr.gT]; exact two 32768 _ (by omega)
  | t6 n =>
    simp only [rd6, q6_eq, Tr.gT, rdO]
    rcases Tr.ble_cases 262144 k with ⟨h1, _⟩ | ⟨h1, _⟩ <;> simp only [h1] <;> rfl
end

section
variable {B R : Type}
abbrev Up (B R : Type) := (B → (B → R) → R) → N8 B → (N8 B → R) → R
noncomputable def up0 (u : B → (B → R) → R) (n : N8 B) (c : N8 B → R) : R := N8.rec (motive := fun _ => (B → (B → R) → R) → (N8 B → R) → R) (fun a0 a1 a2 a3 a4 a5 a6 a7 u c => u a0 fun x => c ⟨x, a1, a2, a3, a4, a5, a6, a7⟩) n u c
noncomputable def up1 (u : B → (B → R) → R) (n : N8 B) (c : N8 B → R) : R := N8.rec (motive := fun _ => (B → (B → R) → R) → (N8 B → R) → R) (fun a0 a1 a2 a3 a4 a5 a6 a7 u c => u a1 fun x => c ⟨a0, x, a2, a3, a4, a5, a6, a7⟩) n u c
noncomputable def up2 (u : B → (B → R) → R) (n : N8 B) (c : N8 B → R) : R := N8.rec (motive := fun _ => (B → (B → R) → R) → (N8 B → R) → R) (fun a0 a1 a2 a3 a4 a5 a6 a7 u c => u a2 fun x => c ⟨a0, a1, x, a3, a4, a5, a6, a7⟩) n u c
noncomputable def up3 (u : B → (B → R) → R) (n : N8 B) (c : N8 B → R) : R := N8.rec (motive := fun _ => (B → (B → R) → R) → (N8 B → R) → R) (fun a0 a1 a2 a3 a4 a5 a6 a7 u c => u a3 fun x => c ⟨a0, a1, a2, x, a4, a5, a6, a7⟩) n u c
noncomputable def up4 (u : B → (B → R) → R) (n : N8 B) (c : N8 B → R) : R := N8.rec (motive := fun _ => (B → (B → R) → R) → (N8 B → R) → R) (fun a0 a1 a2 a3 a4 a5 a6 a7 u c => u a4 fun x => c ⟨a0, a1, a2, a3, x, a5, a6, a7⟩) n u c
noncomputable def up5 (u : B → (B → R) → R) (n : N8 B) (c : N8 B → R) : R := N8.rec (motive := fun _ => (B → (B → R) → R) → (N8 B → R) → R) (fun a0 a1 a2 a3 a4 a5 a6 a7 u c => u a5 fun x => c ⟨a0, a1, a2, a3, a4, x, a6, a7⟩) n u c
noncomputable def up6 (u : B → (B → R) → R) (n : N8 B) (c : N8 B → R) : R := N8.rec (motive := fun _ => (B → (B → R) → R) → (N8 B → R) → R) (fun a0 a1 a2 a3 a4 a5 a6 a7 u c => u a6 fun x => c ⟨a0, a1, a2, a3, a4, a5, x, a7⟩) n u c
noncomputable def up7 (u : B → (B → R) → R) (n : N8 B) (c : N8 B → R) : R := N8.rec (motive := fun _ => (B → (B → R) → R) → (N8 B → R) → R) (fun a0 a1 a2 a3 a4 a5 a6 a7 u c => u a7 fun x => c ⟨a0, a1, a2, a3, a4, a5, a6, x⟩) n u c

noncomputable def updC (B R : Type) (r : Nat) : W (Up B R) := by8 ⟨up0⟩ ⟨up1⟩ ⟨up2⟩ ⟨up3⟩ ⟨up4⟩ ⟨up5⟩ ⟨up6⟩ ⟨up7⟩ r

theorem updC_eq (r : Nat) (h : r < 8) (u : B → (B → R) → R) (n : N8 B) (c : N8 B → R) : (updC B R r).f u n c = u (n.get (dig r)) fun x => n.setK (dig r) x c := by
  unfold updC
  rw [by8_eq _ _ _ _ _ _ _ _ r h]
  obtain ⟨a0, a1, a2, a3, a4, a5, a6, a7⟩ := n
  cases dig r <;> rfl
end

noncomputable def mkS {A B C R : Type} (G : W (A → (B → (B → R) → R) → (A → R) → R)) (U : W ((C → (C → R) → R) → B → (B → R) → R)) : W (A → (C → (C → R) → R) → (A → R) → R) := wK G fun g => wK U fun w => ⟨fun t u f => g t (w u) f⟩

/-- one level down, to turn what lies there -/
noncomputable def stS {A B R : Type} (g : Nat → W (A → (N8 B → (N8 B → R) → R) → (A → R) → R)) (k : Nat) : W (A → (B → (B → R) → R) → (A → R) → R) :=
  fN (Nat.div k 8) fun q => fN (Nat.mod k 8) fun r => mkS (g q) (updC B R r)

theorem stS_eq {A B R : Type} (g : Nat → W (A → (N8 B → (N8 B → R) → R) → (A → R) → R)) (k : Nat) (t : A) (u : B → (B → R) → R) (f : A → R) :
    (stS g k).f t u f = (g (k / 8)).f t (fun n c => u (n.get (dg 1 k)) fun x => n.setK (dg 1 k) x c) f := by
  unfold stS
  rw [fN_eq, fN_eq, show Nat.div k 8 = k / 8 from rfl, show Nat.mod k 8 = k % 8 from rfl, dg1]
  simp only [mkS, wK_eq]
  rw [show (updC B R (k % 8)).f u = fun n c => u (n.get (dig (k % 8))) fun x => n.setK (dig (k % 8)) x c from funext fun n => funext fun c => updC_eq _ (Nat.mod_lt _ (by omega)) u n c]

def u0 (A R : Type) : Nat → W (A → (A → (A → R) → R) → (A → R) → R) := fun _ => ⟨fun t u f => u t f⟩

section
variable (α R : Type)
noncomputable def z1 : Nat → W (T1 α → (Option α → (Option α → R) → R) → (T1 α → R) → R) := stS (u0 (T1 α) R)
noncomputable def z2 : Nat → W (T2 α → (Option α → (Option α → R) → R) → (T2 α → R) → R) := stS (stS (u0 (T2 α) R))
noncomputable def z3 : Nat → W (T3 α → (Option α → (Option α → R) → R) → (T3 α → R) → R) := stS (stS (stS (u0 (T3 α) R)))
noncomputable def z4 : Nat → W (T4 α → (Option α → (Option α → R) → R) → (T4 α → R) → R) := stS (stS (stS (stS (u0 (T4 α) R))))
noncomputable def z5 : Nat → W (T5 α → (Option α → (Option α → R) → R) → (T5 α → R) → R) := stS (stS (stS (stS (stS (u0 (T5 α) R)))))
noncomputable def z6 : Nat → W (T6 α → (Option α → (Option α → R) → R) → (T6 α → R) → R) := stS (stS (stS (stS (stS (stS (u0 (T6 α) R))))))
end

section
variable {α R : Type}
def putV (v : α) (_ : α) (c : α → R) : R := c v
theorem z1_eq (n : T1 α) (k : Nat) (v : Option α) (f : T1 α → R) : (z1 α R k).f n (putV v) f = Tr.s1 n k v f := by simp only [z1, stS_eq, u0]; rfl
theorem z2_eq (n : T2 α) (k : Nat) (v : Option α) (f : T2 α → R) : (z2 α R k).f n (putV v) f = Tr.s2 n k v f := by simp only [z2, stS_eq, u0, dg_div]; rfl
theorem z3_eq (n : T3 α) (k : Nat) (v : Option α) (f : T3 α → R) : (z3 α R k).f n (putV v) f = Tr.s3 n k v f := by simp only [z3, stS_eq, u0, dg_div]; rfl
theorem z4_eq (n : T4 α) (k : Nat) (v : Option α) (f : T4 α → R) : (z4 α R k).f n (putV v) f = Tr.s4 n k v f := by simp only [z4, stS_eq, u0, dg_div]; rfl
theorem z5_eq (n : T5 α) (k : Nat) (v : Option α) (f : T5 α → R) : (z5 α R k).f n (putV v) f = Tr.s5 n k v f := by simp only [z5, stS_eq, u0, dg_div]; rfl
theorem z6_eq (n : T6 α) (k : Nat) (v : Option α) (f : T6 α → R) : (z6 α R k).f n (putV v) f = Tr.s6 n k v f := by simp only [z6, stS_eq, u0, dg_div]; rfl

noncomputable def wr0 (u : Option α) (over : Nat → Option α) (v : Option α) (k : Nat) (f : Tr α → R) : R := Bool.rec (motive := fun _ => R) (f ⟨.t0 v, over⟩) (Tr.setK v ⟨.t0 u, over⟩ k f) (Nat.ble 1 k)
noncomputable def wr1 (n : T1 α) (over : Nat → Option α) (v : Option α) (k : Nat) (f : Tr α → R) : R := Bool.rec (motive := fun _ => R) ((z1 α R k).f n (putV v) fun n' => f ⟨.t1 n', over⟩) (Tr.setK v ⟨.t1 n, over⟩ k f) (Nat.ble 8 k)
noncomputable def wr2 (n : T2 α) (over : Nat → Option α) (v : Option α) (k : Nat) (f : Tr α → R) : R := Bool.rec (motive := fun _ => R) ((z2 α R k).f n (putV v) fun n' => f ⟨.t2 n', over⟩) (Tr.setK v ⟨.t2 n, over⟩ k f) (Nat.ble 64 k)
noncomputable def wr3 (n : T3 α) (over : Nat → Option α) (v : Option α) (k : Nat) (f : Tr α → R) : R := Bool.rec (motive := fun _ => R) ((z3 α R k).f n (putV v) fun n' => f ⟨.t3 n', over⟩) (Tr.setK v ⟨.t3 n, over⟩ k f) (Nat.ble 512 k)
noncomputable def wr4 (n : T4 α) (over : Nat → Option α) (v : Option α) (k : Nat) (f : Tr α → R) : R := Bool.rec (motive := fun _ => R) ((z4 α R k).f n (putV v) fun n' => f ⟨.t4 n', over⟩) (Tr.setK v ⟨.t4 n, over⟩ k f) (Nat.ble 4096 k)
noncomputable def wr5 (n : T5 α) (over : Nat → Option α) (v : Option α) (k : Nat) (f : Tr α → R) : R := Bool.rec (motive := fun _ => R) ((z5 α R k).f n (putV v) fun n' => f ⟨.t5 n', over⟩) (Tr.setK v ⟨.t5 n, over⟩ k f) (Nat.ble 32768 k)
noncomputable def wr6 (n : T6 α) (over : Nat → Option α) (v : Option α) (k : Nat) (f : Tr α → R) : R := Bool.rec (motive := fun _ => R) ((z6 α R k).f n (putV v) fun n' => f ⟨.t6 n', over⟩) (Tr.setK v ⟨.t6 n, over⟩ k f) (Nat.ble 262144 k)

/-- a write -/
noncomputable def Tr.wr (v : Option α) (t : Tr α) (k : Nat) (f : Tr α → R) : R := Tp.rec (motive := fun _ => (Nat → Option α) → Option α → Nat → (Tr α → R) → R) wr0 wr1 wr2 wr3 wr4 wr5 wr6 t.top t.over v k f

theorem Tr.wr_eq (v : Option α) (t : Tr α) (k : Nat) (f : Tr α → R) : t.wr v k f = f (t.set k v) := by
  rw [← Tr.setK_eq v t k f]
  obtain ⟨top, over⟩ := t
  unfold Tr.wr
  have big : ∀ s, s ≤ 262144 → Nat.ble s k = false → Nat.ble 262144 k = false := fun s hs h => by
    rcases Tr.ble_cases 262144 k with ⟨h1, h2⟩ | ⟨h1, h2⟩
    · rw [Nat.ble_eq_true_of_le (by omega)] at h; cases h
    · exact h1
  cases top with
  | t0 u =>
    simp only [wr0]
    cases hb : Nat.ble 1 k with
    | true => rfl
    | false => simp only [Tr.setK, big 1 (by omega) hb, cond_false, Tr.fit, Tr.f0, hb, Tr.sT]
  | t1 n =>
    simp only [wr1, z1_eq]
    cases hb : Nat.ble 8 k with
    | true => rfl
    | false => simp only [Tr.setK, big 8 (by omega) hb, cond_false, Tr.fit, Tr.f1, hb, Tr.sT]
  | t2 n =>
    simp only [wr2, z2_eq]
    cases hb : Nat.ble 64 k with
    | true => rfl
    | false => simp only [Tr.setK, big 64 (by omega) hb, cond_false, Tr.fit, Tr.f2, hb, Tr.sT]
  | t3 n =>
    simp only [wr3, z3_eq]
    cases hb : Nat.ble 512 k with
    | true => rfl
    | false => simp only [Tr.setK, big 512 (by omega) hb, cond_false, Tr.fit, Tr.f3, hb, Tr.sT]
  | t4 n =>
    simp only [wr4, z4_eq]
    cases hb : Nat.ble 4096 k with
    | true => rfl
    | false => simp only [Tr.setK, big 4096 (by omega) hb, cond_false, Tr.fit, Tr.f4, hb, Tr.sT]
  | t5 n =>
    simp only [wr5, z5_eq]
    cases hb : Nat.ble 32768 k with
    | true => rfl
    | false => simp only [Tr.setK, big 32768 (by omega) hb, cond_false, Tr.fit, Tr.f5, hb, Tr.sT]
  | t6 n =>
    simp only [wr6, z6_eq]
    cases hb : Nat.ble 262144 k with
    | true => rfl
    | false => simp only [Tr.setK, hb, cond_false, Tr.fit, Tr.sT]
end
end Ev
end Go.Proofs.YtodemhmfnokomaaGreatDoor
namespace Go.Proofs.YtodemhmfnokomaaGreatDoor
namespace Ev
open Go

/-- an operation, turned: what follows it is handed in -/
abbrev OC := CallY → YF → Tmps → Heap → (AV → Heap → CRes) → CRes

noncomputable def opK (r : VRes) (k : AV → Heap → CRes) : CRes := VRes.rec (motive := fun _ => (AV → Heap → CRes) → CRes) (fun v h k => k v h) (fun _ => .fail) r k
theorem opK_ok (v : AV) (h : Heap) (k : AV → Heap → CRes) : opK (.ok v h) k = k v h := rfl
theorem opK_fail (k : AV → Heap → CRes) : opK .fail k = .fail := rfl

noncomputable def optK {α : Type} (o : Option α) (f : α → CRes) : CRes := Option.rec (motive := fun _ => (α → CRes) → CRes) (fun _ => .fail) (fun v f => f v) o f
theorem optK_eq {α : Type} (o : Option α) (f : α → CRes) : optK o f = match o with
  | some v => f v
  | none => .fail := by cases o <;> rfl

noncomputable def slotG (t : Nat) : W (Tmps → AV) := Bool.rec (motive := fun _ => W (Tmps → AV)) ⟨fun m => tmpsGet m (pth t)⟩ (stG (stG (stG (p0 Tmps))) t) (Nat.ble (Nat.succ t) 512)
noncomputable def slotS (R : Type) (t : Nat) : W (Tmps → AV → (Tmps → R) → R) :=
  Bool.rec (motive := fun _ => W (Tmps → AV → (Tmps → R) → R)) ⟨fun m v f => tmpsSetK m (pth t) v f⟩ (wK (stS (stS (stS (u0 Tmps R))) t) fun z => ⟨fun m v f => z m (putV v) f⟩) (Nat.ble (Nat.succ t) 512)

theorem pth_lt {t : Nat} (h : t < 512) : pth t = ⟨dg 64 t, dg 8 t, dg 1 t⟩ := by
  unfold pth dg
  have h1 : Nat.mod (Nat.div t 64) 8 = Nat.div t 64 := by show t / 64 % 8 = t / 64; omega
  have h2 : Nat.mod (Nat.div t 1) 8 = Nat.mod t 8 := by show t / 1 % 8 = t % 8; omega
  rw [h1, h2]

theorem slotG_eq (t : Nat) (m : Tmps) : (slotG t).f m = tmpsGet m (pth t) := by
  unfold slotG
  rcases Tr.ble_cases (Nat.succ t) 512 with ⟨h1, h2⟩ | ⟨h1, h2⟩ <;> rw [h1]
  rw [pth_lt h2]
  simp only [stG_eq, p0, dg_div]
  rfl

theorem slotS_eq (R : Type) (t : Nat) (m : Tmps) (v : AV) (f : Tmps → R) : (slotS R t).f m v f = tmpsSetK m (pth t) v f := by
  unfold slotS
  rcases Tr.ble_cases (Nat.succ t) 512 with ⟨h1, h2⟩ | ⟨h1, h2⟩ <;> rw [h1]
  rw [pth_lt h2]
  simp only [wK_eq, stS_eq, u0, dg_div]
  rfl

/-- a value worked out -/
noncomputable def forceA {R : Type} (v : AV) (f : AV → R) : R := AV.rec (motive_1 := fun _ => (AV → R) → R) (motive_2 := fun _ => PUnit) (fun f => f (.any)) (fun b f => f (.bool b)) (fun k n f => f (.nat k n)) (fun k n f => f (.neg k n)) (fun l c f => f (.str l c)) (fun b o f => f (.ptr b o)) (fun g o f => f (.gl g o)) (fun f => f (.nilp)) (fun b o l s u f => f (.sl b o l s u)) (fun f => f (.nils)) (fun b f => f (.map b)) (fun f => f (.nilm)) (fun g x y _ _ f => f (.fn g x y)) (fun f => f (.nilf)) (fun t x _ f => f (.ifc t x)) (fun f => f (.nili)) (fun l _ f => f (.agg l)) (fun l _ f => f (.tup l)) PUnit.unit (fun _ _ _ _ => PUnit.unit) v f
theorem forceA_eq {R : Type} (v : AV) (f : AV → R) : forceA v f = f v := by cases v <;> rfl

noncomputable def natE {R : Type} (v : AV) (f : IntKind → Nat → R) (d : R) : R := AV.rec (motive_1 := fun _ => (IntKind → Nat → R) → R → R) (motive_2 := fun _ => PUnit) (fun _ d => d) (fun _ _ d => d) (fun k n f _ => f k n) (fun _ _ _ d => d) (fun _ _ _ d => d) (fun _ _ _ d => d) (fun _ _ _ d => d) (fun _ d => d) (fun _ _ _ _ _ _ d => d) (fun _ d => d) (fun _ _ d => d) (fun _ d => d) (fun _ _ _ _ _ _ d => d) (fun _ d => d) (fun _ _ _ _ d => d) (fun _ d => d) (fun _ _ _ d => d) (fun _ _ _ d => d) PUnit.unit (fun _ _ _ _ => PUnit.unit) v f d
theorem natE_eq {R : Type} (v : AV) (f : IntKind → Nat → R) (d : R) : natE v f d = match v with
  | .nat k n => f k n
  | _ => d := by cases v <;> rfl
noncomputable def boolE {R : Type} (v : AV) (f : Bool → R) (d : R) : R := AV.rec (motive_1 := fun _ => (Bool → R) → R → R) (motive_2 := fun _ => PUnit) (fun _ d => d) (fun b f _ => f b) (fun _ _ _ d => d) (fun _ _ _ d => d) (fun _ _ _ d => d) (fun _ _ _ d => d) (fun _ _ _ d => d) (fun _ d => d) (fun _ _ _ _ _ _ d => d) (fun _ d => d) (fun _ _ d => d) (fun _ d => d) (fun _ _ _ _ _ _ d => d) (fun _ d => d) (fun _ _ _ _ d => d) (fun _ d => d) (fun _ _ _ d => d) (fun _ _ _ d => d) PUnit.unit (fun _ _ _ _ => PUnit.unit) v f d
theorem boolE_eq {R : Type} (v : AV) (f : Bool → R) (d : R) : boolE v f d = match v with
  | .bool b => f b
  | _ => d := by cases v <;> rfl
noncomputable def ptrE {R : Type} (v : AV) (f : Nat → Nat → R) (e : Nat → Nat → R) (d : R) : R := AV.rec (motive_1 := fun _ => (Nat → Nat → R) → (Nat → Nat → R) → R → R) (motive_2 := fun _ => PUnit) (fun _ _ d => d) (fun _ _ _ d => d) (fun _ _ _ _ d => d) (fun _ _ _ _ d => d) (fun _ _ _ _ d => d) (fun b o f _ _ => f b o) (fun g o _ e _ => e g o) (fun _ _ d => d) (fun _ _ _ _ _ _ _ d => d) (fun _ _ d => d) (fun _ _ _ d => d) (fun _ _ d => d) (fun _ _ _ _ _ _ _ d => d) (fun _ _ d => d) (fun _ _ _ _ _ d => d) (fun _ _ d => d) (fun _ _ _ _ d => d) (fun _ _ _ _ d => d) PUnit.unit (fun _ _ _ _ => PUnit.unit) v f e d
theorem ptrE_eq {R : Type} (v : AV) (f : Nat → Nat → R) (e : Nat → Nat → R) (d : R) : ptrE v f e d = match v with
  | .ptr b o => f b o
  | .gl g o => e g o
  | _ => d := by cases v <;> rfl
noncomputable def slE {R : Type} (v : AV) (f : Nat → Nat → Nat → Nat → Bool → R) (e : R) (d : R) : R := AV.rec (motive_1 := fun _ => (Nat → Nat → Nat → Nat → Bool → R) → R → R → R) (motive_2 := fun _ => PUnit) (fun _ _ d => d) (fun _ _ _ d => d) (fun _ _ _ _ d => d) (fun _ _ _ _ d => d) (fun _ _ _ _ d => d) (fun _ _ _ _ d => d) (fun _ _ _ _ d => d) (fun _ _ d => d) (fun b o l s u f _ _ => f b o l s u) (fun _ e _ => e) (fun _ _ _ d => d) (fun _ _ d => d) (fun _ _ _ _ _ _ _ d => d) (fun _ _ d => d) (fun _ _ _ _ _ d => d) (fun _ _ d => d) (fun _ _ _ _ d => d) (fun _ _ _ _ d => d) PUnit.unit (fun _ _ _ _ => PUnit.unit) v f e d
theorem slE_eq {R : Type} (v : AV) (f : Nat → Nat → Nat → Nat → Bool → R) (e : R) (d : R) : slE v f e d = match v with
  | .sl b o l s u => f b o l s u
  | .nils => e
  | _ => d := by cases v <;> rfl
noncomputable def strE {R : Type} (v : AV) (f : Nat → Nat → R) (d : R) : R := AV.rec (motive_1 := fun _ => (Nat → Nat → R) → R → R) (motive_2 := fun _ => PUnit) (fun _ d => d) (fun _ _ d => d) (fun _ _ _ d => d) (fun _ _ _ d => d) (fun l c f _ => f l c) (fun _ _ _ d => d) (fun _ _ _ d => d) (fun _ d => d) (fun _ _ _ _ _ _ d => d) (fun _ d => d) (fun _ _ d => d) (fun _ d => d) (fun _ _ _ _ _ _ d => d) (fun _ d => d) (fun _ _ _ _ d => d) (fun _ d => d) (fun _ _ _ d => d) (fun _ _ _ d => d) PUnit.unit (fun _ _ _ _ => PUnit.unit) v f d
theorem strE_eq {R : Type} (v : AV) (f : Nat → Nat → R) (d : R) : strE v f d = match v with
  | .str l c => f l c
  | _ => d := by cases v <;> rfl
noncomputable def aggE {R : Type} (v : AV) (f : List AV → R) (d : R) : R := AV.rec (motive_1 := fun _ => (List AV → R) → R → R) (motive_2 := fun _ => PUnit) (fun _ d => d) (fun _ _ d => d) (fun _ _ _ d => d) (fun _ _ _ d => d) (fun _ _ _ d => d) (fun _ _ _ d => d) (fun _ _ _ d => d) (fun _ d => d) (fun _ _ _ _ _ _ d => d) (fun _ d => d) (fun _ _ d => d) (fun _ d => d) (fun _ _ _ _ _ _ d => d) (fun _ d => d) (fun _ _ _ _ d => d) (fun _ d => d) (fun l _ f _ => f l) (fun _ _ _ d => d) PUnit.unit (fun _ _ _ _ => PUnit.unit) v f d
theorem aggE_eq {R : Type} (v : AV) (f : List AV → R) (d : R) : aggE v f d = match v with
  | .agg l => f l
  | _ => d := by cases v <;> rfl
noncomputable def tupE {R : Type} (v : AV) (f : List AV → R) (d : R) : R := AV.rec (motive_1 := fun _ => (List AV → R) → R → R) (motive_2 := fun _ => PUnit) (fun _ d => d) (fun _ _ d => d) (fun _ _ _ d => d) (fun _ _ _ d => d) (fun _ _ _ d => d) (fun _ _ _ d => d) (fun _ _ _ d => d) (fun _ d => d) (fun _ _ _ _ _ _ d => d) (fun _ d => d) (fun _ _ d => d) (fun _ d => d) (fun _ _ _ _ _ _ d => d) (fun _ d => d) (fun _ _ _ _ d => d) (fun _ d => d) (fun _ _ _ d => d) (fun l _ f _ => f l) PUnit.unit (fun _ _ _ _ => PUnit.unit) v f d
theorem tupE_eq {R : Type} (v : AV) (f : List AV → R) (d : R) : tupE v f d = match v with
  | .tup l => f l
  | _ => d := by cases v <;> rfl
noncomputable def fnE {R : Type} (v : AV) (f : Fn → List AV → List AV → R) (d : R) : R := AV.rec (motive_1 := fun _ => (Fn → List AV → List AV → R) → R → R) (motive_2 := fun _ => PUnit) (fun _ d => d) (fun _ _ d => d) (fun _ _ _ d => d) (fun _ _ _ d => d) (fun _ _ _ d => d) (fun _ _ _ d => d) (fun _ _ _ d => d) (fun _ d => d) (fun _ _ _ _ _ _ d => d) (fun _ d => d) (fun _ _ d => d) (fun _ d => d) (fun g x y _ _ f _ => f g x y) (fun _ d => d) (fun _ _ _ _ d => d) (fun _ d => d) (fun _ _ _ d => d) (fun _ _ _ d => d) PUnit.unit (fun _ _ _ _ => PUnit.unit) v f d
theorem fnE_eq {R : Type} (v : AV) (f : Fn → List AV → List AV → R) (d : R) : fnE v f d = match v with
  | .fn g x y => f g x y
  | _ => d := by cases v <;> rfl
noncomputable def gdE {R : Type} (v : AV) (f : Bool → R) (e : R) (d : R) : R := AV.rec (motive_1 := fun _ => (Bool → R) → R → R → R) (motive_2 := fun _ => PUnit) (fun _ _ d => d) (fun b f _ _ => f b) (fun _ _ _ _ d => d) (fun _ _ _ _ d => d) (fun _ _ _ _ d => d) (fun _ _ _ _ d => d) (fun _ _ _ _ d => d) (fun _ _ d => d) (fun _ _ _ _ _ _ _ d => d) (fun _ _ d => d) (fun _ _ _ d => d) (fun _ _ d => d) (fun _ _ _ _ _ _ _ d => d) (fun _ _ d => d) (fun _ _ _ _ _ d => d) (fun _ _ d => d) (fun _ _ _ _ d => d) (fun _ _ _ e _ => e) PUnit.unit (fun _ _ _ _ => PUnit.unit) v f e d
theorem gdE_eq {R : Type} (v : AV) (f : Bool → R) (e : R) (d : R) : gdE v f e d = match v with
  | .bool b => f b
  | .tup _l => e
  | _ => d := by cases v <;> rfl

noncomputable def xO : Operand → W (Tmps → AV)
  | .tmp t => slotG t
  | .const v => forceA (absV v) fun a => ⟨fun _ => a⟩
  | .global g => ⟨fun _ => .gl g 0⟩
  | .func f => ⟨fun _ => .fn (.func f) [] []⟩

theorem xO_eq (x : Operand) (sz : Nat) (m : Tmps) (ds : List ADef) : (xO x).f m = AF.ev ⟨sz, m, ds⟩ x := by
  cases x with
  | tmp t => exact slotG_eq t m
  | const v => simp only [xO, forceA_eq]; rfl
  | _ => rfl

/-- values that operands have -/
noncomputable def xL (l : List Operand) : W (Tmps → List AV) := List.rec (motive := fun _ => W (Tmps → List AV)) ⟨fun _ => []⟩ (fun x _ ih => wK (xO x) fun x => wK ih fun r => ⟨fun m => forceA (x m) fun v => v :: r m⟩) l
theorem xL_eq (l : List Operand) (sz : Nat) (m : Tmps) (ds : List ADef) : (xL l).f m = evL ⟨sz, m, ds⟩ l := by
  induction l with
  | nil => rfl
  | cons x l ih =>
    show (wK (xO x) fun x => wK (xL l) fun r => ⟨fun m => forceA (x m) fun v => v :: r m⟩).f m = _
    simp only [wK_eq, forceA_eq]
    rw [ih, xO_eq x sz m ds]; rfl

noncomputable def nthR {α : Type} (l : List α) : Nat → Option α := List.rec (motive := fun _ => Nat → Option α) (fun _ => none) (fun x _ ih i => Nat.rec (motive := fun _ => Option α) (some x) (fun i _ => ih i) i) l
theorem nthR_eq {α : Type} (l : List α) : ∀ i, nthR l i = nthO l i := by
  induction l with
  | nil => intro i; rfl
  | cons x l ih => intro i; cases i with
    | zero => rfl
    | succ i => exact ih i

noncomputable def lenR {α : Type} (l : List α) : Nat := List.rec (motive := fun _ => Nat → Nat) (fun n => n) (fun _ _ ih n => fN (Nat.succ n) ih) l 0
theorem lenR_eq {α : Type} (l : List α) : lenR l = l.length := by
  have : ∀ (l : List α) n, (List.rec (motive := fun _ => Nat → Nat) (fun n => n) (fun _ _ ih n => fN (Nat.succ n) ih) l n : Nat) = n + l.length := by
    intro l
    induction l with
    | nil => intro n; rfl
    | cons x l ih => intro n; show fN (Nat.succ n) _ = _; rw [fN_eq, ih]; simp; omega
  unfold lenR; rw [this]; omega

/-- cells of a block, n of them -/
noncomputable def rdN (t : Tr AV) (n : Nat) : Nat → Option (List AV) :=
  Nat.rec (motive := fun _ => Nat → Option (List AV)) (fun _ => some []) (fun _ ih i => Option.rec (motive := fun _ => Option (List AV)) none
    (fun v => fN (Nat.succ i) fun i' => Option.rec (motive := fun _ => Option (List AV)) none (fun r => some (v :: r)) (ih i')) (t.rd i)) n
theorem rdN_eq (t : Tr AV) (n : Nat) : ∀ i, rdN t n i = readN t n i := by
  induction n with
  | zero => intro i; rfl
  | succ n ih =>
    intro i
    show Option.rec (motive := fun _ => Option (List AV)) none (fun v => fN (Nat.succ i) fun i' => Option.rec (motive := fun _ => Option (List AV)) none (fun r => some (v :: r)) (rdN t n i')) (t.rd i) = _
    simp only [fN_eq, ih, Tr.rd_eq, readN]
    cases t.get i with
    | none => rfl
    | some v => simp only; cases readN t n (Nat.succ i) <;> rfl

noncomputable def wrN {R : Type} (d : R) (l : List AV) : Nat → Tr AV → (Tr AV → R) → R :=
  List.rec (motive := fun _ => Nat → Tr AV → (Tr AV → R) → R) (fun _ t f => f t) (fun x _ ih i t f => Bool.rec (motive := fun _ => R) d (t.wr (some x) i fun t' => fN (Nat.succ i) fun i' => ih i' t' f) x.one) l
theorem wrN_eq (l : List AV) : ∀ (i : Nat) (t : Tr AV) (g : Tr AV → VRes) (k : AV → Heap → CRes), wrN .fail l i t (fun t' => opK (g t') k) = opK (writeN l i t g) k := by
  induction l with
  | nil => intro i t g k; rfl
  | cons x l ih =>
    intro i t g k
    show Bool.rec (motive := fun _ => CRes) .fail (t.wr (some x) i fun t' => fN (Nat.succ i) fun i' => wrN .fail l i' t' fun t' => opK (g t') k) x.one = _
    simp only [writeN, Tr.wr_eq, fN_eq, ih, Tr.setK_eq]
    cases x.one <;> rfl

noncomputable def mkN {R : Type} (l : List AV) : Nat → Tr AV → (Tr AV → Nat → R) → R :=
  List.rec (motive := fun _ => Nat → Tr AV → (Tr AV → Nat → R) → R) (fun i t f => f t i) (fun x _ ih i t f => t.wr (some x) i fun t' => fN (Nat.succ i) fun i' => ih i' t' f) l
theorem mkN_eq (l : List AV) : ∀ (i : Nat) (t : Tr AV) (g : Tr AV → Nat → VRes) (k : AV → Heap → CRes), mkN l i t (fun t' n => opK (g t' n) k) = opK (trOf l i t g) k := by
  induction l with
  | nil => intro i t g k; rfl
  | cons x l ih =>
    intro i t g k
    show t.wr (some x) i (fun t' => fN (Nat.succ i) fun i' => mkN l i' t' fun t' n => opK (g t' n) k) = _
    simp only [trOf, Tr.wr_eq, fN_eq, ih, Tr.setK_eq]

/-- the tree of a list and its length, as data -/
structure TN where
  t : Tr AV
  n : Nat

noncomputable def tl8 (x0 : AV) (x1 : AV) (x2 : AV) (x3 : AV) (x4 : AV) (x5 : AV) (x6 : AV) (x7 : AV) (l : List AV) : TN := List.rec (motive := fun _ => AV → AV → AV → AV → AV → AV → AV → AV → TN) (fun x0 x1 x2 x3 x4 x5 x6 x7 => ⟨⟨.t1 ⟨some x0, some x1, some x2, some x3, some x4, some x5, some x6, some x7⟩, fun _ => none⟩, 8⟩) (fun y l _ x0 x1 x2 x3 x4 x5 x6 x7 => mkN (x0 :: x1 :: x2 :: x3 :: x4 :: x5 :: x6 :: x7 :: y :: l) 0 .nil TN.mk) l x0 x1 x2 x3 x4 x5 x6 x7
noncomputable def tl7 (x0 : AV) (x1 : AV) (x2 : AV) (x3 : AV) (x4 : AV) (x5 : AV) (x6 : AV) (l : List AV) : TN := List.rec (motive := fun _ => AV → AV → AV → AV → AV → AV → AV → TN) (fun x0 x1 x2 x3 x4 x5 x6 => ⟨⟨.t1 ⟨some x0, some x1, some x2, some x3, some x4, some x5, some x6, none⟩, fun _ => none⟩, 7⟩) (fun y l _ x0 x1 x2 x3 x4 x5 x6 => tl8 x0 x1 x2 x3 x4 x5 x6 y l) l x0 x1 x2 x3 x4 x5 x6
noncomputable def tl6 (x0 : AV) (x1 : AV) (x2 : AV) (x3 : AV) (x4 : AV) (x5 : AV) (l : List AV) : TN := List.rec (motive := fun _ => AV → AV → AV → AV → AV → AV → TN) (fun x0 x1 x2 x3 x4 x5 => ⟨⟨.t1 ⟨some x0, some x1, some x2, some x3, some x4, some x5, none, none⟩, fun _ => none⟩, 6⟩) (fun y l _ x0 x1 x2 x3 x4 x5 => tl7 x0 x1 x2 x3 x4 x5 y l) l x0 x1 x2 x3 x4 x5
noncomputable def tl5 (x0 : AV) (x1 : AV) (x2 : AV) (x3 : AV) (x4 : AV) (l : List AV) : TN := List.rec (motive := fun _ => AV → AV → AV → AV → AV → TN) (fun x0 x1 x2 x3 x4 => ⟨⟨.t1 ⟨some x0, some x1, some x2, some x3, some x4, none, none, none⟩, fun _ => none⟩, 5⟩) (fun y l _ x0 x1 x2 x3 x4 => tl6 x0 x1 x2 x3 x4 y l) l x0 x1 x2 x3 x4
noncomputable def tl4 (x0 : AV) (x1 : AV) (x2 : AV) (x3 : AV) (l : List AV) : TN := List.rec (motive := fun _ => AV → AV → AV → AV → TN) (fun x0 x1 x2 x3 => ⟨⟨.t1 ⟨some x0, some x1, some x2, some x3, none, none, none, none⟩, fun _ => none⟩, 4⟩) (fun y l _ x0 x1 x2 x3 => tl5 x0 x1 x2 x3 y l) l x0 x1 x2 x3
noncomputable def tl3 (x0 : AV) (x1 : AV) (x2 : AV) (l : List AV) : TN := List.rec (motive := fun _ => AV → AV → AV → TN) (fun x0 x1 x2 => ⟨⟨.t1 ⟨some x0, some x1, some x2, none, none, none, none, none⟩, fun _ => none⟩, 3⟩) (fun y l _ x0 x1 x2 => tl4 x0 x1 x2 y l) l x0 x1 x2
noncomputable def tl2 (x0 : AV) (x1 : AV) (l : List AV) : TN := List.rec (motive := fun _ => AV → AV → TN) (fun x0 x1 => ⟨⟨.t1 ⟨some x0, some x1, none, none, none, none, none, none⟩, fun _ => none⟩, 2⟩) (fun y l _ x0 x1 => tl3 x0 x1 y l) l x0 x1
noncomputable def tl1 (x0 : AV) (l : List AV) : TN := List.rec (motive := fun _ => AV → TN) (fun x0 => ⟨⟨.t0 (some x0), fun _ => none⟩, 1⟩) (fun y l _ x0 => tl2 x0 y l) l x0
noncomputable def tl0  (l : List AV) : TN := List.rec (motive := fun _ => TN) ⟨.nil, 0⟩ (fun y l _ => tl1  y l) l 

noncomputable def tnOf (l : List AV) : TN := tl0 l
theorem tnOf_eq (l : List AV) : tnOf l = mkN l 0 .nil TN.mk := by
  match l with
  | [] => rfl
  | [x0] => rfl
  | [x0, x1] => rfl
  | [x0, x1, x2] => rfl
  | [x0, x1, x2, x3] => rfl
  | [x0, x1, x2, x3, x4] => rfl
  | [x0, x1, x2, x3, x4, x5] => rfl
  | [x0, x1, x2, x3, x4, x5, x6] => rfl
  | [x0, x1, x2, x3, x4, x5, x6, x7] => rfl
  | x0 :: x1 :: x2 :: x3 :: x4 :: x5 :: x6 :: x7 :: y :: l => rfl

theorem mkN_pure (l : List AV) : ∀ (i : Nat) (t : Tr AV), ∃ t' n, (∀ (g : Tr AV → Nat → VRes), trOf l i t g = g t' n) ∧ (∀ {R : Type} (f : Tr AV → Nat → R), mkN l i t f = f t' n) := by
  induction l with
  | nil => intro i t; exact ⟨t, i, fun _ => rfl, fun _ => rfl⟩
  | cons x l ih =>
    intro i t
    obtain ⟨t', n, h1, h2⟩ := ih (Nat.succ i) (t.set i (some x))
    refine ⟨t', n, fun g => by simp only [trOf, Tr.setK_eq]; exact h1 g, fun f => ?_⟩
    show t.wr (some x) i (fun t' => fN (Nat.succ i) fun i' => mkN l i' t' f) = _
    rw [Tr.wr_eq, fN_eq]; exact h2 f

/-- a new block, its tree at hand -/
noncomputable def newTN (ty : TypeId) (ex : Bool) (x : TN) (val : Nat → AV) (h : Heap) (k : AV → Heap → CRes) : CRes :=
  TN.rec (motive := fun _ => CRes) (fun t n => Heap.rec (motive := fun _ => CRes) (fun next tr => tr.wr (some (.cells ty n t false ex)) next fun tr' => fN (Nat.succ next) fun next' => k (val next) ⟨next', tr'⟩) h) x

theorem newTN_eq (ty : TypeId) (ex : Bool) (l : List AV) (val : Nat → AV) (h : Heap) (k : AV → Heap → CRes) : newTN ty ex (tnOf l) val h k = opK (newCells ty ex h l fun b h' => .ok (val b) h') k := by
  obtain ⟨t', n, h1, h2⟩ := mkN_pure l 0 .nil
  obtain ⟨next, tr⟩ := h
  unfold newTN
  rw [tnOf_eq, h2]
  simp only [newCells, h1, Tr.setK_eq]
  show tr.wr _ next _ = _
  rw [Tr.wr_eq, fN_eq]
  rfl

end Ev
end Go.Proofs.YtodemhmfnokomaaGreatDoor
namespace Go.Proofs.YtodemhmfnokomaaGreatDoor
namespace Ev
open Go

abbrev Xv := Tmps → AV

section
variable (E : Env)

abbrev BK := TypeId → Nat → Tr AV → Bool → Bool → CRes
noncomputable def cellsB (B : Blk) (f : BK) : CRes := Blk.rec (motive := fun _ => BK → CRes) (fun ty size t ro ex f => f ty size t ro ex) (fun _ _ _ => .fail) (fun _ _ _ _ _ => .fail) (fun _ _ _ _ => .fail) (fun _ _ _ => .fail) (fun _ => .fail) B f
noncomputable def cellsOp (o : Option Blk) (f : BK) : CRes := Option.rec (motive := fun _ => BK → CRes) (fun _ => .fail) cellsB o f

/-- the memory's block b, cells -/
noncomputable def blkK (h : Heap) (b : Nat) (f : BK) : CRes := cellsOp (h.tr.rd b) f

theorem blkK_eq (h : Heap) (b : Nat) (f : BK) : blkK h b f = match h.tr.get b with
    | some (.cells ty size t ro ex) => f ty size t ro ex
    | _ => .fail := by
  simp only [blkK, Tr.rd_eq]
  cases h.tr.get b with
  | none => rfl
  | some B => cases B <;> rfl

noncomputable def ifK (c : Bool) (x : CRes) : CRes := Bool.rec (motive := fun _ => CRes → CRes) (fun _ => .fail) (fun x => x) c x
theorem ifK_eq (c : Bool) (x : CRes) : ifK c x = bif c then x else .fail := by cases c <;> rfl

noncomputable def ld1 (t : TypeId) (x : Xv) : OC := fun _ _ m h k => ptrE (x m)
  (fun b o => blkK h b fun _ size c _ _ => ifK (Nat.ble (Nat.add o 1) size) (optK (c.rd o) fun v => k v h))
  (fun b o => opK (doLoad E.P E.glob t (.gl b o) h) k) .fail

noncomputable def ldN (t : TypeId) (n : Nat) (x : Xv) : OC := fun _ _ m h k => ptrE (x m)
  (fun b o => blkK h b fun _ size c _ _ => ifK (Nat.ble (Nat.add o n) size) (optK (rdN c n o) fun l => k (.agg l) h))
  (fun b o => opK (doLoad E.P E.glob t (.gl b o) h) k) .fail

theorem ld1_eq {t : TypeId} (hg : aggT E.P t = some false) {n : Nat} (hn : szA E.P t = some n) (x : Xv) (callF : CallY) (Y : YF) (m : Tmps) (h : Heap) (k : AV → Heap → CRes) :
    ld1 E t x callF Y m h k = opK (doLoad E.P E.glob t (x m) h) k := by
  unfold ld1 doLoad
  simp only [hg, hn, ptrE_eq]
  cases x m with
  | ptr b o =>
    simp only [blkK_eq, cond_false, cellsAt, Tr.rd_eq, ifK_eq, optK_eq]
    cases h.tr.get b with
    | none => rfl
    | some B => cases B with
      | cells ty size c ro ex =>
        simp only
        cases Nat.ble (Nat.add o 1) size with
        | false => rfl
        | true =>
          simp only [cond_true, readN]
          cases c.get o with
          | none => rfl
          | some v => rfl
      | _ => rfl
  | gl b o => rfl
  | _ => rfl

theorem ldN_eq {t : TypeId} (hg : aggT E.P t = some true) {n : Nat} (hn : szA E.P t = some n) (x : Xv) (callF : CallY) (Y : YF) (m : Tmps) (h : Heap) (k : AV → Heap → CRes) :
    ldN E t n x callF Y m h k = opK (doLoad E.P E.glob t (x m) h) k := by
  unfold ldN doLoad
  simp only [hg, hn, ptrE_eq]
  cases x m with
  | ptr b o =>
    simp only [blkK_eq, cond_true, cellsAt, rdN_eq, ifK_eq, optK_eq]
    cases h.tr.get b with
    | none => rfl
    | some B => cases B with
      | cells ty size c ro ex =>
        simp only
        cases Nat.ble (Nat.add o n) size with
        | false => rfl
        | true =>
          simp only [cond_true]
          cases readN c n o with
          | none => rfl
          | some v => rfl
      | _ => rfl
  | gl b o => rfl
  | _ => rfl

noncomputable def stB (b o n : Nat) (cs : List AV) (h : Heap) (k : AV → Heap → CRes) (ty : TypeId) (size : Nat) (t : Tr AV) (ex : Bool) : CRes :=
  ifK (Nat.ble (Nat.add o n) size) (wrN .fail cs o t fun t' => h.tr.wr (some (.cells ty size t' false ex)) b fun tr' => k undefA ⟨h.next, tr'⟩)

noncomputable def st1 (n : Nat) (x v : Xv) : OC := fun _ _ m h k => ptrE (x m) (fun b o => forceA (v m) fun v => ifK (Nat.beq (lenR v.cells) n)
      (blkK h b fun ty size t ro ex => Bool.rec (motive := fun _ => CRes) (stB b o n v.cells h k ty size t ex) .fail ro)) (fun _ _ => .fail) .fail

theorem st1_eq {t : TypeId} {n : Nat} (hn : szA E.P t = some n) (x v : Xv) (callF : CallY) (Y : YF) (m : Tmps) (h : Heap) (k : AV → Heap → CRes) :
    st1 n x v callF Y m h k = opK (doStore E.P t (x m) (v m) h) k := by
  unfold st1 doStore stB
  simp only [hn, ptrE_eq]
  cases x m with
  | ptr b o =>
    simp only [forceA_eq, lenR_eq, blkK_eq, ifK_eq]
    cases hl : Nat.beq (v m).cells.length n with
    | false => rfl
    | true =>
      have hl' : (v m).cells.length = n := nbeq_iff hl
      simp only [cond_true]
      obtain ⟨next, tr⟩ := h
      simp only [storeAtA]
      cases tr.get b with
      | none => rfl
      | some B => cases B with
        | cells ty size t ro ex =>
          cases ro with
          | true => rfl
          | false =>
            simp only [hl']
            cases Nat.ble (Nat.add o n) size with
            | false => rfl
            | true =>
              simp only [cond_true, Tr.wr_eq]
              rw [← wrN_eq]
              simp only [Tr.setK_eq]
              rfl
        | _ => rfl
  | _ => rfl

noncomputable def faK (off : Nat) (x : Xv) : OC := fun _ _ m h k => ptrE (x m) (fun b o => fN (Nat.add o off) fun o' => k (.ptr b o') h) (fun b o => fN (Nat.add o off) fun o' => k (.gl b o') h) .fail

noncomputable def iaA (len z : Nat) (x i : Xv) : OC := fun _ _ m h k => natE (i m) (fun _ n => ifK (Nat.ble (Nat.succ n) len)
  (ptrE (x m) (fun b o => fN (Nat.add o (Nat.mul n z)) fun o' => k (.ptr b o') h) (fun b o => fN (Nat.add o (Nat.mul n z)) fun o' => k (.gl b o') h) .fail)) .fail

noncomputable def iaS (z : Nat) (x i : Xv) : OC := fun _ _ m h k => natE (i m) (fun _ n => slE (x m)
  (fun b o len sz _ => ifK (Nat.ble (Nat.succ n) len) (ifK (Nat.beq z sz) (fN (Nat.add o (Nat.mul n z)) fun o' => k (.ptr b o') h))) .fail .fail) .fail

noncomputable def ixS (x i : Xv) : OC := fun _ _ m h k => natE (i m) (fun _ n => strE (x m)
  (fun len c => ifK (Nat.ble (Nat.succ n) len) (fN (Nat.mod (Nat.div c (Nat.pow 256 (Nat.sub len (Nat.succ n)))) 256) fun u => k (.nat .u8 u) h)) .fail) .fail

noncomputable def exK (i : Nat) (x : Xv) : OC := fun _ _ m h k => tupE (x m) (fun cs => optK (nthR cs i) fun v => k v h) .fail

noncomputable def kCode (k : IntKind) : Nat := IntKind.rec (motive := fun _ => Nat) 0 1 2 3 4 5 6 7 k
noncomputable def sameK (a b : IntKind) : Bool := Nat.beq (kCode a) (kCode b)
theorem sameK_eq (a b : IntKind) : sameK a b = kEq a b := by cases a <;> cases b <;> rfl
noncomputable def kTop (k : IntKind) : Nat := IntKind.rec (motive := fun _ => Nat) 127 32767 2147483647 9223372036854775807 255 65535 4294967295 18446744073709551615 k
theorem kTop_eq (k : IntKind) : kTop k = kMax k := by cases k <;> rfl

abbrev AK := IntKind → Nat → Nat → Heap → (AV → Heap → CRes) → CRes

noncomputable def orK (c : Bool) (x y : CRes) : CRes := Bool.rec (motive := fun _ => CRes → CRes → CRes) (fun _ y => y) (fun x _ => x) c x y
theorem orK_eq (c : Bool) (x y : CRes) : orK c x y = bif c then x else y := by cases c <;> rfl

noncomputable def slowK (op : BinOp) (ki : IntKind) (a b : Nat) (h : Heap) (k : AV → Heap → CRes) : CRes := opK (pv (natArith op ki a b) h) k

/-- whole numbers of one kind: what most operations of two operands are asked -/
noncomputable def arK (op : BinOp) : AK := match op with
  | .add => fun ki a b h k => fN (Nat.add a b) fun s => orK (Nat.ble s (kTop ki)) (k (.nat ki s) h) (slowK .add ki a b h k)
  | .mul => fun ki a b h k => fN (Nat.mul a b) fun s => orK (Nat.ble s (kTop ki)) (k (.nat ki s) h) (slowK .mul ki a b h k)
  | .sub => fun ki a b h k => orK (Nat.ble b a) (orK (Nat.ble a (kTop ki)) (fN (Nat.sub a b) fun s => k (.nat ki s) h) (slowK .sub ki a b h k)) (slowK .sub ki a b h k)
  | .quo => fun ki a b h k => orK (Nat.beq b 0) .fail (ifK (Nat.ble a (kTop ki)) (fN (Nat.div a b) fun s => k (.nat ki s) h))
  | .rem => fun ki a b h k => orK (Nat.beq b 0) .fail (fN (Nat.mod a b) fun s => k (.nat ki s) h)
  | .and => fun ki a b h k => ifK (Nat.ble a (kTop ki)) (ifK (Nat.ble b (kTop ki)) (fN (Nat.land a b) fun s => k (.nat ki s) h))
  | .or => fun ki a b h k => ifK (Nat.ble a (kTop ki)) (ifK (Nat.ble b (kTop ki)) (fN (Nat.lor a b) fun s => k (.nat ki s) h))
  | .eql => fun _ a b h k => k (.bool (Nat.beq a b)) h
  | .neq => fun _ a b h k => k (.bool (Bool.rec (motive := fun _ => Bool) true false (Nat.beq a b))) h
  | .lss => fun _ a b h k => k (.bool (Nat.ble (Nat.succ a) b)) h
  | .leq => fun _ a b h k => k (.bool (Nat.ble a b)) h
  | .gtr => fun _ a b h k => k (.bool (Nat.ble (Nat.succ b) a)) h
  | .geq => fun _ a b h k => k (.bool (Nat.ble b a)) h
  | op => slowK op

theorem arK_eq (op : BinOp) (ki : IntKind) (a b : Nat) (h : Heap) (k : AV → Heap → CRes) : arK op ki a b h k = opK (pv (natArith op ki a b) h) k := by
  cases op <;> try rfl
  · simp only [arK, natArith, fN_eq, forceN_eq, orK_eq, kTop_eq, slowK]
    cases hb : Nat.ble (Nat.add a b) (kMax ki) <;> rfl
  · simp only [arK, fN_eq, orK_eq, kTop_eq, slowK]
    cases h1 : Nat.ble b a with
    | false => rfl
    | true => cases h2 : Nat.ble a (kMax ki) with
      | false => rfl
      | true => simp only [cond_true, natArith, h1, h2, okNat, forceN_eq]; rfl
  · simp only [arK, natArith, fN_eq, forceN_eq, orK_eq, kTop_eq, slowK]
    cases hb : Nat.ble (Nat.mul a b) (kMax ki) <;> rfl
  · simp only [arK, natArith, fN_eq, orK_eq, ifK_eq, kTop_eq, okNat, forceN_eq]
    cases Nat.beq b 0 <;> cases Nat.ble a (kMax ki) <;> rfl
  · simp only [arK, natArith, fN_eq, orK_eq, okNat, forceN_eq]
    cases Nat.beq b 0 <;> rfl
  · simp only [arK, natArith, fN_eq, ifK_eq, kTop_eq, okNat, forceN_eq]
    cases Nat.ble a (kMax ki) <;> cases Nat.ble b (kMax ki) <;> rfl
  · simp only [arK, natArith, fN_eq, ifK_eq, kTop_eq, okNat, forceN_eq]
    cases Nat.ble a (kMax ki) <;> cases Nat.ble b (kMax ki) <;> rfl
  · simp only [arK, natArith]
    cases Nat.beq a b <;> rfl

def isSh (op : BinOp) : Bool := match op with
  | .shl => true
  | .shr => true
  | _ => false

noncomputable def biK (op : BinOp) (t : TypeId) (ox oy : Operand) (x y : Xv) (ar : AK) : OC := fun _ _ m h k =>
  natE (x m) (fun ki a => natE (y m) (fun kj b => ifK (sameK ki kj) (ar ki a b h k)) (opK (pv (binA E.P op t ox oy (x m) (y m)) h) k)) (opK (pv (binA E.P op t ox oy (x m) (y m)) h) k)

theorem biK_eq (op : BinOp) (hs : isSh op = false) (t : TypeId) (ox oy : Operand) (x y : Xv) (callF : CallY) (Y : YF) (m : Tmps) (h : Heap) (k : AV → Heap → CRes) :
    biK E op t ox oy x y (arK op) callF Y m h k = opK (pv (binA E.P op t ox oy (x m) (y m)) h) k := by
  unfold biK
  simp only [natE_eq]
  cases x m with
  | nat ki a =>
    simp only
    cases y m with
    | nat kj b =>
      simp only [arK_eq, ifK_eq, sameK_eq]
      cases op <;> simp only [isSh, Bool.true_eq_false] at hs <;> simp only [binA] <;> cases kEq ki kj <;> rfl
    | _ => rfl
  | _ => rfl

/-- shifts -/
noncomputable def shK (op : BinOp) (t : TypeId) (ox oy : Operand) (x y : Xv) : OC := fun _ _ m h k =>
  natE (x m) (fun ki a => natE (y m) (fun _ b => opK (pv (shiftA op ki a b) h) k) (opK (pv (binA E.P op t ox oy (x m) (y m)) h) k)) (opK (pv (binA E.P op t ox oy (x m) (y m)) h) k)

theorem shK_eq (op : BinOp) (hs : isSh op = true) (t : TypeId) (ox oy : Operand) (x y : Xv) (callF : CallY) (Y : YF) (m : Tmps) (h : Heap) (k : AV → Heap → CRes) :
    shK E op t ox oy x y callF Y m h k = opK (pv (binA E.P op t ox oy (x m) (y m)) h) k := by
  unfold shK
  simp only [natE_eq]
  cases x m with
  | nat ki a =>
    simp only
    cases y m with
    | nat kj b => cases op <;> simp only [isSh, Bool.false_eq_true] at hs <;> rfl
    | _ => rfl
  | _ => rfl

/-- whole numbers turned into another kind -/
noncomputable def cvK (s d : TypeId) (kd : IntKind) (x : Xv) : OC := fun _ _ m h k => natE (x m) (fun _ n => orK (Nat.ble n (kTop kd)) (k (.nat kd n) h) (opK (doConvert E.P s d (x m) h) k)) (opK (doConvert E.P s d (x m) h) k)

theorem cvK_eq {s d : TypeId} {ks kd : IntKind} (h1 : E.P.underlying s = some (.int ks)) (h2 : E.P.underlying d = some (.int kd)) (x : Xv) (callF : CallY) (Y : YF) (m : Tmps) (h : Heap) (k : AV → Heap → CRes) :
    cvK E s d kd x callF Y m h k = opK (doConvert E.P s d (x m) h) k := by
  unfold cvK
  simp only [natE_eq, orK_eq, kTop_eq]
  cases x m with
  | nat ki n =>
    simp only [doConvert, h1, h2]
    cases Nat.ble n (kMax kd) <;> rfl
  | _ => rfl

end
end Ev
end Go.Proofs.YtodemhmfnokomaaGreatDoor
namespace Go.Proofs.YtodemhmfnokomaaGreatDoor
namespace Ev
open Go

noncomputable def appR {α : Type} (l r : List α) : List α := List.rec (motive := fun _ => List α) r (fun x _ ih => x :: ih) l
theorem appR_eq {α : Type} (l r : List α) : appR l r = l ++ r := by
  induction l with
  | nil => rfl
  | cons x l ih => show x :: appR l r = _; rw [ih]; rfl

noncomputable def onesR (l : List AV) : Bool := List.rec (motive := fun _ => Bool) true (fun x _ ih => Bool.rec (motive := fun _ => Bool) false ih x.one) l
theorem onesR_eq (l : List AV) : onesR l = oneAll l := by
  induction l with
  | nil => rfl
  | cons x l ih => show Bool.rec (motive := fun _ => Bool) false (onesR l) x.one = _; rw [ih, oneAll]; cases x.one <;> rfl

section
variable (E : Env)

/-- the elements that append takes -/
noncomputable def srcK (size : Nat) (x : AV) (h : Heap) (f : Nat → List AV → CRes) : CRes := slE x
  (fun b o len sz _ => ifK (Nat.beq sz size) (fN (Nat.mul len size) fun mm => blkK h b fun _ size0 t _ _ => ifK (Nat.ble (Nat.add o mm) size0) (optK (rdN t mm o) fun l => f len l)))
  (f 0 []) (optK (srcAny h size x) fun p => f p.1 p.2)

theorem srcK_eq (size : Nat) (x : AV) (h : Heap) (f : Nat → List AV → CRes) : srcK size x h f = match srcAny h size x with
    | some (n, l) => f n l
    | none => .fail := by
  have gen : ∀ r : Option (Nat × List AV), (match r with | some v => f v.1 v.2 | none => CRes.fail) = (match r with | some (n, l) => f n l | none => CRes.fail) := fun r => by cases r <;> rfl
  unfold srcK
  simp only [slE_eq, optK_eq, ifK_eq]
  cases x with
  | nils => rfl
  | sl b o len sz u =>
    simp only [fN_eq, blkK_eq, rdN_eq, srcAny, srcCells, cellsAt]
    cases Nat.beq sz size with
    | false => rfl
    | true =>
      simp only [cond_true]
      cases h.tr.get b with
      | none => rfl
      | some B => cases B with
        | cells ty size0 t ro ex =>
          simp only
          cases Nat.ble (Nat.add o (Nat.mul len size)) size0 with
          | false => rfl
          | true =>
            simp only [cond_true]
            cases readN t (Nat.mul len size) o <;> rfl
        | _ => rfl
  | _ => simp only []; split <;> simp only [*]

noncomputable def onB (e b m m' len' size : Nat) (new : List AV) (h : Heap) (k : AV → Heap → CRes) (t : Tr AV) : CRes :=
  wrN .fail new m t fun t' => h.tr.wr none b fun tr1 => tr1.wr (some (.cells e m' t' false false)) h.next fun tr2 => fN (Nat.succ h.next) fun next' => k (.sl h.next 0 len' size false) ⟨next', tr2⟩

noncomputable def onK (e b o m m' len' size : Nat) (new : List AV) (h : Heap) (k : AV → Heap → CRes) : CRes :=
  orK (Nat.beq o 0) (blkK h b fun ty sz0 t ro _ => orK ro .fail (ifK (Nat.beq ty e) (ifK (Nat.ble m sz0) (onB e b m m' len' size new h k t))))
    (opK (appendOn e b o m m' len' size new h) k)

theorem onK_eq (e b o m m' len' size : Nat) (new : List AV) (h : Heap) (k : AV → Heap → CRes) : onK e b o m m' len' size new h k = opK (appendOn e b o m m' len' size new h) k := by
  unfold onK
  simp only [orK_eq, ifK_eq]
  cases o with
  | succ o => rfl
  | zero =>
    obtain ⟨next, tr⟩ := h
    simp only [blkK_eq, appendOn, onB]
    cases tr.get b with
    | none => rfl
    | some B => cases B with
      | cells ty sz0 t ro ex =>
        cases ro with
        | true => rfl
        | false =>
          have hz : Nat.add 0 m = m := Nat.zero_add m
          have h0 : Nat.beq 0 0 = true := rfl
          simp only [hz, h0, Tr.wr_eq, fN_eq, cond_true, cond_false]
          cases Nat.beq ty e with
          | false => rfl
          | true => cases Nat.ble m sz0 with
            | false => rfl
            | true =>
              simp only [Bool.and_self, cond_true, Tr.setK_eq]
              exact wrN_eq new m t (fun t' => .ok (.sl next 0 len' size false) ⟨Nat.succ next, (tr.set b none).set next (some (.cells e m' t' false false))⟩) k
      | _ => rfl

noncomputable def apF (e size : Nat) (i : TypeInfo) (h : Heap) (k : AV → Heap → CRes) (n : Nat) (new : List AV) (b o len sz : Nat) (full : Bool) : CRes :=
  ifK (Nat.beq sz size) (ifK (Nat.ble (Nat.mul len (Nat.add i.bytes 1)) 1099511627776) (orK (Nat.beq n 0) (k (.sl b o len sz full) h)
    (orK full (opK (match cellsAt h b o (Nat.mul len size) with
             | some old => forceN (Nat.add len n) fun len' => newCells e false h (old ++ new) fun b' h' => .ok (.sl b' 0 len' size false) h'
             | none => .fail) k)
      (fN (Nat.mul len size) fun m => fN (Nat.add len n) fun len' => fN (Nat.mul len' size) fun m' => onK e b o m m' len' size new h k))))

noncomputable def apS (e size : Nat) (z : List AV) (i : TypeInfo) (s x : AV) (h : Heap) (k : AV → Heap → CRes) : CRes :=
  srcK size x h fun n new => ifK (Nat.beq (lenR z) size) (ifK (onesR new) (ifK (Nat.ble (Nat.mul n (Nat.add i.bytes 1)) 1099511627776)
    (slE s (apF e size i h k n new) (orK (Nat.beq n 0) (k .nils h) (newTN e false (tnOf new) (fun b => .sl b 0 n size false) h k)) .fail)))

theorem apS_eq {e size : Nat} {z : List AV} {i : TypeInfo} (h1 : szA E.P e = some size) (h2 : zeroA E.P e = some z) (h3 : E.P.info? e = some i) (s x : AV) (h : Heap) (k : AV → Heap → CRes) :
    apS e size z i s x h k = opK (doAppendS E.P e s x h) k := by
  unfold apS doAppendS
  simp only [h1, h2, h3, srcK_eq, onesR_eq, lenR_eq, ifK_eq, orK_eq, slE_eq, apF]
  cases srcAny h size x with
  | none => rfl
  | some p =>
    obtain ⟨n, new⟩ := p
    simp only
    cases Nat.beq z.length size with
    | false => rfl
    | true => cases oneAll new with
      | false => rfl
      | true => cases Nat.ble (Nat.mul n (Nat.add i.bytes 1)) 1099511627776 with
        | false => rfl
        | true =>
          simp only [Bool.and_self, cond_true]
          cases s with
          | nils => simp only [newTN_eq]; cases Nat.beq n 0 <;> rfl
          | sl b o len sz full =>
            simp only
            cases Nat.beq sz size with
            | false => rfl
            | true => cases Nat.ble (Nat.mul len (Nat.add i.bytes 1)) 1099511627776 with
              | false => rfl
              | true =>
                simp only [Bool.and_self, cond_true]
                cases Nat.beq n 0 with
                | true => rfl
                | false =>
                  simp only [cond_false, fN_eq, onK_eq, forceN_eq]
                  cases full <;> rfl
          | _ => rfl

noncomputable def fixK (r : VRes) : W OC := ⟨fun _ _ _ _ k => opK r k⟩
def failK : W OC := ⟨fun _ _ _ _ _ => .fail⟩

noncomputable def apK (ats : List TypeId) (s x : Xv) : W OC := match ats with
  | [st, xt] => (match E.P.underlying st, E.P.underlying xt with
    | some (.slice e), some (.slice _) => (match szA E.P e, zeroA E.P e, E.P.info? e with
      | some size, some z, some i => ⟨fun _ _ m h k => apS e size z i (s m) (x m) h k⟩
      | _, _, _ => failK)
    | _, _ => ⟨fun _ _ m h k => opK (doAppend E.P [st, xt] (s m) (x m) h) k⟩)
  | _ => failK

theorem apK_eq (ats : List TypeId) (s x : Xv) (callF : CallY) (Y : YF) (m : Tmps) (h : Heap) (k : AV → Heap → CRes) : (apK E ats s x).f callF Y m h k = opK (doAppend E.P ats (s m) (x m) h) k := by
  match ats with
  | [] => rfl
  | [_] => rfl
  | _ :: _ :: _ :: _ => rfl
  | [st, xt] =>
    have slow : opK (doAppend E.P [st, xt] (s m) (x m) h) k = opK (doAppend E.P [st, xt] (s m) (x m) h) k := rfl
    simp only [apK]
    cases hs : E.P.underlying st with
    | none => rfl
    | some D => cases D with
      | slice e => cases hx : E.P.underlying xt with
        | none => rfl
        | some D' => cases D' with
          | slice e' =>
            have : doAppend E.P [st, xt] (s m) (x m) h = doAppendS E.P e (s m) (x m) h := by simp only [doAppend, hs, hx]
            rw [this]
            simp only
            cases h1 : szA E.P e with
            | none => simp only [doAppendS, h1]; rfl
            | some size => cases h2 : zeroA E.P e with
              | none => simp only [doAppendS, h1, h2]; rfl
              | some z => cases h3 : E.P.info? e with
                | none => simp only [doAppendS, h1, h2, h3]; rfl
                | some i => exact apS_eq E h1 h2 h3 _ _ h k
          | _ => rfl
      | _ => rfl

noncomputable def lnK (ats : List TypeId) (x : Xv) : W OC := match ats with
  | t :: _ => (match E.P.underlying t with
    | some .string => ⟨fun _ _ m h k => strE (x m) (fun n _ => k (.nat .i64 n) h) .fail⟩
    | some (.slice _) => ⟨fun _ _ m h k => slE (x m) (fun _ _ n _ _ => k (.nat .i64 n) h) (k (.nat .i64 0) h) .fail⟩
    | _ => ⟨fun _ _ m h k => opK (pv (doLen E.P ats (x m) h) h) k⟩)
  | _ => failK

theorem lnK_eq (ats : List TypeId) (x : Xv) (callF : CallY) (Y : YF) (m : Tmps) (h : Heap) (k : AV → Heap → CRes) : (lnK E ats x).f callF Y m h k = opK (pv (doLen E.P ats (x m) h) h) k := by
  match ats with
  | [] => rfl
  | t :: ats =>
    simp only [lnK]
    split
    · rename_i hu; simp only [doLen, hu, strE_eq]; cases x m <;> rfl
    · rename_i e hu; simp only [doLen, hu, slE_eq]; cases x m <;> rfl
    · rfl

noncomputable def buK (b : Builtin) (ats : List TypeId) (args : List Operand) : W OC := match b, args with
  | .append, [s, x] => wK (xO s) fun s => wK (xO x) fun x => apK E ats s x
  | .len, [x] => wK (xO x) fun x => lnK E ats x
  | b, args => wK (xL args) fun as => ⟨fun _ _ m h k => opK (doBuiltin E.P b ats (as m) h) k⟩

theorem buK_eq (b : Builtin) (ats : List TypeId) (args : List Operand) (callF : CallY) (Y : YF) (sz : Nat) (m : Tmps) (ds : List ADef) (h : Heap) (k : AV → Heap → CRes) :
    (buK E b ats args).f callF Y m h k = opK (doBuiltin E.P b ats (evL ⟨sz, m, ds⟩ args) h) k := by
  unfold buK
  split
  · rename_i s x
    simp only [wK_eq]
    rw [apK_eq, xO_eq s sz m ds, xO_eq x sz m ds]; rfl
  · rename_i x
    simp only [wK_eq]
    rw [lnK_eq, xO_eq x sz m ds]; rfl
  · simp only [wK_eq]; rw [← xL_eq args sz m ds]

noncomputable def caF (callF : CallY) (Y : YF) (as : List AV) (h : Heap) (g : Fn) (first captured : List AV) : VRes := match g with
  | .func g => callF Y g (appR first (appR as captured)) h
  | .yield l => (match first, captured with
    | [], [] => Y l as h
    | _, _ => .fail)
  | _ => .fail

noncomputable def caK (x : Xv) (as : Tmps → List AV) : OC := fun callF Y m h k => fnE (x m) (fun g first captured => opK (caF callF Y (as m) h g first captured) k) .fail

theorem caK_eq (x : Xv) (as : Tmps → List AV) (callF : CallY) (Y : YF) (m : Tmps) (h : Heap) (k : AV → Heap → CRes) : caK x as callF Y m h k = opK (doCallV callF Y (x m) (as m) h) k := by
  unfold caK doCallV
  simp only [fnE_eq]
  cases x m with
  | fn g first captured =>
    cases g with
    | func g => simp only [caF, appR_eq, List.append_assoc]
    | yield l => cases first <;> cases captured <;> rfl
    | _ => rfl
  | _ => rfl

noncomputable def xOo (x : Option Operand) : W (Tmps → Option AV) := match x with
  | none => ⟨fun _ => none⟩
  | some x => wK (xO x) fun x => ⟨fun m => some (x m)⟩
theorem xOo_eq (x : Option Operand) (sz : Nat) (m : Tmps) (ds : List ADef) : (xOo x).f m = evO ⟨sz, m, ds⟩ x := by
  cases x with
  | none => rfl
  | some x => simp only [xOo, evO, wK_eq, xO_eq x sz m ds]

noncomputable def xPs (l : List (Nat × Operand)) : W (Tmps → List (Nat × AV)) := List.rec (motive := fun _ => W (Tmps → List (Nat × AV))) ⟨fun _ => []⟩ (fun x _ ih => wK (xO x.2) fun g => wK ih fun r => ⟨fun m => forceA (g m) fun v => (x.1, v) :: r m⟩) l
theorem xPs_eq (l : List (Nat × Operand)) (sz : Nat) (m : Tmps) (ds : List ADef) : (xPs l).f m = evP ⟨sz, m, ds⟩ l := by
  induction l with
  | nil => rfl
  | cons x l ih =>
    obtain ⟨i, x⟩ := x
    show (wK (xO x) fun g => wK (xPs l) fun r => ⟨fun m => forceA (g m) fun v => (i, v) :: r m⟩).f m = _
    simp only [wK_eq, forceA_eq]
    rw [ih, xO_eq x sz m ds]; rfl

end
end Ev
end Go.Proofs.YtodemhmfnokomaaGreatDoor
