/- Operations with memory are right, second part. Conditions: none. -/
import Derived.Test.YtodemhmfnokomaaGreatDoorEvE
import Derived.Deep.AppendSrc
import Derived.Deep.Upon
import Derived.Laws.RangeString
import Derived.Laws.IdiomStrings
import Derived.Laws.BytesString
namespace Go.Proofs.YtodemhmfnokomaaGreatDoor
namespace Ev
open Go

theorem strCells_spec : ∀ (n : Nat) (l : List UInt8) (acc : List AV), l.length = n → strCells n (strCode l) acc = l.map (fun b => AV.nat .u8 b.toNat) ++ acc
  | 0, l, acc, h => by rw [List.eq_nil_of_length_eq_zero h]; rfl
  | n + 1, l, acc, h => by
    obtain ⟨l0, b, rfl⟩ : ∃ l0 b, l = l0 ++ [b] := ⟨l.dropLast, l.getLast (by intro e; rw [e] at h; simp at h), (List.dropLast_concat_getLast _).symm⟩
    have h0 : l0.length = n := by simpa using h
    have e1 : Nat.mod (strCode (l0 ++ [b])) 256 = b.toNat := by
      have := strCode_mod l0 [b]
      rw [strCode_cons, strCode_nil] at this
      simp only [List.length_cons, List.length_nil, Nat.zero_add, Nat.pow_zero, Nat.mul_one, Nat.add_zero] at this
      exact this
    have e2 : Nat.div (strCode (l0 ++ [b])) 256 = strCode l0 := by
      have := strCode_div l0 [b]
      simp only [List.length_cons, List.length_nil, Nat.zero_add] at this
      exact this
    simp only [strCells]
    rw [forceN_eq, e1, e2, strCells_spec n l0 _ h0]
    simp

theorem bytes_rel (ι : Inj) (l : List UInt8) : VRels ι (l.map (fun b => AV.nat .u8 b.toNat)) (l.map (fun b => Value.int .u8 b.toNat)) := by
  induction l with
  | nil => exact .nil _
  | cons b l ih => exact .cons (VRel.ofNat _ _ _) ih

section
variable {E : Env} {base : Nat} {ι : Inj} {h : Heap} {w : World}

theorem firstCells_slice {P : Program} {size n : Nat} {a : Addr} {len c : Nat} {vs : List Value} (hl : vs.length = n * size) (hc : ∀ j v, vs[j]? = some v → w.cell? (a.add j) = some v) :
    (Builtin.firstCells size n (.slice (some a) len c)).run P w = .ok vs.toArray w := by
  simp only [Builtin.firstCells]
  rw [← hl]
  exact run_loadCells_list w a vs hc

theorem slice_cells (H : HRel E base ι h w) {b o len sz n : Nat} {full : Bool} {l : List AV} {x' : Value} (hx : VRel ι (.sl b o len sz full) x') (hn : n ≤ len * sz) (hl : cellsAt h b o n = some l) :
    ∃ a c vs, x' = .slice (some a) len c ∧ VRels ι l vs ∧ vs.length = n ∧ ∀ j v, vs[j]? = some v → w.cell? (a.add j) = some v := by
  simp only [VRel] at hx
  obtain ⟨a, c, g, rfl, h1, h2, hg, h3⟩ := hx
  obtain ⟨vs, r1, r2, r3⟩ := cellsAt_rel H hl hg
  refine ⟨a, c, vs, rfl, r1, r2, fun j v e => ?_⟩
  rcases h3 with h3 | ⟨rfl, _⟩
  · exfalso
    have : len * sz = 0 := by rw [show len = 0 by omega, Nat.zero_mul]
    have := (List.getElem?_eq_some_iff.1 e).1
    omega
  · rw [addr_add]; exact r3 j v e

/-- what append and copy take out of their second operand -/
theorem srcAny_ok (H : HRel E base ι h w) {size n : Nat} {x : AV} {x' : Value} {new : List AV} (hs : srcAny h size x = some (n, new)) (hx : VRel ι x x') :
    ∃ vs, VRels ι new vs ∧ vs.length = n * size ∧ ∀ w1 : World, w1.heap = w.heap → (Builtin.lenOf x').run E.P w1 = .ok n w1 ∧ (Builtin.firstCells size n x').run E.P w1 = .ok vs.toArray w1 ∧ ∀ m, m ≤ n → (Builtin.firstCells size m x').run E.P w1 = .ok (vs.take (m * size)).toArray w1 := by
  unfold srcAny at hs
  split at hs
  · rename_i len c
    cases hb : Nat.beq size 1 <;> rw [hb] at hs <;> simp only [cond_true, cond_false, reduceCtorEq] at hs
    obtain rfl := nbeq_iff hb
    cases hs
    obtain ⟨s, rfl, rfl, rfl⟩ := hx.str_inv
    refine ⟨byteCells s, ?_, by rw [byteCells_length, Nat.mul_one], fun w1 _ => ⟨rfl, firstCells_string s w1, fun m hm => ?_⟩⟩
    · rw [strCells_spec _ _ _ (size_len s), List.append_nil]; exact bytes_rel ι _
    · simp only [Builtin.firstCells, Sem.run_pure]
      congr 1
      apply Array.toList_inj.1
      rw [ByteArray.data_extract]
      simp [byteCells]
  · unfold srcCells at hs
    split at hs
    · cases hs
      simp only [VRel] at hx; subst hx
      exact ⟨[], .nil _, by simp, fun w1 _ => ⟨rfl, rfl, fun m _ => by simp [Builtin.firstCells]⟩⟩
    · rename_i b o len sz full _
      cases hb : Nat.beq sz size <;> rw [hb] at hs <;> simp only [cond_true, cond_false, reduceCtorEq] at hs
      obtain rfl := nbeq_iff hb
      split at hs
      · rename_i l hl
        cases hs
        obtain ⟨a, c, vs, rfl, r1, r2, r3⟩ := slice_cells H hx (Nat.le_refl _) hl
        refine ⟨vs, r1, r2, fun w1 h1 => ⟨rfl, firstCells_slice r2 fun j v e => by rw [← r3 j v e]; unfold World.cell?; rw [h1], fun m hm => firstCells_slice ?_ fun j v e => ?_⟩⟩
        · rw [List.length_take, r2]; exact Nat.min_eq_left (Nat.mul_le_mul_right _ hm)
        · rw [List.getElem?_take] at e
          split at e
          · rw [← r3 j v e]; unfold World.cell?; rw [h1]
          · cases e
      · cases hs
    · cases hs

theorem oneAll_spec : ∀ {l : List AV}, oneAll l = true → ∀ x ∈ l, x.one = true
  | [], _, x, hx => by cases hx
  | y :: l, h, x, hx => by
    simp only [oneAll, Bool.and_eq_true] at h
    rcases List.mem_cons.1 hx with rfl | hx
    · exact h.1
    · exact oneAll_spec h.2 x hx

theorem ones_rel {l : List AV} {vs : List Value} (h : VRels ι l vs) (ho : ∀ x ∈ l, x.one = true) : ∀ u ∈ vs, u.oneCell' = true := by
  intro u hu
  obtain ⟨i, hi, rfl⟩ := List.getElem_of_mem hu
  have hlen := h.length
  have hil : i < l.length := by omega
  obtain ⟨u', hu', r⟩ := h.get i l[i] (List.getElem?_eq_getElem hil)
  rw [List.getElem?_eq_getElem hi] at hu'; cases hu'
  exact one_rel (ho _ (List.getElem_mem _)) r

theorem src_of {P : Program} {size n : Nat} {xt : TypeId} {x' : Value} {vs : List Value} (hk : (∃ e', P.underlying xt = some (.slice e')) ∨ P.underlying xt = some .string) (hl : vs.length = n * size) (h1 : ∀ u ∈ vs, u.oneCell' = true)
    (hr : ∀ w1 : World, w1.heap = w.heap → (Builtin.lenOf x').run P w1 = .ok n w1 ∧ (Builtin.firstCells size n x').run P w1 = .ok vs.toArray w1) : Src P size xt x' n vs w where
  kind := hk
  len w' := by
    have h0 := (hr w rfl).1
    cases x' <;> simp only [Builtin.lenOf, run_stuck, reduceCtorEq, Sem.run_pure, Result.ok.injEq, and_true] at h0 ⊢ <;> exact h0
  cells := (hr w rfl).2
  cellsD := (hr w.drew rfl).2
  newsLen := hl
  one := h1

theorem zero_some {P : Program} {e : TypeId} {z : List AV} {i : TypeInfo} (hz : zeroA P e = some z) (hi : P.info? e = some i) : ∃ zv, i.zero = some zv := by
  unfold zeroA at hz
  rw [hi] at hz
  cases hzv : i.zero with
  | none => simp only [hzv] at hz; cases hz
  | some zv => exact ⟨zv, rfl⟩

theorem fits {need old bytes : Nat} (h : old < need) (hb : need * bytes ≤ 140737488355328) : Builtin.nextslicecap need old * bytes ≤ 281474976710656 := growslice_fits h hb

/-- the zero value has the size of its type (asked of the two tables where it is needed) -/
theorem zeroCells_size (z : Array Value) (n : Nat) : (Builtin.zeroCells z n).size = n * z.size := size_zeroCells z n

theorem getElem?_append_list {l : List Value} {A : Array Value} {i : Nat} {v : Value} (h : l[i]? = some v) : (l.toArray ++ A)[i]? = some v := by
  have hlt := (List.getElem?_eq_some_iff.1 h).1
  rw [Array.getElem?_append_left (by simpa using hlt)]
  simpa using h

theorem doAppendS_ok (H : HRel E base ι h w) {st xt ty e : TypeId} {s x : AV} {s' x' : Value} {v : AV} {h' : Heap} (hd : doAppendS E.P e s x h = .ok v h') (hf : Free ι h.next h'.next) (hs : VRel ι s s') (hx : VRel ι x x')
    (hu : E.P.underlying st = some (.slice e)) (hk : (∃ e', E.P.underlying xt = some (.slice e')) ∨ E.P.underlying xt = some .string) :
    ∃ ι' v' w', Stp E base ι h w ι' h' w' ∧ VRel ι' v v' ∧ (Builtin.append_ #[st, xt] ty #[s', x']).run E.P w = .ok v' w' := by
  unfold doAppendS at hd
  split at hd
  · rename_i size z i hsz hz hi
    have hisz : i.size = size := by unfold szA at hsz; rw [hi] at hsz; simpa using hsz
    obtain ⟨zv, hzv⟩ := zero_some hz hi
    split at hd
    · rename_i n new hsrc
      cases hb : (Nat.beq z.length size && oneAll new && Nat.ble (Nat.mul n (Nat.add i.bytes 1)) 1099511627776) <;> rw [hb] at hd <;> simp only [cond_true, cond_false, reduceCtorEq] at hd
      rw [Bool.and_eq_true, Bool.and_eq_true] at hb
      have hone := oneAll_spec hb.1.2
      have hzsz : zv.cells.size = size := by
        obtain ⟨z', hz1, hz2⟩ := zeroA_run hz ι
        have h2 := hz2 w
        simp only [zeroValue, typeInfo, Sem.run_bind, run_program, Result.andThen_ok, hi, Sem.run_pure, hzv, Result.ok.injEq, and_true] at h2
        subst h2
        have := hz1.length
        simp only [Array.length_toList] at this
        rw [this]; exact nbeq_iff hb.1.1
      have hn := ble_true hb.2
      simp only [Nat.mul_eq, Nat.add_eq, Nat.mul_add, Nat.mul_one] at hn
      obtain ⟨vs, hv, hvl, hrun⟩ := srcAny_ok H hsrc hx
      have hS : Src E.P i.size xt x' n vs w := src_of hk (by rw [hisz]; exact hvl) (ones_rel hv hone) (fun w1 h1 => by rw [hisz]; exact ⟨(hrun w1 h1).1, (hrun w1 h1).2.1⟩)
      have hnewl : new.length = n * size := by rw [← hv.length]; exact hvl
      -- a new row out of olds and news
      have grow : ∀ (bs : Option Addr) (sLen sCap : Nat) (old : List AV) (olds : List Value) (h0 : Heap) (f : Nat → Heap → VRes), HRel E base ι h0 w → Stp E base ι h w ι h0 w → h0.next = h.next → VRels ι old olds → olds.length = sLen * size →
          (∀ w1 : World, w1.heap = w.heap → (Builtin.firstCells size sLen (.slice bs sLen sCap)).run E.P w1 = .ok olds.toArray w1) → sCap < sLen + n → sLen * i.bytes + sLen ≤ 1099511627776 → ι h.next = none →
          ∃ tr' g c, newCells e false h0 (old ++ new) f = f h.next ⟨h.next + 1, tr'⟩ ∧ Stp E base ι h w (ι.upd h.next g) ⟨h.next + 1, tr'⟩ (w.drew.alloc (.cells ((olds ++ vs).toArray ++ Builtin.zeroCells zv.cells (grownCap w (sLen + n) sCap e - (sLen + n))) e)) ∧
            g.cb = w.heap.size ∧ g.co = 0 ∧ c = grownCap w (sLen + n) sCap e ∧ sLen + n ≤ c ∧ g.cs = ((olds ++ vs).toArray ++ Builtin.zeroCells zv.cells (c - (sLen + n))).size ∧
            (Builtin.append_ #[st, xt] ty #[.slice bs sLen sCap, x']).run E.P w = .ok (.slice (some ⟨w.heap.size, 0, none⟩) (sLen + n) c) (w.drew.alloc (.cells ((olds ++ vs).toArray ++ Builtin.zeroCells zv.cells (c - (sLen + n))) e)) := by
        intro bs sLen sCap old olds h0 f H0 S0 hnx hold holdl hfirst hlt hbytes hfr
        have hr := run_append_grow_src (P := E.P) w st xt ty e i zv hu hi hzv bs sLen sCap olds (by rw [hisz]; exact hfirst w.drew rfl) x' n vs hS hlt (by omega) (fits hlt (by rw [Nat.add_mul]; omega))
        have hge := grownCap_ge w (sLen + n) sCap e
        have hrel : VRels ι (old ++ new) (olds ++ vs) := hold.append hv
        have hl2 := hrel.length
        obtain ⟨tr', k1, k2⟩ := newCells_ok H0 (ty := e) (ex := false) (l := old ++ new) (f := f) (by rw [hnx]; exact hfr)
          (C := (olds ++ vs).toArray ++ Builtin.zeroCells zv.cells (grownCap w (sLen + n) sCap e - (sLen + n)))
          (fun j a ea => by obtain ⟨u, hu', r⟩ := hrel.get j a ea; exact ⟨u, getElem?_append_list hu', r⟩) (by simp only [Array.size_append, List.size_toArray]; omega) (fun e => by cases e)
          (w' := w.drew.alloc (.cells ((olds ++ vs).toArray ++ Builtin.zeroCells zv.cells (grownCap w (sLen + n) sCap e - (sLen + n))) e)) rfl rfl rfl rfl
        rw [hnx] at k1 k2
        exact ⟨tr', _, _, k1, S0.trans k2, rfl, rfl, rfl, hge, rfl, hr⟩
      split at hd
      · -- nil
        simp only [VRel] at hs; subst hs
        cases hb0 : Nat.beq n 0 <;> rw [hb0] at hd <;> simp only [cond_true, cond_false] at hd
        · have hn0 := nbeq_ne hb0
          have hfr := hf h.next (Nat.le_refl _) (newCells_next hd).1
          obtain ⟨tr', g, c, k1, k2, k3, k4, k5, k6, k7, k8⟩ := grow none 0 0 [] [] h (fun b h' => .ok (.sl b 0 n size false) h') H (Stp.refl H) rfl (.nil _) (by simp) (fun w1 _ => rfl) (by omega) (by simp) hfr
          rw [List.nil_append] at k1
          rw [k1] at hd; cases hd
          rw [← k5] at k2
          refine ⟨_, _, _, k2, ?_, k8⟩
          simp only [VRel]
          refine ⟨_, c, g, by rw [Nat.zero_add], by omega, (fun e => by cases e), Inj.upd_same _ _ _, .inr ⟨by rw [k3, k4], ?_⟩⟩
          rw [k7, k4]
          simp only [Array.size_append, List.size_toArray, List.nil_append, zeroCells_size, hzsz, hvl, Nat.zero_add, Nat.add_zero]
          have : n * size + (c - n) * size = c * size := by rw [← Nat.add_mul]; congr 1; omega
          omega
        · cases hd
          have hn0 := nbeq_iff hb0
          subst hn0
          have hvs : vs = [] := List.eq_nil_of_length_eq_zero (by rw [hvl, Nat.zero_mul])
          subst hvs
          exact ⟨ι, .slice none 0 0, w, Stp.refl H, by simp only [VRel], run_append_nothing w st xt ty e i hu hi none 0 0 (Nat.le_refl 0) x' hS⟩
      · rename_i b o len sz full
        cases hb1 : (Nat.beq sz size && Nat.ble (Nat.mul len (Nat.add i.bytes 1)) 1099511627776) <;> rw [hb1] at hd <;> simp only [cond_true, cond_false, reduceCtorEq] at hd
        rw [Bool.and_eq_true] at hb1
        have hsz2 : sz = size := nbeq_iff hb1.1
        subst hsz2
        have hl := ble_true hb1.2
        simp only [Nat.mul_eq, Nat.add_eq, Nat.mul_add, Nat.mul_one] at hl
        have hs0 := hs
        simp only [VRel] at hs
        obtain ⟨a, cap, g, rfl, hc1, hc2, hg, hc3⟩ := hs
        cases hb0 : Nat.beq n 0 <;> rw [hb0] at hd <;> simp only [cond_true, cond_false] at hd
        · have hn0 := nbeq_ne hb0
          cases full with
          | true =>
            simp only [cond_true] at hd
            split at hd
            · rename_i old hold
              rw [forceN_eq] at hd
              have hcap : cap = len := hc2 rfl
              subst hcap
              have hfr := hf h.next (Nat.le_refl _) (newCells_next hd).1
              obtain ⟨a', c', olds, e1, r1, r2, r3⟩ := slice_cells H hs0 (Nat.le_refl _) hold
              cases e1
              obtain ⟨tr', g', c, k1, k2, k3, k4, k5, k6, k7, k8⟩ := grow (some a) cap cap old olds h (fun b' h' => .ok (.sl b' 0 (cap + n) sz false) h') H (Stp.refl H) rfl r1 r2
                (fun w1 h1 => firstCells_slice r2 fun j v e => by rw [← r3 j v e]; unfold World.cell?; rw [h1]) (by omega) (by omega) hfr
              have hd' : newCells e false h (old ++ new) (fun b' h' => VRes.ok (.sl b' 0 (cap + n) sz false) h') = .ok v h' := hd
              rw [k1] at hd'; cases hd'
              rw [← k5] at k2
              refine ⟨_, _, _, k2, ?_, k8⟩
              simp only [VRel]
              refine ⟨_, c, g', rfl, by omega, (fun e => by cases e), Inj.upd_same _ _ _, .inr ⟨by rw [k3, k4], ?_⟩⟩
              rw [k7, k4]
              simp only [Array.size_append, List.size_toArray, List.length_append, zeroCells_size, hzsz, hvl, r2, Nat.zero_add]
              have : cap * sz + n * sz + (c - (cap + n)) * sz = c * sz := by rw [← Nat.add_mul, ← Nat.add_mul]; congr 1; omega
              omega
            · cases hd
          | false =>
            simp only [cond_false] at hd
            rw [forceN_eq, forceN_eq, forceN_eq] at hd
            simp only [Nat.mul_eq, Nat.add_eq] at hd
            unfold appendOn at hd
            obtain ⟨next, tr⟩ := h
            simp only at hd
            split at hd
            · rename_i ty0 sz0 t ex hbk
              cases hb2 : (Nat.beq ty0 e && Nat.ble (Nat.add o (len * sz)) sz0) <;> rw [hb2] at hd <;> simp only [cond_true, cond_false, reduceCtorEq] at hd
              rw [Bool.and_eq_true] at hb2
              have hty : ty0 = e := nbeq_iff hb2.1
              subst hty
              have hsz0 := ble_true hb2.2
              simp only [Nat.add_eq] at hsz0
              have hR := H.rel_of hbk hg
              obtain ⟨C, fr, e1, e2, e3, e4, e5, e6⟩ := hR
              obtain ⟨hbase, hfz⟩ := e5 rfl
              -- the new block's cells, as the evaluator has them
              obtain ⟨t', m'', hd2, htget, hm''⟩ : ∃ t' m'', VRes.ok (AV.sl next 0 (len + n) sz false) ⟨Nat.succ next, (tr.set b none).set next (some (.cells ty0 m'' t' false false))⟩ = .ok v h' ∧
                  (∀ j u, j < m'' → t'.get j = some u → (j < len * sz ∧ t.get (o + j) = some u) ∨ (len * sz ≤ j ∧ new[j - len * sz]? = some u)) ∧ m'' = (len + n) * sz := by
                cases hbo : Nat.beq o 0 <;> rw [hbo] at hd <;> simp only [cond_true, cond_false] at hd
                · split at hd
                  · rename_i old hold
                    obtain ⟨t', q1, q2⟩ := trOf_spec (old ++ new) 0 .nil (fun t' n0 => tr.setK none b fun tr1 => tr1.setK (some (.cells ty0 n0 t' false false)) next fun tr2 => VRes.ok (.sl next 0 (len + n) sz false) ⟨Nat.succ next, tr2⟩)
                    rw [q1, Tr.setK_eq, Tr.setK_eq] at hd
                    obtain ⟨ol, oget⟩ := readN_spec t _ _ _ hold
                    refine ⟨t', _, hd, fun j u hj hu => ?_, by simp only [List.length_append, ol, hnewl, Nat.zero_add, Nat.add_mul]⟩
                    rw [q2, if_pos (by omega)] at hu
                    simp only [Nat.sub_zero] at hu
                    by_cases hjl : j < len * sz
                    · rw [List.getElem?_append_left (by omega)] at hu
                      obtain ⟨u', hu1, hu2⟩ := oget j hjl
                      rw [hu] at hu2; cases hu2
                      exact .inl ⟨hjl, hu1⟩
                    · rw [List.getElem?_append_right (by omega), ol] at hu
                      exact .inr ⟨by omega, hu⟩
                  · cases hd
                · have ho0 := nbeq_iff hbo
                  subst ho0
                  rcases writeN_spec new (len * sz) t (fun t' => tr.setK none b fun tr1 => tr1.setK (some (.cells ty0 ((len + n) * sz) t' false false)) next fun tr2 => VRes.ok (.sl next 0 (len + n) sz false) ⟨Nat.succ next, tr2⟩) with hfl | ⟨_, t', q1, q2⟩
                  · rw [hfl] at hd; cases hd
                  · rw [q1, Tr.setK_eq, Tr.setK_eq] at hd
                    refine ⟨t', _, hd, fun j u hj hu => ?_, rfl⟩
                    rw [q2] at hu
                    rw [Nat.add_mul] at hj
                    by_cases hjl : len * sz ≤ j ∧ j < len * sz + new.length
                    · rw [if_pos hjl] at hu; exact .inr ⟨hjl.1, hu⟩
                    · rw [if_neg hjl] at hu; exact .inl ⟨by omega, by rw [Nat.zero_add]; exact hu⟩
              subst hm''
              cases hd2
              have hfr : ι next = none := hf next (Nat.le_refl _) (Nat.lt_succ_self _)
              by_cases hroom : len + n ≤ cap
              · -- in place
                rcases hc3 with hc3 | ⟨rfl, hc3⟩
                · omega
                · have hcs : g.co + o + (len + n) * sz ≤ g.cs := by
                    have : (len + n) * sz ≤ cap * sz := Nat.mul_le_mul_right _ hroom
                    omega
                  rw [Nat.add_mul] at hcs
                  obtain ⟨w', C', k1, k2, k3, k4, k5, k6, k7, k8, k9⟩ := run_storeCells (P := E.P) (cb := g.cb) (o := g.co + o + len * sz) (ty := ty0) (fr := fr) vs 0 w C e1 (by omega) (ones_rel hv hone) (fun k hk => hfz k (by omega))
                  have hst := run_storeCells_cells (P := E.P) g.cb (g.co + o + len * sz) vs 0 w (fun j hj => by
                      unfold World.cell?; rw [e1]; simp only [Option.isSome_none, Bool.false_eq_true, if_false]; rw [Array.getElem?_eq_getElem (by omega)]; rfl)
                    (fun j hj => by
                      unfold World.frozen?; rw [e1]
                      have := hfz (g.co + o + len * sz + 0 + j) (by omega)
                      obtain ⟨lo, hi'⟩ := fr
                      simp only at this ⊢
                      simp only [Bool.and_eq_false_imp, decide_eq_true_eq, decide_eq_false_iff_not]
                      intro h1 h2; exact this ⟨h1, h2⟩) (ones_rel hv hone)
                  simp only [Nat.add_zero] at hst
                  have hw' : w' = w.setCells g.cb (g.co + o + len * sz) vs := by
                    have := k1.symm.trans hst
                    simpa using this
                  subst hw'
                  have hrun2 := run_append_room_src (P := E.P) w st xt ty ty0 i hu hi g.cb (g.co + o) len cap x' n vs hS hroom
                    (fun j hj => by
                      unfold World.cell?; rw [e1]; simp only [Option.isSome_none, Bool.false_eq_true, if_false]; rw [Array.getElem?_eq_getElem (by rw [hisz]; omega)]; rfl)
                    (fun j hj => by
                      unfold World.frozen?; rw [e1]
                      have := hfz (g.co + o + len * i.size + j) (by rw [hisz]; omega)
                      obtain ⟨lo, hi'⟩ := fr
                      simp only at this ⊢
                      simp only [Bool.and_eq_false_imp, decide_eq_true_eq, decide_eq_false_iff_not]
                      intro h1 h2; exact this ⟨h1, h2⟩)
                  rw [hisz] at hrun2
                  refine ⟨ι.upd next ⟨g.cb, g.co + o, g.cs, none⟩, _, _, Stp.move (g' := ⟨g.cb, g.co + o, g.cs, none⟩) H hbk rfl hg rfl hfr ?_ k5 k2 k6 k7 k8 k9, ?_, hrun2⟩
                  · refine ⟨C', fr, rfl, by rw [k3]; exact e2, by simp only [Nat.add_mul]; omega, fun j u hj hu' => ?_, fun _ => ⟨hbase, hfz⟩, fun e => by cases e⟩
                    rw [Nat.add_mul] at hj
                    simp only
                    rw [k4]
                    rcases htget j u (by rw [Nat.add_mul]; exact hj) hu' with ⟨hj1, hj2⟩ | ⟨hj1, hj2⟩
                    · rw [if_neg (by omega)]
                      obtain ⟨u2, q1, q2⟩ := e4 (o + j) u (by omega) hj2
                      exact ⟨u2, by rw [← q1]; congr 1; omega, q2.mono (Inj.le_upd _ _ hfr)⟩
                    · rw [if_pos (by omega)]
                      obtain ⟨u2, q1, q2⟩ := hv.get _ _ hj2
                      exact ⟨u2, by rw [← q1]; congr 1; omega, q2.mono (Inj.le_upd _ _ hfr)⟩
                  · simp only [VRel]
                    exact ⟨_, cap, _, rfl, hroom, (fun e => by cases e), Inj.upd_same _ _ _, .inr ⟨by simp only [Nat.add_zero], by simp only [Nat.add_zero]; exact hc3⟩⟩
              · -- a new row
                have hlt : cap < len + n := by omega
                have hszC : g.co + o + len * sz ≤ C.size := by omega
                have holdl : ((C.toList.drop (g.co + o)).take (len * sz)).length = len * sz := by simp; omega
                have hfirst : ∀ w1 : World, w1.heap = w.heap → (Builtin.firstCells sz len (.slice (some a) len cap)).run E.P w1 = .ok ((C.toList.drop (g.co + o)).take (len * sz)).toArray w1 := by
                  intro w1 h1
                  refine firstCells_slice holdl fun j u ej => ?_
                  have hj := (List.getElem?_eq_some_iff.1 ej).1
                  rw [holdl] at hj
                  rcases hc3 with hc3 | ⟨rfl, hc3⟩
                  · exfalso
                    have : len * sz = 0 := by rw [show len = 0 by omega, Nat.zero_mul]
                    omega
                  · rw [addr_add]
                    unfold World.cell?
                    rw [h1, e1]
                    rw [List.getElem?_take, if_pos hj, List.getElem?_drop] at ej
                    simpa using ej
                have hr := run_append_grow_src (P := E.P) w st xt ty ty0 i zv hu hi hzv (some a) len cap _ (by rw [hisz]; exact hfirst w.drew rfl) x' n vs hS hlt (by omega) (fits hlt (by rw [Nat.add_mul]; omega))
                have hge := grownCap_ge w (len + n) cap ty0
                generalize grownCap w (len + n) cap ty0 = c at hr hge
                have H0 := (Stp.drop H b).rel
                obtain ⟨A, hA⟩ : ∃ A : Array Value, A = ((C.toList.drop (g.co + o)).take (len * sz) ++ vs).toArray ++ Builtin.zeroCells zv.cells (c - (len + n)) := ⟨_, rfl⟩
                rw [← hA] at hr
                have hsize : A.size = c * sz := by
                  rw [hA]
                  simp only [Array.size_append, List.size_toArray, List.length_append, zeroCells_size, hzsz, hvl, holdl]
                  rw [← Nat.add_mul, ← Nat.add_mul]; congr 1; omega
                have hAget : ∀ (j : Nat) (v : Value), ((C.toList.drop (g.co + o)).take (len * sz) ++ vs)[j]? = some v → A[j]? = some v := fun j v e => by
                  rw [hA]; exact getElem?_append_list e
                refine ⟨ι.upd next ⟨w.heap.size, 0, A.size, none⟩, _, w.drew.alloc (.cells A ty0), (Stp.drop H b).trans (Stp.new (w' := w.drew.alloc (.cells A ty0)) H0 (.cells ty0 ((len + n) * sz) t' false false) (.cells A ty0) ⟨w.heap.size, 0, A.size, none⟩ rfl hfr ?_ rfl rfl rfl rfl), ?_, hr⟩
                · refine ⟨A, (0, 0), rfl, rfl, ?_, fun j u hj hu' => ?_, fun _ => ⟨H.base, fun o _ h => by simp at h⟩, fun e => by cases e⟩
                  · simp only [Nat.zero_add]; rw [hsize]; exact Nat.mul_le_mul_right _ hge
                  · simp only [Nat.zero_add]
                    rcases htget j u hj hu' with ⟨hj1, hj2⟩ | ⟨hj1, hj2⟩
                    · obtain ⟨u2, q1, q2⟩ := e4 (o + j) u (by omega) hj2
                      refine ⟨u2, hAget j u2 ?_, q2.mono (Inj.le_upd _ _ hfr)⟩
                      rw [List.getElem?_append_left (by omega), List.getElem?_take, if_pos hj1, List.getElem?_drop, Nat.add_assoc]
                      simpa using q1
                    · obtain ⟨u2, q1, q2⟩ := hv.get _ _ hj2
                      refine ⟨u2, hAget j u2 ?_, q2.mono (Inj.le_upd _ _ hfr)⟩
                      rw [List.getElem?_append_right (by omega), holdl]
                      exact q1
                · simp only [VRel]
                  exact ⟨_, c, _, rfl, hge, (fun e => by cases e), Inj.upd_same _ _ _, .inr ⟨rfl, by simp only [Nat.zero_add]; omega⟩⟩
            · cases hd
        · cases hd
          have hn0 := nbeq_iff hb0
          subst hn0
          have hvs : vs = [] := List.eq_nil_of_length_eq_zero (by rw [hvl, Nat.zero_mul])
          subst hvs
          exact ⟨ι, .slice (some a) len cap, w, Stp.refl H, hs0, run_append_nothing w st xt ty e i hu hi (some a) len cap hc1 x' hS⟩
      · cases hd
    · cases hd
  · cases hd

end
end Ev
end Go.Proofs.YtodemhmfnokomaaGreatDoor
namespace Go.Proofs.YtodemhmfnokomaaGreatDoor
namespace Ev
open Go

section
variable {E : Env} {base : Nat} {ι : Inj} {h : Heap} {w : World}

theorem doAppendMake_ok (H : HRel E base ι h w) {st xt ty e : TypeId} {s x : AV} {s' x' : Value} {v : AV} {h' : Heap} (hd : doAppendMake E.P e s x h = .ok v h') (hf : Free ι h.next h'.next) (hs : VRel ι s s') (hx : VRel ι x x')
    (hu : E.P.underlying st = some (.slice e)) {k0 : IntKind} (hk : E.P.underlying xt = some (.int k0)) :
    ∃ ι' v' w', Stp E base ι h w ι' h' w' ∧ VRel ι' v v' ∧ (Builtin.append_ #[st, xt] ty #[s', x']).run E.P w = .ok v' w' := by
  unfold doAppendMake at hd
  split at hd
  · rename_i size z i k l hsz hz hi
    cases hb : (Nat.beq z.length size && Nat.ble (Nat.mul l (Nat.add i.bytes 1)) 1099511627776 && Nat.ble 1 l) <;> rw [hb] at hd <;> simp only [cond_true, cond_false, reduceCtorEq] at hd
    rw [Bool.and_eq_true, Bool.and_eq_true] at hb
    have hzl := nbeq_iff hb.1.1
    have hl := ble_true hb.1.2
    have hl1 := ble_true hb.2
    simp only [Nat.mul_eq, Nat.add_eq, Nat.mul_add, Nat.mul_one] at hl
    have hisz : i.size = size := by unfold szA at hsz; rw [hi] at hsz; simpa using hsz
    obtain ⟨zv, hzv⟩ := zero_some hz hi
    simp only [VRel] at hs; subst hs
    obtain rfl := hx.nat_inv
    have hzr : VRels ι z zv.cells.toList := by
      obtain ⟨z', hz1, hz2⟩ := zeroA_run hz ι
      have h2 := hz2 w
      simp only [zeroValue, typeInfo, Sem.run_bind, run_program, Result.andThen_ok, hi, Sem.run_pure, hzv, Result.ok.injEq, and_true] at h2
      subst h2; exact hz1
    have hzsz : zv.cells.size = size := by have := hzr.length; simp only [Array.length_toList] at this; omega
    have hfr := hf h.next (Nat.le_refl _) (newCells_next hd).1
    have hge := grownCap_ge w l 0 e
    have hA : ∃ A : Array Value, (Builtin.append_ #[st, xt] ty #[.slice none 0 0, .int k (Int.ofNat l)]).run E.P w = .ok (.slice (some ⟨w.heap.size, 0, none⟩) l (grownCap w l 0 e)) (w.drew.alloc (.cells A e)) ∧ A.size = grownCap w l 0 e * size ∧ (∀ (j : Nat) (u : Value), ((Array.range (l * size)).map (zv.cells[· % zv.cells.size]!))[j]? = some u → A[j]? = some u) := by
      have w1 : IntKind.i64.wrap (l : Int) = l := wrap_i64 l (by omega)
      have n1 : ¬ ((l : Int) < 0) := by omega
      have n2 : ¬ (l = 0) := by omega
      have n3 : ¬ (9223372036854775807 < (l : Int)) := by omega
      have hfit := fits (need := l) (old := 0) (bytes := i.bytes) (by omega) (by omega)
      have n4 : ¬ (281474976710656 < Builtin.nextslicecap l 0 * i.bytes) := by omega
      have n5 : ¬ (281474976710656 < (l : Int) * (i.bytes : Int)) := by
        have : (l : Int) * (i.bytes : Int) = ((l * i.bytes : Nat) : Int) := by simp
        rw [this]; omega
      by_cases h0 : l * size = 0
      · refine ⟨Builtin.zeroCells zv.cells (grownCap w l 0 e - l), ?_, ?_, ?_⟩
        · simp [Builtin.append_, run_underlying hu, run_underlying hk, sizeOf, typeInfo, zeroValue, hi, hzv, hisz, h0, asInt, asIntOf, w1, n1, n2, n3, n4, n5, Question.forced, Builtin.firstCells, newRow, grownCap]
        · rw [zeroCells_size, hzsz]
          have : (grownCap w l 0 e - l) * size + l * size = grownCap w l 0 e * size := by rw [← Nat.add_mul]; congr 1; omega
          omega
        · intro j u e; rw [h0] at e; simp at e
      · refine ⟨Builtin.zeroCells zv.cells l ++ Builtin.zeroCells zv.cells (grownCap w l 0 e - l), ?_, ?_, ?_⟩
        · simp [Builtin.append_, run_underlying hu, run_underlying hk, sizeOf, typeInfo, zeroValue, hi, hzv, hisz, h0, asInt, asIntOf, w1, n1, n2, n3, n4, n5, Question.forced, Builtin.firstCells, newRow, grownCap]
        · rw [Array.size_append, zeroCells_size, zeroCells_size, hzsz, ← Nat.add_mul]; congr 1; omega
        · intro j u e
          have hlt : j < l * size := by have := lt_of_some e; simpa using this
          rw [Array.getElem?_append_left (by rw [zeroCells_size, hzsz]; exact hlt)]
          unfold Builtin.zeroCells
          rw [hzsz] at e ⊢
          exact e
    obtain ⟨A, hrun, hAs, hAget⟩ := hA
    have hrep := repl_rel hzr l size hzl
    have hrl : (repl l z).length = l * size := by rw [(repl_spec z l).1, hzl]
    obtain ⟨tr', k1, k2⟩ := newCells_ok H (ty := e) (ex := false) (l := repl l z) (f := fun b h' => .ok (.sl b 0 l size false) h') hfr (C := A)
      (fun j a ea => by obtain ⟨u, hu', r⟩ := get_of_rels hrep j a ea; exact ⟨u, hAget j u hu', r⟩) (by rw [hrl, hAs]; exact Nat.mul_le_mul_right _ hge) (fun e => by cases e)
      (w' := w.drew.alloc (.cells A e)) rfl rfl rfl rfl
    rw [k1] at hd; cases hd
    refine ⟨_, _, _, k2, ?_, hrun⟩
    simp only [VRel]
    exact ⟨_, _, _, rfl, hge, (fun e => by cases e), Inj.upd_same _ _ _, .inr ⟨rfl, by simp only [Nat.zero_add]; omega⟩⟩
  · cases hd

theorem doAppend_ok (H : HRel E base ι h w) {ats : List TypeId} {ty : TypeId} {s x : AV} {s' x' : Value} {v : AV} {h' : Heap} (hd : doAppend E.P ats s x h = .ok v h') (hf : Free ι h.next h'.next) (hs : VRel ι s s') (hx : VRel ι x x') :
    ∃ ι' v' w', Stp E base ι h w ι' h' w' ∧ VRel ι' v v' ∧ (Builtin.append_ ats.toArray ty #[s', x']).run E.P w = .ok v' w' := by
  unfold doAppend at hd
  split at hd
  · split at hd
    · rename_i e k0 hu hk; exact doAppendMake_ok H hd hf hs hx hu hk
    · rename_i e e' hu hk; exact doAppendS_ok H hd hf hs hx hu (.inl ⟨_, hk⟩)
    · rename_i e hu hk; exact doAppendS_ok H hd hf hs hx hu (.inr hk)
    · cases hd
  · cases hd

theorem doCopy_ok (H : HRel E base ι h w) {ats : List TypeId} {ty : TypeId} {d x : AV} {d' x' : Value} {v : AV} {h' : Heap} (hd : doCopy E.P ats d x h = .ok v h') (hdr : VRel ι d d') (hx : VRel ι x x') :
    h'.next = h.next ∧ ∃ v' w', Stp E base ι h w ι h' w' ∧ VRel ι v v' ∧ (Builtin.copy_ ats.toArray ty #[d', x']).run E.P w = .ok v' w' := by
  unfold doCopy at hd
  split at hd
  · rename_i dt rest
    split at hd
    · rename_i e hu
      split at hd
      · rename_i size hsz
        split at hd
        · rename_i n new hsrc
          obtain ⟨vs, hv, hvl, hrun⟩ := srcAny_ok H hsrc hx
          split at hd
          · simp only [VRel] at hdr; subst hdr
            cases hd
            obtain ⟨q1, _, q3⟩ := hrun w rfl
            have := q3 0 (Nat.zero_le _)
            simp only [Nat.zero_mul, List.take_zero] at this
            refine ⟨rfl, _, w, Stp.refl H, VRel.ofNat _ _ _, ?_⟩
            simp [Builtin.copy_, run_underlying hu, q1, szA_run hsz, this, goInt]
          · rename_i b o len sz full
            cases hb : Nat.beq sz size <;> rw [hb] at hd <;> simp only [cond_true, cond_false, reduceCtorEq] at hd
            obtain rfl := nbeq_iff hb
            rw [forceN_eq] at hd
            have hmin : (bif Nat.ble n len then n else len) = Nat.min n len := by
              cases hbl : Nat.ble n len with
              | true => simp only [cond_true]; exact (Nat.min_eq_left (ble_true hbl)).symm
              | false => simp only [cond_false]; exact (Nat.min_eq_right (Nat.le_of_lt (ble_false hbl))).symm
            rw [hmin] at hd
            obtain ⟨q1, _, q3⟩ := hrun w rfl
            have q4 := q3 (Nat.min n len) (Nat.min_le_left _ _)
            have hdr0 := hdr
            simp only [VRel] at hdr
            obtain ⟨a, c, g, rfl, c1, c2, hg, c3⟩ := hdr
            have hcopy : ∀ (w' : World), (storeCells a (vs.take (Nat.min n len * sz))).run E.P w = .ok () w' → (Builtin.copy_ (dt :: rest).toArray ty #[.slice (some a) len c, x']).run E.P w = .ok (.int .i64 (Int.ofNat (Nat.min n len))) w' := by
              intro w' hr
              simp [Builtin.copy_, run_underlying hu, q1, szA_run hsz, q4, goInt, hr]
            cases hm : Nat.beq (Nat.min n len) 0 <;> rw [hm] at hd <;> simp only [cond_true, cond_false] at hd
            · split at hd
              · rename_i v0 h0 hst
                cases hd
                obtain ⟨s1, s2, s3, s4⟩ := storeAtA_ok H hst hg
                obtain ⟨w', hs, hrun2⟩ := s4 (vs.take (Nat.min n len * sz)) (hv.take _)
                rcases c3 with c3 | ⟨rfl, c3⟩
                · exfalso
                  have := nbeq_ne hm
                  apply this
                  rw [show len = 0 by omega]; simp
                · exact ⟨s2, _, w', hs, VRel.ofNat _ _ _, hcopy w' hrun2⟩
              · cases hd
            · cases hd
              have hm0 := nbeq_iff hm
              refine ⟨rfl, _, w, Stp.refl H, VRel.ofNat _ _ _, ?_⟩
              have := hcopy w (by rw [hm0]; simp only [Nat.zero_mul, List.take_zero]; rfl)
              rw [hm0] at this
              exact this
          · cases hd
        · cases hd
      · cases hd
    · cases hd
  · cases hd

theorem doLen_ok (H : HRel E base ι h w) {ats : List TypeId} {ty : TypeId} {x : AV} {x' : Value} {v : AV} (hd : doLen E.P ats x h = .ok v) (hx : VRel ι x x') :
    ∃ v', VRel ι v v' ∧ (Builtin.len_ ats.toArray ty #[x']).run E.P w = .ok v' w := by
  unfold doLen at hd
  split at hd
  · rename_i t rest
    have a0 : ∀ (l : List TypeId), (t :: l).toArray[0]? = some t := fun l => by simp
    split at hd
    · rename_i hu
      split at hd
      · cases hd
        obtain ⟨s, rfl, rfl, rfl⟩ := hx.str_inv
        exact ⟨_, VRel.ofNat _ _ _, by simp [Builtin.len_, run_underlying hu, goInt]⟩
      · cases hd
    · rename_i e hu
      split at hd
      · cases hd
        simp only [VRel] at hx
        obtain ⟨a, c, g, rfl, _⟩ := hx
        exact ⟨_, VRel.ofNat _ _ _, by simp [Builtin.len_, run_underlying hu, goInt]⟩
      · cases hd
        simp only [VRel] at hx; subst hx
        exact ⟨_, VRel.ofNat _ _ _, by simp [Builtin.len_, run_underlying hu, goInt]⟩
      · cases hd
    · rename_i n e hu
      cases hd
      exact ⟨_, VRel.ofNat _ _ _, by simp [Builtin.len_, run_underlying hu, goInt]⟩
    · rename_i kt e hu
      split at hd
      · cases hd
        simp only [VRel] at hx; subst hx
        exact ⟨_, VRel.ofNat _ _ _, by simp [Builtin.len_, run_underlying hu, goInt]⟩
      · rename_i b
        split at hd
        · rename_i es clock hb
          unfold okNat at hd; rw [forceN_eq] at hd; cases hd
          simp only [VRel] at hx
          obtain ⟨g, hg, rfl⟩ := hx
          obtain ⟨_, ents, h1, h2⟩ := H.rel_of hb hg
          have hl : ents.size = es.length := by
            have key : ∀ (x : List Ent) (y : List MapEntry), ERels ι x y → y.length = x.length := by
              intro x
              induction x with
              | nil => intro y h; simp only [ERels] at h; subst h; rfl
              | cons a x ih => intro y h; obtain ⟨b, q, rfl, _, _, _, h⟩ := h; simp [ih _ h]
            have := key _ _ h2; simpa using this
          refine ⟨.int .i64 (Int.ofNat es.length), VRel.ofNat _ _ _, ?_⟩
          simp [Builtin.len_, run_underlying hu, goInt, getObj, Sem.run, h1, hl]
        · cases hd
      · cases hd
    · cases hd
  · cases hd

end
end Ev
end Go.Proofs.YtodemhmfnokomaaGreatDoor
namespace Go.Proofs.YtodemhmfnokomaaGreatDoor
namespace Ev
open Go

theorem bytesCode_spec : ∀ (l : List AV) (c r : Nat), bytesCode l c = some r → ∃ bs : List UInt8, l = bs.map (fun b => AV.nat .u8 b.toNat) ∧ r = c * 256 ^ bs.length + strCode bs
  | [], c, r, h => by simp only [bytesCode, Option.some.injEq] at h; exact ⟨[], rfl, by simp [strCode_nil, h]⟩
  | x :: l, c, r, h => by
    unfold bytesCode at h
    split at h
    · rename_i e; cases e
    · rename_i b q e
      cases e
      cases hb : Nat.ble b 255 <;> rw [hb] at h <;> simp only [cond_true, cond_false, reduceCtorEq] at h
      rw [forceN_eq] at h
      have hb' := ble_true hb
      obtain ⟨bs, rfl, hr⟩ := bytesCode_spec l _ r h
      have e1 : (UInt8.ofNat b).toNat = b := by simp; omega
      refine ⟨UInt8.ofNat b :: bs, by simp only [List.map_cons, e1], ?_⟩
      rw [hr, strCode_cons, e1, List.length_cons, Nat.pow_succ]
      simp only [Nat.add_eq, Nat.mul_eq, Nat.add_mul]
      rw [Nat.mul_assoc, Nat.mul_comm 256]
      omega
    · cases h

section
variable {E : Env} {base : Nat} {ι : Inj} {h : Heap} {w : World}

/-- a new row of cells, some places behind its end marked -/
theorem newCells_ok2 (H : HRel E base ι h w) {ty : TypeId} {ex : Bool} {l : List AV} {f : Nat → Heap → VRes} (hf : ι h.next = none) {C : Array Value} {fr : Nat × Nat} (hfz : ∀ o, o < C.size → ¬ (fr.1 ≤ o ∧ o < fr.2))
    (hC : ∀ (i : Nat) (v : AV), l[i]? = some v → ∃ u, C[i]? = some u ∧ VRel ι v u) (hl : l.length ≤ C.size) (hex : ex = true → C.size = l.length) {w' : World}
    (hh : w'.heap = w.heap.push (.cells C ty fr)) (ho : w'.os = w.os) (ht : w'.tape = w.tape) (hu : w'.output = w.output) :
    ∃ tr', newCells ty ex h l f = f h.next ⟨h.next + 1, tr'⟩ ∧ Stp E base ι h w (ι.upd h.next ⟨w.heap.size, 0, C.size, none⟩) ⟨h.next + 1, tr'⟩ w' := by
  obtain ⟨next, tr⟩ := h
  obtain ⟨t', h1, h2⟩ := trOf_spec l 0 .nil (fun t n => tr.setK (some (.cells ty n t false ex)) next fun tr' => f next ⟨Nat.succ next, tr'⟩)
  refine ⟨tr.set next (some (.cells ty (0 + l.length) t' false ex)), ?_, ?_⟩
  · simp only [newCells]
    rw [h1, Tr.setK_eq]
  · refine Stp.new H (.cells ty (0 + l.length) t' false ex) (.cells C ty fr) ⟨w.heap.size, 0, C.size, none⟩ rfl hf ?_ hh ho ht hu
    refine ⟨C, fr, rfl, rfl, by simpa using hl, fun i v hi hv => ?_, fun _ => ⟨H.base, hfz⟩, fun e => ⟨rfl, by simpa using hex e⟩⟩
    rw [h2] at hv
    rw [if_pos (by omega)] at hv
    obtain ⟨u, hu, r⟩ := hC i v (by simpa using hv)
    exact ⟨u, by simpa using hu, r.mono (Inj.le_upd _ _ hf)⟩

theorem doConvert_ok (H : HRel E base ι h w) {src dst : TypeId} {x : AV} {x' : Value} {v : AV} {h' : Heap} (hd : doConvert E.P src dst x h = .ok v h') (hf : Free ι h.next h'.next) (hx : VRel ι x x') :
    ∃ ι' v' w', Stp E base ι h w ι' h' w' ∧ VRel ι' v v' ∧ (convert src dst x').run E.P w = .ok v' w' := by
  unfold doConvert at hd
  split at hd
  · rename_i k1 k hs hdst
    split at hd
    · rename_i k2 n
      obtain rfl := hx.nat_inv
      have hrun : (convert src dst (.int k2 (Int.ofNat n))).run E.P w = .ok (.int k (k.wrap (Int.ofNat n))) w := by
        simp [convert, run_underlying hs, run_underlying hdst, Conv.intToInt]
      cases hb : Nat.ble n (kMax k) <;> rw [hb] at hd <;> simp only [cond_true, cond_false] at hd <;> cases hd
      · exact ⟨ι, _, w, Stp.refl H, mkI_rel _ _ _, hrun⟩
      · rw [wrap_le k n (ble_true hb)] at hrun
        exact ⟨ι, _, w, Stp.refl H, VRel.ofNat _ _ _, hrun⟩
    · rename_i k2 n
      obtain rfl := hx.neg_inv
      cases hd
      exact ⟨ι, _, w, Stp.refl H, mkI_rel _ _ _, by simp [convert, run_underlying hs, run_underlying hdst, Conv.intToInt]⟩
    · cases hd
  · rename_i k1 hs hdst
    split at hd
    · rename_i k2 n
      obtain rfl := hx.nat_inv
      cases hb : Nat.ble n 127 <;> rw [hb] at hd <;> simp only [cond_true, cond_false, reduceCtorEq] at hd
      cases hd
      have hn := ble_true hb
      refine ⟨ι, .string ⟨#[UInt8.ofNat n]⟩, w, Stp.refl H, VRel.ofStr' ι _ rfl ?_, ?_⟩
      · show strCode [UInt8.ofNat n] = n
        rw [strCode_cons, strCode_nil]
        simp; omega
      · have henc : Utf8.encode (Int.ofNat n) = ⟨#[UInt8.ofNat n]⟩ := by
          have hv : Utf8.valid (n : Int) = true := by
            simp [Utf8.valid]; omega
          unfold Utf8.encode
          simp only [Int.ofNat_eq_natCast, hv, if_true, Int.toNat_natCast]
          rw [if_pos (by omega)]
        simp only [convert, Sem.run_bind, run_underlying hs, run_underlying hdst, Result.andThen_ok, Conv.intToString, henc, Sem.run_pure]
    · cases hd
  · rename_i hs hdst
    split at hd
    · cases hd
      obtain ⟨s, rfl, h1, h2⟩ := hx.str_inv
      exact ⟨ι, _, w, Stp.refl H, VRel.ofStr' ι s h1 h2, by simp [convert, run_underlying hs, run_underlying hdst]⟩
    · cases hd
  · rename_i e hs hdst
    split at hd
    · rename_i l c he
      cases hb : Nat.ble l 1099511627776 <;> rw [hb] at hd <;> simp only [cond_true, cond_false, reduceCtorEq] at hd
      obtain ⟨s, rfl, rfl, rfl⟩ := hx.str_inv
      have hfr := hf h.next (Nat.le_refl _) (newCells_next hd).1
      have hrun := run_bytes_of_string (P := E.P) w src dst e s hs hdst he
      have hge := grownCap_ge w s.size 0 e
      have hcs : (bytesRow s (grownCap w s.size 0 e)).size = grownCap w s.size 0 e := by
        unfold bytesRow
        simp only [Array.size_append, Array.size_map, Array.size_replicate]
        have : s.data.size = s.size := rfl
        omega
      have hsc : strCells s.size (strCode s.data.toList) [] = s.data.toList.map (fun b => AV.nat .u8 b.toNat) := by
        rw [strCells_spec _ _ _ (size_len s), List.append_nil]
      have hrel : VRels ι (strCells s.size (strCode s.data.toList) []) (s.data.map (fun b => Value.int .u8 b.toNat)).toList := by
        rw [hsc, Array.toList_map]; exact bytes_rel ι _
      obtain ⟨tr', k1, k2⟩ := newCells_ok2 H (ty := e) (ex := false) (l := strCells s.size (strCode s.data.toList) []) (f := fun b h' => .ok (.sl b 0 s.size 1 false) h') hfr (C := bytesRow s (grownCap w s.size 0 e))
        (fr := ((bytesRow s (grownCap w s.size 0 e)).size, (bytesRow s (grownCap w s.size 0 e)).size + 1)) (fun o ho hh => by simp only at hh; omega)
        (fun j a ea => by
          obtain ⟨u, hu', r⟩ := get_of_rels hrel j a ea
          refine ⟨u, ?_, r⟩
          unfold bytesRow
          rw [Array.getElem?_append_left (lt_of_some hu')]; exact hu')
        (by rw [hsc, List.length_map, size_len, hcs]; exact hge) (fun e => by cases e)
        (w' := w.drew.alloc (.cells (bytesRow s (grownCap w s.size 0 e)) e ((bytesRow s (grownCap w s.size 0 e)).size, (bytesRow s (grownCap w s.size 0 e)).size + 1))) rfl rfl rfl rfl
      rw [k1] at hd; cases hd
      refine ⟨_, _, _, k2, ?_, hrun⟩
      simp only [VRel]
      exact ⟨_, _, _, rfl, hge, (fun e => by cases e), Inj.upd_same _ _ _, .inr ⟨rfl, by simp only [Nat.zero_add]; omega⟩⟩
    · cases hd
  · rename_i e hs hdst
    split at hd
    · rename_i he
      cases hd
      simp only [VRel] at hx; subst hx
      refine ⟨ι, .string .empty, w, Stp.refl H, VRel.ofStr' ι _ rfl rfl, ?_⟩
      rw [run_convert_bytes_string w src dst e _ _ _ hs he hdst]; rfl
    · rename_i b o len sz full he
      cases hb : Nat.beq sz 1 <;> rw [hb] at hd <;> simp only [cond_true, cond_false, reduceCtorEq] at hd
      obtain rfl := nbeq_iff hb
      split at hd
      · rename_i l hl
        split at hd
        · rename_i c hc
          cases hd
          obtain ⟨bs, rfl, hr⟩ := bytesCode_spec _ _ _ hc
          obtain ⟨a, cap, vs, rfl, r1, r2, r3⟩ := slice_cells H hx (by omega) hl
          have hvs : vs = (bs.map (fun b => (b.toNat : Int))).map (Value.int .u8) := by
            have key : ∀ (bs : List UInt8) (vs : List Value), VRels ι (bs.map (fun b => AV.nat .u8 b.toNat)) vs → vs = (bs.map (fun b => (b.toNat : Int))).map (Value.int .u8) := by
              intro bs
              induction bs with
              | nil => intro vs h; simp only [List.map_nil, VRels] at h; subst h; rfl
              | cons b bs ih =>
                intro vs h
                simp only [List.map_cons, VRels] at h
                obtain ⟨y, q, rfl, h1, h2⟩ := h
                rw [h1.nat_inv, ih _ h2]; rfl
            exact key bs vs r1
          have hload : (loadCells a len).run E.P w = .ok ((bs.map (fun b => (b.toNat : Int))).map (Value.int .u8)).toArray w := by
            rw [← hvs, ← r2]
            exact run_loadCells_list w a vs r3
          have hbl : bs.length = len := by
            have := r1.length; simp only [List.length_map] at this; omega
          refine ⟨ι, .string ⟨bs.toArray⟩, w, Stp.refl H, VRel.ofStr' ι _ (by show bs.toArray.size = len; simp [hbl]) (by simpa using hr.symm), ?_⟩
          rw [run_convert_bytes_string w src dst e _ _ _ hs he hdst, run_bytesToString w a len cap _ hload, foldl_push_byteCells]
          simp [ByteArray.empty, ByteArray.emptyWithCapacity]
          rfl
        · cases hd
      · cases hd
    · cases hd
  · cases hd

end
end Ev
end Go.Proofs.YtodemhmfnokomaaGreatDoor
namespace Go.Proofs.YtodemhmfnokomaaGreatDoor
namespace Ev
open Go

section
variable {P : Program} {ι : Inj}

theorem eqAny_ok {t : TypeId} {k : AV} {eq : AV → AV → Option Bool} (he : keyEq P t k = some eq) {x y : AV} {x' y' : Value} {r : Bool} (h : eq x y = some r) (hx : VRel ι x x') (hy : VRel ι y y') (w : World) : (Op.equal t x' y').run P w = .ok r w := by
  unfold keyEq at he
  split at he
  · rename_i c hc
    cases he
    exact equal_of fun d => eqK_ok hc h hx hy d w
  · split at he
    · rename_i l hl
      split at he
      · rename_i xs
        cases hb : Nat.beq xs.length l.length <;> rw [hb] at he <;> simp only [cond_true, cond_false, reduceCtorEq, Option.some.injEq] at he
        subst he
        cases x <;> cases y <;> simp only [eqAggV, reduceCtorEq] at h
        simp only [VRel] at hx hy
        obtain ⟨a, rfl, ha⟩ := hx
        obtain ⟨b, rfl, hb⟩ := hy
        exact (flatAgg_ok hl h ha hb 9998 w).1
      · cases he
    · cases he

/-- what was found, there and here -/
def Found (ι : Inj) : Option (Nat × AV) → Option (Nat × Value) → Prop
  | none, r => r = none
  | some (i, v), r => ∃ v', r = some (i, v') ∧ VRel ι v v'

theorem findAsking_ok {t : TypeId} {k0 : AV} {eq : AV → AV → Option Bool} (he : keyEq P t k0 = some eq) {k : AV} {k' : Value} (hk : VRel ι k k') (w : World) : ∀ (es : List Ent) (ents : List MapEntry) (i : Nat) (res : Option (Nat × AV)), ERels ι es ents → findA eq k es i = some res →
    ∃ res', (Instr.findAsking t k' ents i).run P w = .ok res' w ∧ Found ι res res'
  | [], ents, i, res, h1, h2 => by
    simp only [ERels] at h1; subst h1
    simp only [findA, Option.some.injEq] at h2; subst h2
    exact ⟨none, rfl, rfl⟩
  | e :: es, ents, i, res, h1, h2 => by
    obtain ⟨y, q, rfl, hk1, hv1, hb1, h1⟩ := h1
    simp only [findA] at h2
    cases hq : eq k e.k with
    | none => rw [hq] at h2; cases h2
    | some b =>
      rw [hq] at h2
      have hr := eqAny_ok he hq hk hk1 w
      cases b with
      | true =>
        simp only [Option.some.injEq] at h2; subst h2
        refine ⟨some (i, y.val), ?_, y.val, rfl, hv1⟩
        simp only [Instr.findAsking, Sem.run_bind, hr, Result.andThen_ok, if_true, Sem.run_pure]
      | false =>
        obtain ⟨res', hr', hf⟩ := findAsking_ok he hk w es q (i + 1) res h1 h2
        refine ⟨res', ?_, hf⟩
        simp only [Instr.findAsking, Sem.run_bind, hr, Result.andThen_ok, Bool.false_eq_true, if_false]
        exact hr'

theorem sameNow_ok {t : TypeId} {c : FK} (hc : flatK P t = some c) {D : TypeDesc} (hu : P.underlying t = some D) {x y : AV} {x' y' : Value} {r : Bool} (h : eqK c x y = some r) (hx : VRel ι x x') (hy : VRel ι y y') : Instr.sameNow D x' y' = some r := by
  have hq := eqK_ok hc h hx hy 0 default
  unfold flatK at hc
  rw [hu] at hc
  cases D <;> simp only [Option.some.injEq, reduceCtorEq] at hc <;> subst hc
  case bool =>
    cases x <;> cases y <;> simp only [eqK, reduceCtorEq] at h
    obtain rfl := hx.bool_inv; obtain rfl := hy.bool_inv
    simpa [Instr.sameNow] using h
  case int k0 =>
    cases x <;> cases y <;> simp only [eqK, reduceCtorEq] at h
    case nat.nat k m k' n =>
      cases hk : kEq k k' <;> rw [hk] at h <;> simp only [cond_true, cond_false, reduceCtorEq] at h
      obtain rfl := kEq_true hk
      obtain rfl := hx.nat_inv; obtain rfl := hy.nat_inv
      rw [run_equalIn_ints 0 t k k0 _ _ hu] at hq
      simp only [Result.ok.injEq, and_true] at hq
      simp only [Instr.sameNow, if_true, hq]
    case nat.neg k m k' n =>
      cases hk : kEq k k' <;> rw [hk] at h <;> simp only [cond_true, cond_false, reduceCtorEq] at h
      obtain rfl := kEq_true hk
      obtain rfl := hx.nat_inv; obtain rfl := hy.neg_inv
      rw [run_equalIn_ints 0 t k k0 _ _ hu] at hq
      simp only [Result.ok.injEq, and_true] at hq
      simp only [Instr.sameNow, if_true, hq]
    case neg.nat k m k' n =>
      cases hk : kEq k k' <;> rw [hk] at h <;> simp only [cond_true, cond_false, reduceCtorEq] at h
      obtain rfl := kEq_true hk
      obtain rfl := hx.neg_inv; obtain rfl := hy.nat_inv
      rw [run_equalIn_ints 0 t k k0 _ _ hu] at hq
      simp only [Result.ok.injEq, and_true] at hq
      simp only [Instr.sameNow, if_true, hq]
    case neg.neg k m k' n =>
      cases hk : kEq k k' <;> rw [hk] at h <;> simp only [cond_true, cond_false, reduceCtorEq] at h
      obtain rfl := kEq_true hk
      obtain rfl := hx.neg_inv; obtain rfl := hy.neg_inv
      rw [run_equalIn_ints 0 t k k0 _ _ hu] at hq
      simp only [Result.ok.injEq, and_true] at hq
      simp only [Instr.sameNow, if_true, hq]
  case string =>
    cases x <;> cases y <;> simp only [eqK, reduceCtorEq, Option.some.injEq] at h
    obtain ⟨s, rfl, rfl, rfl⟩ := hx.str_inv
    obtain ⟨u, rfl, rfl, rfl⟩ := hy.str_inv
    rw [str_beq] at h
    simp only [Instr.sameNow, Option.some.injEq]
    rw [beq_toListBytes]; exact h

theorem findNow_ok {t : TypeId} {c : FK} (hc : flatK P t = some c) {D : TypeDesc} (hu : P.underlying t = some D) {k : AV} {k' : Value} (hk : VRel ι k k') : ∀ (es : List Ent) (ents : List MapEntry) (i : Nat) (res : Option (Nat × AV)), ERels ι es ents → findA (eqK c) k es i = some res →
    ∃ res', Instr.findNow D k' ents i = some res' ∧ Found ι res res'
  | [], ents, i, res, h1, h2 => by
    simp only [ERels] at h1; subst h1
    simp only [findA, Option.some.injEq] at h2; subst h2
    exact ⟨none, rfl, rfl⟩
  | e :: es, ents, i, res, h1, h2 => by
    obtain ⟨y, q, rfl, hk1, hv1, hb1, h1⟩ := h1
    simp only [findA] at h2
    cases hq : eqK c k e.k with
    | none => rw [hq] at h2; cases h2
    | some b =>
      rw [hq] at h2
      have hr := sameNow_ok hc hu hq hk hk1
      cases b with
      | true =>
        simp only [Option.some.injEq] at h2; subst h2
        exact ⟨some (i, y.val), by simp only [Instr.findNow, hr], y.val, rfl, hv1⟩
      | false =>
        obtain ⟨res', hr', hf⟩ := findNow_ok hc hu hk es q (i + 1) res h1 h2
        exact ⟨res', by simp only [Instr.findNow, hr]; exact hr', hf⟩

theorem findKey_ok {t : TypeId} {k0 : AV} {eq : AV → AV → Option Bool} (he : keyEq P t k0 = some eq) {k : AV} {k' : Value} (hk : VRel ι k k') (w : World) {es : List Ent} {ents : List MapEntry} {res : Option (Nat × AV)} (h1 : ERels ι es ents) (h2 : findA eq k es 0 = some res) :
    ∃ res', (Instr.findKey t k' ents).run P w = .ok res' w ∧ Found ι res res' := by
  have he0 := he
  unfold keyEq at he
  split at he
  · rename_i c hc
    cases he
    obtain ⟨D, hu⟩ : ∃ D, P.underlying t = some D := by
      unfold flatK at hc
      cases hu : P.underlying t with
      | none => rw [hu] at hc; cases hc
      | some D => exact ⟨D, rfl⟩
    obtain ⟨res', hr, hf⟩ := findNow_ok hc hu hk es ents 0 res h1 h2
    exact ⟨res', by simp only [Instr.findKey, Sem.run_bind, run_underlying hu, Result.andThen_ok, hr, Sem.run_pure], hf⟩
  · split at he
    · rename_i l hl
      obtain ⟨res', hr, hf⟩ := findAsking_ok he0 hk w es ents 0 res h1 h2
      have hD : ∃ D, P.underlying t = some D ∧ ∀ x y, Instr.sameNow D x y = none := by
        rcases aggShape hl with ⟨f, e⟩ | ⟨n, e', e⟩
        · exact ⟨_, e, fun x y => rfl⟩
        · exact ⟨_, e, fun x y => rfl⟩
      obtain ⟨D, hu, hD⟩ := hD
      cases ents with
      | nil =>
        refine ⟨none, by simp only [Instr.findKey, Sem.run_bind, run_underlying hu, Result.andThen_ok, Instr.findNow, Sem.run_pure], ?_⟩
        have : res' = none := by simpa [Instr.findAsking] using hr.symm
        rw [← this]; exact hf
      | cons y q =>
        refine ⟨res', ?_, hf⟩
        simp only [Instr.findKey, Sem.run_bind, run_underlying hu, Result.andThen_ok, Instr.findNow, hD]
        exact hr
    · cases he

end
end Ev
end Go.Proofs.YtodemhmfnokomaaGreatDoor
