/- Summaries put together; the rest of a body by the evaluator. Conditions: what is said of the program and of the summaries. -/
import Derived.Test.YtodemhmfnokomaaGreatDoorEvH
import Derived.Lib.SlKeysI
import Derived.Maps.Range
import Derived.Lib.Bytealg
import Derived.Test.YtodemhmfnokomaaGreatDoorEvA
import Derived.ProofKit
import Derived.Carry
namespace Go.Proofs.YtodemhmfnokomaaGreatDoor
namespace Ev
open Go
open Go.RowKit (Below)
open Go.Maps

section
variable {E : Env} {base : Nat} {ι : Inj} {h : Heap} {w w' : World}

/-- a block that has come to lie in memory, taken over -/
theorem Stp.adopt (H : HRel E base ι h w) (hb : Below w.heap.size w w') (B : Blk) (g : Gh) (hg : w.heap.size ≤ g.cb) (hf : ι h.next = none) (hB : BRel (ι.upd h.next g) base g (w'.heap[g.cb]?) B) (hw : B.own = true) :
    Stp E base ι h w (ι.upd h.next g) ⟨h.next + 1, h.tr.set h.next (some B)⟩ w' := by
  have s := Stp.grow H hb.os hb.tape hb.output hb.size hb.block
  have H' := s.rel
  have hle : ι.le (ι.upd h.next g) := Inj.le_upd ι g hf
  have hlow : ∀ b B0, h.tr.get b = some B0 → b ≠ h.next := fun b B0 hb => by have := H.keys b B0 hb; omega
  refine ⟨Nat.le_succ _, fun b hb => Inj.upd_ne _ _ (by simp only at hb; omega), ⟨?_, ?_, ?_, ?_, ?_, H'.base⟩, hb.os, hb.tape, hb.output, hb.size, fun k hk _ => hb.block k hk, ?_⟩
  · intro b B0 hb
    rw [Tr.get_set] at hb
    split at hb
    · simp only; omega
    · have := H.keys b B0 hb; simp only; omega
  · intro b B0 hb
    rw [Tr.get_set] at hb
    split at hb
    · rename_i e; subst e; cases hb
      exact ⟨g, Inj.upd_same _ _ _, hB⟩
    · rename_i e
      obtain ⟨g0, hg0, r⟩ := H'.blk b B0 hb
      exact ⟨g0, by rw [Inj.upd_ne _ _ e]; exact hg0, r.mono hle⟩
  · intro b b' B0 B1 g0 g1 hb hb' hg0 hg1 hne hown
    rw [Tr.get_set] at hb hb'
    split at hb
    · rename_i e; subst e
      rw [if_neg (Ne.symm hne)] at hb'
      rw [Inj.upd_same] at hg0; cases hg0
      rw [Inj.upd_ne _ _ (Ne.symm hne)] at hg1
      have := H.cb_lt hb' hg1
      omega
    · rename_i e
      rw [Inj.upd_ne _ _ e] at hg0
      split at hb'
      · rename_i e'; subst e'
        rw [Inj.upd_same] at hg1; cases hg1
        have := H.cb_lt hb hg0
        omega
      · rename_i e'
        rw [Inj.upd_ne _ _ e'] at hg1
        exact H.sep b b' B0 B1 g0 g1 hb hb' hg0 hg1 hne hown
  · intro n cs hn
    obtain ⟨h1, C, T, fr, h2, h3⟩ := H'.glob n cs hn
    exact ⟨h1, C, T, fr, h2, h3.mono hle⟩
  · intro b B0 g0 hb hn hg0
    rw [Tr.get_set] at hb
    split at hb
    · cases hb; rw [hw] at hn; cases hn
    · rename_i e; rw [Inj.upd_ne _ _ e] at hg0; exact H.low b B0 g0 hb hn hg0
  · rintro k ⟨b, B0, g0, hb, hown, hg0, rfl⟩
    rw [Tr.get_set] at hb
    split at hb
    · rename_i e; subst e; rw [Inj.upd_same] at hg0; cases hg0; exact .inl hg
    · rename_i e; rw [Inj.upd_ne _ _ e] at hg0; exact .inr ⟨b, B0, g0, hb, hown, hg0, rfl⟩

theorem insN_perm (x : Nat) : ∀ l, (insN x l).Perm (x :: l)
  | [] => .refl _
  | y :: r => by
    simp only [insN]
    cases Nat.ble x y with
    | true => exact .refl _
    | false => exact ((insN_perm x r).cons y).trans (.swap x y r)

theorem sortN_perm : ∀ l, (sortN l).Perm l
  | [] => .refl _
  | x :: r => (insN_perm x _).trans ((sortN_perm r).cons x)

theorem insN_sorted (x : Nat) : ∀ l, l.Pairwise (· ≤ ·) → (insN x l).Pairwise (· ≤ ·)
  | [], _ => by simp [insN]
  | y :: r, hl => by
    simp only [insN]
    rw [List.pairwise_cons] at hl
    rcases Tr.ble_cases x y with ⟨h1, h2⟩ | ⟨h1, h2⟩ <;> rw [h1]
    · refine List.pairwise_cons.2 ⟨fun z hz => ?_, List.pairwise_cons.2 hl⟩
      rcases List.mem_cons.1 hz with rfl | hz
      · exact h2
      · exact Nat.le_trans h2 (hl.1 z hz)
    · refine List.pairwise_cons.2 ⟨fun z hz => ?_, insN_sorted x r hl.2⟩
      rcases List.mem_cons.1 ((insN_perm x r).mem_iff.1 hz) with rfl | hz
      · omega
      · exact hl.1 z hz

theorem sortN_sorted : ∀ l, (sortN l).Pairwise (· ≤ ·)
  | [] => List.Pairwise.nil
  | x :: r => insN_sorted x _ (sortN_sorted r)

theorem sortN_merge {ss : List Int} {ks : List Nat} (hp : ss.Perm (ks.map Int.ofNat)) : ss.mergeSort (fun x y => decide (x ≤ y)) = (sortN ks).map Int.ofNat := by
  have h1 : ss.Perm ((sortN ks).map Int.ofNat) := hp.trans ((sortN_perm ks).symm.map _)
  have h2 := mergeSort_of_perm_i h1
  rw [h2]
  apply List.mergeSort_of_pairwise
  refine List.pairwise_map.2 ((sortN_sorted ks).imp fun {a b} h => ?_)
  simp only [decide_eq_true_eq]
  exact Int.ofNat_le.2 h

theorem memN_mem (n : Nat) (l : List Nat) : memN n l = true ↔ n ∈ l := by rw [memN_iff]; exact List.contains_iff_mem

theorem keys_rel : ∀ (es : List Ent) (l : List MapEntry) (ks : List Nat) (lo clock : Nat), ERels ι es l → keysN es = some ks → stampsOk es lo clock = true →
    l.map (·.key) = ks.map (fun n => Value.int .i64 (Int.ofNat n)) ∧ (∀ x ∈ l, lo ≤ x.born ∧ x.born < clock) ∧ (l.map (·.born)).Nodup ∧ (∀ x ∈ l, ∃ b, x.val = .bool b) ∧ ks.Nodup ∧ (∀ n ∈ ks, n ≤ 9223372036854775807) ∧ es.length = ks.length
  | [], l, ks, lo, clock, hr, hk, hs => by
    simp only [ERels] at hr
    subst hr
    simp only [keysN, Option.some.injEq] at hk
    subst hk
    simp
  | e :: es, l, ks, lo, clock, hr, hk, hs => by
    obtain ⟨y, q, rfl, r1, r2, r3, r4⟩ := hr
    simp only [keysN] at hk
    split at hk
    · rename_i n b l' h1 h2 h3
      cases hc : (Nat.ble n 9223372036854775807 && not (memN n l')) <;> rw [hc] at hk <;> simp only [cond_true, cond_false, reduceCtorEq, Option.some.injEq] at hk
      subst hk
      simp only [Bool.and_eq_true, Bool.not_eq_true'] at hc
      simp only [stampsOk, Bool.and_eq_true] at hs
      obtain ⟨⟨s1, s2⟩, s3⟩ := hs
      obtain ⟨k1, k2, k3, k4, k5, k6, k7⟩ := keys_rel es q l' _ clock r4 h3 s3
      rw [h1] at r1
      rw [h2] at r2
      simp only [VRel] at r1 r2
      have hlo : lo ≤ y.born := by rw [← r3]; exact nble_iff s1
      have hhi : y.born < clock := by rw [← r3]; exact nble_iff s2
      have hgt : ∀ x ∈ q, y.born < x.born := fun x hx => by have := (k2 x hx).1; rw [← r3]; omega
      refine ⟨by rw [List.map_cons, List.map_cons, r1, k1], fun x hx => ?_, ?_, fun x hx => ?_, ?_, fun m hm => ?_, by simp [k7]⟩
      · rcases List.mem_cons.1 hx with rfl | hx
        · exact ⟨hlo, hhi⟩
        · have := k2 x hx; have := hgt x hx; omega
      · rw [List.map_cons, List.nodup_cons]
        refine ⟨fun hm => ?_, k3⟩
        obtain ⟨x, hx, hb⟩ := List.mem_map.1 hm
        have := hgt x hx; omega
      · rcases List.mem_cons.1 hx with rfl | hx
        · exact ⟨b, r2⟩
        · exact k4 x hx
      · refine List.nodup_cons.2 ⟨fun hm => ?_, k5⟩
        have := (memN_mem n l').2 hm
        rw [hc.2] at this; cases this
      · rcases List.mem_cons.1 hm with rfl | hm
        · exact nble_iff hc.1
        · exact k6 m hm
    · cases hk

end
end Ev
end Go.Proofs.YtodemhmfnokomaaGreatDoor
namespace Go.Proofs.YtodemhmfnokomaaGreatDoor
namespace Ev
open Go
open Go.RowKit (Below)
open Go.Maps Go.WideElems Go.MapKept

section
variable {E : Env} {base : Nat}

theorem natsA_len : ∀ l : List Nat, (natsA l).length = l.length
  | [] => rfl
  | _ :: r => by simp [natsA, natsA_len r]

theorem natsA_get : ∀ (l : List Nat) (i : Nat) (v : AV), (natsA l)[i]? = some v → ∃ n, l[i]? = some n ∧ v = .nat .i64 n
  | [], i, v, h => by simp [natsA] at h
  | n :: r, 0, v, h => by simp [natsA] at h; exact ⟨n, rfl, h.symm⟩
  | n :: r, i + 1, v, h => by simp only [natsA, List.getElem?_cons_succ] at h; simpa using natsA_get r i v h

theorem keys_fit {ι : Inj} {es : List Ent} {ents : Array MapEntry} {ks : List Nat} {clock : Nat} {kt et : TypeId} {P : Program} (hr : ERels ι es ents.toList) (hk : keysN es = some ks) (hs : stampsOk es 0 clock = true) (hle : es.length ≤ 1000000)
    (hkt : P.underlying kt = some (.int .i64)) (het : P.underlying et = some .bool) :
    Fit (H := Unit) P kt (plainElem P et) ents clock ∧ ks.Perm (ks) ∧ ents.size = ks.length ∧ (intKeys (H := Unit) (.map ((ents.toList.map (rg P kt (plainElem P et))).foldr DataW.insert []))).Perm (ks.map Int.ofNat) := by
  obtain ⟨k1, k2, k3, k4, k5, k6, k7⟩ := keys_rel es ents.toList ks 0 clock hr hk hs
  have hsz : ents.size = ks.length := by
    have := congrArg List.length k1
    simp only [List.length_map, Array.length_toList] at this
    exact this
  have rdx : ∀ x ∈ ents.toList, ∃ n b, n ∈ ks ∧ x.key = .int .i64 (Int.ofNat n) ∧ rd (H := Unit) P kt (plainElem P et) x = some (.int .i64 (Int.ofNat n), .lit (.bool b)) := by
    intro x hx
    obtain ⟨b, hb⟩ := k4 x hx
    have hm : x.key ∈ ks.map (fun n => Value.int .i64 (Int.ofNat n)) := by rw [← k1]; exact List.mem_map.2 ⟨x, hx, rfl⟩
    obtain ⟨n, hn, hxk⟩ := List.mem_map.1 hm
    refine ⟨n, b, hn, hxk.symm, ?_⟩
    have hw : (Lit.int .i64 (Int.ofNat n)).wf = true := by
      have h1 := k6 n hn
      have h2 : (Int.ofNat n) ≤ 9223372036854775807 := Int.ofNat_le.2 h1
      have h3 : (0 : Int) ≤ Int.ofNat n := Int.natCast_nonneg n
      simp only [Lit.wf, Bool.and_eq_true, decide_eq_true_eq]
      refine ⟨?_, h2⟩
      show (-9223372036854775808 : Int) ≤ _
      omega
    unfold rd
    rw [← hxk, keyOf_int_mk hkt hw, hb, plainElem_bool het]
    rfl
  refine ⟨⟨?_, ⟨fun x hx => (k2 x hx).2, k3, ?_⟩, fun x hx => ?_⟩, .refl _, hsz, ?_⟩
  · rw [hsz, ← k7]; exact Nat.le_trans hle (by decide)
  · rw [k1]
    exact List.pairwise_map.2 (k5.imp fun {a b} hne h => hne (by injection h with _ h; exact Int.ofNat.inj h))
  · obtain ⟨n, b, _, _, h⟩ := rdx x hx
    exact ⟨_, h⟩
  · show (List.map (fun p => intOf p.1) (List.foldr DataW.insert [] _)).Perm _
    refine ((WideShapes.sorted_perm _).map _).trans ?_
    rw [List.map_map]
    have : List.map ((fun p => intOf p.1) ∘ rg (H := Unit) P kt (plainElem P et)) ents.toList = ents.toList.map (fun x => match x.key with | .int _ a => a | _ => 0) := by
      apply List.map_congr_left
      intro x hx
      obtain ⟨n, b, _, hxk, h⟩ := rdx x hx
      simp only [Function.comp]
      rw [rg_of h, hxk]
      rfl
    rw [this]
    have h2 : ents.toList.map (fun x => match x.key with | .int _ a => a | _ => 0) = (ents.toList.map (·.key)).map (fun v : Value => match v with | .int _ a => a | _ => 0) := by
      rw [List.map_map]; rfl
    rw [h2, k1, List.map_map]
    exact .refl _

theorem sort_summ {f ty kid : Nat} {kt et : TypeId} (he : ∀ args w, (callFunc f args).run E.P w = .ok (.enter f args) w) (hkt : E.P.underlying kt = some (.int .i64)) (het : E.P.underlying et = some .bool)
    (hS : ∀ (cell b nn : Nat) (D0 : DataW Unit) (w : World), cell < w.heap.size → w.cell? ⟨cell, 0, none⟩ = some (.map (some b)) → w.ownsMap E.P kt (plainElem E.P et) b nn D0 → Maps.size D0 ≤ maxLen → Maps.size D0 * 8 ≤ 140737488355328 →
      Calls E.P f #[.func (.func kid) #[] #[.pointer (some ⟨cell, 0, none⟩)]] w fun e w' => ∃ (v : Value) (ss : List Int), e = .returned v ∧ ss.Perm (intKeys D0) ∧
        w'.ownsRow w.heap.size ty 1 v ss.length ((ss.mergeSort (fun x y => decide (x ≤ y))).map encZ) ∧ (v = .slice none 0 0 ↔ ss = []) ∧ Below w.heap.size w w') : SummAt E base f (sortFn ty kid) := by
  refine ⟨fun args h => ?_, fun ι args h v h' args' w hr H hf hv => ?_⟩
  · unfold sortFn
    split
    · refine .bif ?_ (.fail _)
      split
      · refine .bif ?_ (.fail _)
        split
        · split
          · split
            · refine .bif ?_ (.fail _)
              split
              · exact .self
              · exact .newCells fun _ => .up
            · exact .fail _
          · exact .fail _
        · exact .fail _
      · exact .fail _
    · exact .fail _
  · unfold sortFn at hr
    split at hr
    case h_2 => cases hr
    rename_i g b o
    cases hc : (Nat.beq g kid && Nat.beq o 0) <;> rw [hc] at hr <;> simp only [cond_true, cond_false, reduceCtorEq] at hr
    simp only [Bool.and_eq_true] at hc
    obtain rfl := nbeq_iff hc.1
    obtain rfl := nbeq_iff hc.2
    split at hr
    case h_2 => cases hr
    rename_i ty0 size t ro hblk
    cases hc2 : Nat.ble 1 size <;> rw [hc2] at hr <;> simp only [cond_true, cond_false, reduceCtorEq] at hr
    split at hr
    case h_2 => cases hr
    rename_i m hcell
    split at hr
    case h_2 => cases hr
    rename_i es clock hm
    split at hr
    case h_2 => cases hr
    rename_i ks hks
    cases hc3 : (stampsOk es 0 clock && Nat.ble es.length 1000000) <;> rw [hc3] at hr <;> simp only [cond_true, cond_false, reduceCtorEq] at hr
    simp only [Bool.and_eq_true] at hc3
    obtain ⟨x, e1, k1⟩ := hv.one
    simp only [VRel] at k1
    obtain ⟨f', xs, ys, rfl, hfn, hx, hy⟩ := k1
    have hxs : xs = #[] := by
      simp only [VRels] at hx
      exact Array.toList_inj.1 (by simpa using hx)
    subst hxs
    obtain ⟨y, e2, k2⟩ := hy.one
    simp only [VRel] at k2
    obtain ⟨gb, hgb, rfl⟩ := k2
    have hfn : f' = .func g := hfn
    subst hfn
    obtain ⟨C, fr, h1, h2, h3, h4, h5, h6⟩ := H.rel_of hblk hgb
    obtain ⟨hco, _⟩ := h6 rfl
    obtain ⟨u, hu, k3⟩ := h4 0 _ (nble_iff hc2) hcell
    simp only [VRel] at k3
    obtain ⟨gm, hgm, rfl⟩ := k3
    rw [hco, Nat.zero_add] at hu
    obtain ⟨hbm, ents, h7, h8⟩ := H.rel_of hm hgm
    obtain ⟨F, _, hsz, hperm⟩ := keys_fit (P := E.P) (kt := kt) (et := et) h8 hks hc3.1 (nble_iff hc3.2) hkt het
    have hys : ys = #[.pointer (some ⟨gb.cb, 0, none⟩)] := by
      apply Array.toList_inj.1
      rw [e2, hco]
    subst hys
    obtain rfl : args' = #[.func (.func g) #[] #[.pointer (some ⟨gb.cb, 0, none⟩)]] := Array.toList_inj.1 (by rw [e1])
    have hlt : gb.cb < w.heap.size := (Array.getElem?_eq_some_iff.1 h1).1
    have hkl : ks.length ≤ 1000000 := by
      have := keys_rel es ents.toList ks 0 clock h8 hks hc3.1
      rw [← this.2.2.2.2.2.2]
      exact nble_iff hc3.2
    have hlen : Maps.size (H := Unit) (.map ((ents.toList.map (rg E.P kt (plainElem E.P et))).foldr DataW.insert [])) = ks.length := by
      simp only [Maps.size, length_sorted, List.length_map, Array.length_toList]
      exact hsz
    have hC := hS gb.cb gm.cb ents.size _ w hlt (by
      unfold World.cell?
      rw [h1]
      simpa using hu) ⟨ents, clock, h7, F, Nat.le_refl _, rfl⟩ (by rw [hlen]; exact Nat.le_trans hkl (by decide)) (by rw [hlen]; omega)
    refine .inr ⟨he _ _, (callsIn_wide (n := 0)).2 (hC.mono ?_)⟩
    rintro e w' ⟨v', ss, rfl, hss, hrow, hnil, hb⟩
    have hss := hss.trans hperm
    have hmerge := sortN_merge hss
    have hl : ss.length = ks.length := by have := hss.length_eq; simpa using this
    split at hr
    · cases hr
      obtain rfl : ss = [] := List.eq_nil_of_length_eq_zero (by rw [hl]; rfl)
      refine ⟨ι, _, rfl, ?_, Stp.grow H hb.os hb.tape hb.output hb.size hb.block⟩
      simp only [VRel]
      exact hnil.2 rfl
    · rename_i k r hkk
      obtain ⟨next, tr⟩ := h
      obtain ⟨t', e3, e4⟩ := trOf_spec (natsA (sortN (k :: r))) 0 .nil (fun t n => tr.setK (some (.cells ty n t false false)) next fun tr' => (fun b h' => VRes.ok (.sl b 0 (Nat.succ r.length) 1 false) h') next ⟨Nat.succ next, tr'⟩)
      simp only [newCells] at hr
      rw [e3, Tr.setK_eq] at hr
      cases hr
      have hfr : ι next = none := hf next (Nat.le_refl _) (Nat.lt_succ_self _)
      have hnl : (natsA (sortN (k :: r))).length = (k :: r).length := by rw [natsA_len]; exact (sortN_perm _).length_eq
      rcases hrow.2 with ⟨_, hz⟩ | ⟨gb2, cap, cur, rfl, hbase, hgb2, r1, r2, r3, r4⟩
      · rw [hz] at hl; simp at hl
      · rw [hmerge, Nat.mul_one] at r4
        refine ⟨ι.upd next ⟨gb2, 0, cap, none⟩, _, rfl, ?_, Stp.adopt H hb (.cells ty (0 + (natsA (sortN (k :: r))).length) t' false false) ⟨gb2, 0, cap, none⟩ hbase hfr ?_ rfl⟩
        · simp only [VRel]
          refine ⟨⟨gb2, 0, none⟩, cap, ⟨gb2, 0, cap, none⟩, by rw [hl]; rfl, by rw [hl] at r1; exact r1, (fun h => by cases h), Inj.upd_same _ _ _, .inr ⟨rfl, ?_⟩⟩
          simp
        · refine ⟨cur, (0, 0), hgb2, by rw [r3, Nat.mul_one], ?_, fun i v hi hv => ?_, fun _ => ⟨Nat.le_trans H.base hbase, fun o _ h => by simp at h⟩, fun e => by cases e⟩
          · rw [hnl, ← hl]; simpa using r1
          · rw [e4] at hv
            rw [if_pos (by omega)] at hv
            obtain ⟨n, hn, rfl⟩ := natsA_get _ _ _ (by simpa using hv)
            refine ⟨.int .i64 (Int.ofNat n), ?_, VRel.ofNat _ .i64 n⟩
            have hi' : i < ss.length := by rw [hl, ← hnl]; omega
            have h9 : (cur.toList.take ss.length)[i]? = some (Value.int .i64 (Int.ofNat n)) := by
              rw [r4, List.getElem?_map, List.getElem?_map, hn]; rfl
            rw [List.getElem?_take_of_lt hi'] at h9
            simpa using h9
end
end Ev
end Go.Proofs.YtodemhmfnokomaaGreatDoor
namespace Go.Proofs.YtodemhmfnokomaaGreatDoor
namespace Ev
open Go

section
variable {E : Env} {base : Nat}

theorem applyFc_mono (F : Fc) (args : List AV) (h : Heap) : Mono h.next (applyFc F args h) := by
  unfold applyFc
  simp only
  split
  · refine .bif ?_ (.fail _)
    split
    · exact .ok (Nat.le_add_right _ _)
    · exact .fail _
  · exact .fail _

theorem tryFcs_summ (hG : GlobFlat E) {f : FuncId} : ∀ l : List Fc, (∀ F ∈ l, F.f = f ∧ FactOk E F) → SummAt E base f (tryFcs l)
  | [], _ => ⟨fun _ _ => .fail _, fun ι args h v h' args' w he => by simp only [tryFcs, reduceCtorEq] at he⟩
  | F :: r, hl => by
    have ih := tryFcs_summ hG r fun F hF => hl F (List.mem_cons_of_mem _ hF)
    obtain ⟨hf, hF⟩ := hl F (List.mem_cons_self ..)
    refine ⟨fun args h => ?_, fun ι args h v h' args' w he H hfr hv => ?_⟩
    · simp only [tryFcs]
      cases preFc F h F.args args with
      | false => exact ih.1 args h
      | true =>
        simp only [cond_true]
        split
        · rename_i v h' e
          exact .ok (applyFc_mono F args h _ _ e)
        · exact ih.1 args h
    · simp only [tryFcs] at he
      cases hp : preFc F h F.args args with
      | false => rw [hp] at he; exact ih.2 ι args h v h' args' w he H hfr hv
      | true =>
        rw [hp] at he
        simp only [cond_true] at he
        split at he
        · rename_i v1 h1 e
          cases he
          have := applyFc_ok hG hF e H hfr hv
          rwa [hf] at this
        · exact ih.2 ι args h v h' args' w he H hfr hv

theorem fail_summ (f : FuncId) : SummAt E base f (fun _ _ => .fail) := ⟨fun _ _ => .fail _, fun ι args h v h' args' w he => by cases he⟩

theorem summOk_none : SummOk E base (fun _ => none) := fun f s h => by cases h

theorem summOk_add {S : Summ} (hS : SummOk E base S) {g : FuncId} {s : List AV → Heap → VRes} (hs : SummAt E base g s) : SummOk E base (fun f => bif Nat.beq f g then some s else S f) := by
  intro f s' h
  cases hb : Nat.beq f g with
  | true =>
    simp only [hb, cond_true, Option.some.injEq] at h
    subst h
    rw [nbeq_iff hb]
    exact hs
  | false =>
    simp only [hb, cond_false] at h
    exact hS f s' h

theorem summOk_if {S : Summ} (hS : SummOk E base S) {p : FuncId → Bool} : SummOk E base (fun f => bif p f then some (fun _ _ => .fail) else S f) := by
  intro f s' h
  cases hb : p f with
  | true =>
    simp only [hb, cond_true, Option.some.injEq] at h
    subst h
    exact fail_summ f
  | false =>
    simp only [hb, cond_false] at h
    exact hS f s' h

theorem count_foldlN (c : UInt8) : ∀ (l : List UInt8) (n : Nat), l.foldl (fun n x => if x == c then n + 1 else n) n = n + l.count c
  | [], n => by simp
  | x :: r, n => by
    rw [List.foldl_cons, count_foldlN c r, List.count_cons]
    cases x == c <;> simp <;> omega

theorem memN0 {α : Type} {p : α → Prop} : ∀ x ∈ ([] : List α), p x := fun x h => by cases h
theorem memC {α : Type} {p : α → Prop} {a : α} {l : List α} (h : p a) (hl : ∀ x ∈ l, p x) : ∀ x ∈ a :: l, p x := fun x hx => by
  rcases List.mem_cons.1 hx with rfl | hx
  · exact h
  · exact hl x hx

end
end Ev
end Go.Proofs.YtodemhmfnokomaaGreatDoor
namespace Go.Proofs.YtodemhmfnokomaaGreatDoor
namespace Ev
open Go
open Go.RowKit (Below)

def anyT : Tmps := N8.all (N8.all (N8.all .any))

theorem anyT_get (t : Nat) : tmpsGet anyT (pth t) = .any := by
  simp only [tmpsGet_eq, anyT, N8.get_all]

/-- slots laid one by one; of the others nothing is known -/
def slotsT : List (Nat × AV) → Tmps
  | [] => anyT
  | x :: r => tmpsSet (slotsT r) (pth x.1) x.2

theorem slots_frel {ι : Inj} {sz : Nat} {act : Act} (hsz : act.tmps.size = sz) (hle : sz ≤ 448) (hd : act.defers = []) : ∀ l : List (Nat × AV), (∀ p ∈ l, p.1 < 448 ∧ VRel ι p.2 (act.tmps.getD p.1 undef)) → FRel ι ⟨sz, slotsT l, []⟩ act := by
  intro l hl
  refine ⟨hsz, hle, fun t => ?_, by rw [hd]; rfl⟩
  rw [AF.get_eq]
  induction l with
  | nil => show VRel ι (tmpsGet anyT (pth t)) _; rw [anyT_get]; simp only [VRel]
  | cons x r ih =>
    show VRel ι (tmpsGet (tmpsSet (slotsT r) (pth x.1) x.2) (pth t)) _
    by_cases ht : t = x.1
    · rw [ht, tmpsGet_set_same]
      exact (hl x (List.mem_cons_self ..)).2
    · rw [tmpsGet_set_ne _ _ (pth_ne (hl x (List.mem_cons_self ..)).1 ht)]
      exact ih fun p hp => hl p (List.mem_cons_of_mem _ hp)

/-- what a body's end gives -/
def endA (E : Env) (idle : IdleF) (fn : Func) : CRes → VRes
  | .done x a' h' => (match x with
    | .exit _ => .fail
    | .goto _ => .fail
    | _ => leaveA idle a'.ds h' fun h2 => (match resultsA E a' h2 fn.results.toList with
      | some l => .ok (oneTup l) h2
      | none => .fail))
  | .fail => .fail

section
variable {E : Env} {base : Nat} {ι : Inj} {h : Heap} {w w' : World}

theorem end_ok {idle : IdleF} (hI : ∀ f, idle f = true → IdleOk E f) {fn : Func} {x : AX} {a' : AF} {h1 h' : Heap} {v : AV} (he : endA E idle fn (.done x a' h1) = .ok v h') {ι1 : Inj} {w1 : World} {act1 : Act}
    (s1 : Stp E base ι h w ι1 h1 w1) (r1 : FRel ι1 a' act1) {R : Ending → World → Prop} (hR : ∀ e w', CallPost E base ι h w v h' e w' → R e w') : bodyPostM (FW none) 0 E.P fn R x.toExit act1 w1 := by
  have hret : x = .normal ∨ x = .ret := by
    cases x with
    | exit id => cases he
    | goto l => cases he
    | normal => exact .inl rfl
    | ret => exact .inr rfl
  have he' : leaveA idle a'.ds h1 (fun h2 => match resultsA E a' h2 fn.results.toList with | some l => .ok (oneTup l) h2 | none => .fail) = .ok v h' := by
    rcases hret with rfl | rfl <;> exact he
  have main : LeavesInM (FW none) 0 E.P fn act1.tmps R act1.defers .returning w1 := by
    refine leave_ok hI a'.ds act1.defers h1 w1 he' s1.rel r1.ds fun w2 h2 hres hn s2 => ?_
    split at hres
    · rename_i l hl
      cases hres
      obtain ⟨v', k1, k2⟩ := oneTup_ok s2.rel r1.get hl
      exact ⟨v', k2, hR _ _ ⟨ι1, v', rfl, k1, s1.trans s2⟩⟩
    · cases hres
  rcases hret with rfl | rfl <;> exact main

theorem end_next {idle : IdleF} {fn : Func} {x : AX} {a' : AF} {h1 h' : Heap} {v : AV} (he : endA E idle fn (.done x a' h1) = .ok v h') : h1.next ≤ h'.next := by
  have he' : leaveA idle a'.ds h1 (fun h2 => match resultsA E a' h2 fn.results.toList with | some l => .ok (oneTup l) h2 | none => .fail) = .ok v h' := by
    cases x with
    | exit id => cases he
    | goto l => cases he
    | normal => exact he
    | ret => exact he
  refine mono_leave idle a'.ds h1 _ (fun h2 h3 => ?_) _ _ he'
  split
  · exact .ok h3
  · exact .fail _

theorem tail_ok {callF : CallY} {idle : IdleF} (hC : CallsOk E base callF) (hmC : MonoC callF) (hI : ∀ f, idle f = true → IdleOk E f) {fn : Func} {c : Code} (hD : DrawsOk E base callF c)
    {a : AF} {act : Act} {v : AV} {h' : Heap} (he : endA E idle fn (evalC E callF noY false c a h) = .ok v h') (H : HRel E base ι h w) (r : FRel ι a act) (hfr : Free ι h.next h'.next) {R : Ending → World → Prop} (hR : ∀ e w', CallPost E base ι h w v h' e w' → R e w') :
    c.wpIn (FW none) 0 E.P (bodyPostM (FW none) 0 E.P fn R) act w := by
  cases hcode : evalC E callF noY false c a h with
  | fail => rw [hcode] at he; cases he
  | done x a' h1 =>
    rw [hcode] at he
    refine wpIn_mono (code_ok hC hmC c hD noY noY_mono false none (fun _ => rfl) _ _ _ _ _ ι _ w hcode H r (noY_ok _ _ _) (hfr.sub (Nat.le_refl _) (end_next he))) ?_
    rintro e act1 w1 ⟨rfl, ι1, s1, r1⟩
    exact end_ok hI he s1 r1 hR

/-- two pieces, the first being a part of another whole -/
theorem tail2_ok {callF : CallY} {idle : IdleF} (hC : CallsOk E base callF) (hmC : MonoC callF) (hI : ∀ f, idle f = true → IdleOk E f) {fn : Func} {c d : Code} (hD : DrawsOk E base callF c) (hD' : DrawsOk E base callF d)
    {a : AF} {act : Act} {v : AV} {h' : Heap} (he : endA E idle fn (evalC E callF noY false (.seq c d) a h) = .ok v h') (H : HRel E base ι h w) (r : FRel ι a act) (hfr : Free ι h.next h'.next) {R : Ending → World → Prop} (hR : ∀ e w', CallPost E base ι h w v h' e w' → R e w') :
    c.wpIn (FW none) 0 E.P (Exit.then (d.wpIn (FW none) 0 E.P (bodyPostM (FW none) 0 E.P fn R)) (bodyPostM (FW none) 0 E.P fn R)) act w := by
  simp only [evalC] at he
  cases hcode : evalC E callF noY false c a h with
  | fail => rw [hcode] at he; cases he
  | done x a' h1 =>
    rw [hcode] at he
    simp only at he
    have hn : h1.next ≤ h'.next := by
      cases x with
      | normal =>
        simp only at he
        cases hc2 : evalC E callF noY false d a' h1 with
        | fail => rw [hc2] at he; cases he
        | done x2 a2 h2 =>
          rw [hc2] at he
          exact Nat.le_trans (mono_code E hmC noY_mono d false _ _ _ _ _ hc2) (end_next he)
      | ret => exact end_next he
      | exit id => exact end_next he
      | goto l => exact end_next he
    refine wpIn_mono (code_ok hC hmC c hD noY noY_mono false none (fun _ => rfl) _ _ _ _ _ ι _ w hcode H r (noY_ok _ _ _) (hfr.sub (Nat.le_refl _) hn)) ?_
    rintro e act1 w1 ⟨rfl, ι1, s1, r1⟩
    cases x with
    | normal => exact tail_ok hC hmC hI hD' he s1.rel r1 (s1.free hfr) fun e w' p => hR e w' (by
        obtain ⟨ι2, v', e1, e2, s2⟩ := p
        exact ⟨ι2, v', e1, e2, s1.trans s2⟩)
    | ret => exact end_ok hI he s1 r1 hR
    | exit id => cases he
    | goto l => cases he

/-- the rest of a body, quickly -/
noncomputable def tailR (E : Env) (idle : IdleF) (S : Summ) (n sz : Nat) (rs : List ResultVar) (c : Code) (m : Tmps) (h : Heap) : VRes :=
  finK idle (rsK E rs).f ((cCode E sz false c).f (callR E idle S n) noY m [] h fun m' ds' h' => .done .normal ⟨sz, m', ds'⟩ h')

theorem tailR_eq (idle : IdleF) (S : Summ) (n : Nat) (fn : Func) (c : Code) (m : Tmps) (h : Heap) :
    tailR E idle S n fn.ntmps fn.results.toList c m h = endA E idle fn (evalC E (callN E idle S n) noY false c ⟨fn.ntmps, m, []⟩ h) := by
  unfold tailR
  rw [callR_eq, cCode_eq]
  have hk : ∀ r, coK r (fun m' ds' h' => .done .normal ⟨fn.ntmps, m', ds'⟩ h') = r ∨ ∃ a h, r = .done .normal a h := by
    intro r
    cases r with
    | fail => exact .inl rfl
    | done x a h => cases x with
      | normal => exact .inr ⟨a, h, rfl⟩
      | _ => exact .inl rfl
  cases hr : evalC E (callN E idle S n) noY false c ⟨fn.ntmps, m, []⟩ h with
  | fail => rfl
  | done x a' h' =>
    have hsz : a'.sz = fn.ntmps := code_sz E c false _ h _ _ _ hr
    obtain ⟨sz', m', ds'⟩ := a'
    simp only at hsz
    subst hsz
    clear hr
    have main : (match ds' with
        | [] => (rsK E fn.results.toList).f m' h' fun l => .ok (oneTup l) h'
        | d :: ds => leaveA idle (d :: ds) h' fun h2 => (rsK E fn.results.toList).f m' h2 fun l => .ok (oneTup l) h2) =
        leaveA idle ds' h' fun h2 => match resultsA E ⟨fn.ntmps, m', ds'⟩ h2 fn.results.toList with
          | some l => .ok (oneTup l) h2
          | none => .fail := by
      cases ds' with
      | nil => simp only [leaveA]; exact rsK_eq E fn.ntmps m' [] h' _ _
      | cons d ds => simp only [rsK_eq E fn.ntmps m' (d :: ds)]; rfl
    cases x with
    | normal => exact main
    | ret => exact main
    | exit id => rfl
    | goto l => rfl

/-- a result that is true -/
def isTrue : VRes → Bool
  | .ok (.bool true) _ => true
  | _ => false

theorem isTrue_inv {r : VRes} (h : isTrue r = true) : ∃ h', r = .ok (.bool true) h' := by
  unfold isTrue at h
  split at h
  · exact ⟨_, rfl⟩
  · cases h

theorem HRel.start (w : World) (hG : ∀ n cs, E.glob n = some cs → n < w.heap.size ∧ ∃ C T fr, w.heap[n]? = some (.cells C T fr) ∧ VRels (fun _ => none) cs C.toList) : HRel E w.heap.size (fun _ => none) ⟨0, .nil⟩ w := by
  refine ⟨fun b B hb => ?_, fun b B hb => ?_, fun b b' B B' g g' hb => ?_, hG, fun b B g hb => ?_, Nat.le_refl _⟩ <;> · rw [Tr.get_nil] at hb; cases hb

theorem post_below {v : AV} {h' : Heap} {e : Ending} (p : CallPost E w.heap.size (fun _ => none) ⟨0, .nil⟩ w v h' e w') : ∃ ι' v', e = .returned v' ∧ VRel ι' v v' ∧ Below w.heap.size w w' := by
  obtain ⟨ι', v', rfl, hv, s⟩ := p
  refine ⟨ι', v', rfl, hv, s.os, s.tape, s.output, s.size, fun k hk => s.keep k hk ?_⟩
  rintro ⟨b, B, g, hb, _⟩
  rw [Tr.get_nil] at hb; cases hb

theorem post_true {h' : Heap} {e : Ending} (p : CallPost E w.heap.size (fun _ => none) ⟨0, .nil⟩ w (.bool true) h' e w') : e = .returned (.bool true) ∧ Below w.heap.size w w' := by
  obtain ⟨ι', v', rfl, hv, hb⟩ := post_below p
  simp only [VRel] at hv
  subst hv
  exact ⟨rfl, hb⟩

theorem free_none (n m : Nat) : Free (fun _ => none) n m := fun _ _ _ => rfl

/-- the rest of a law's body: true, and what lay there lies there -/
theorem tail_true {idle : IdleF} {bad : FuncId → Bool} {S : Summ} (hP : ProgOk E idle bad) (hS : ∀ base, SummOk E base S) (hb : ∀ f, bad f = true → S f ≠ none) (n : Nat) {fn : Func} {c : Code} (hc : codeOk c = true) (l : List (Nat × AV))
    (hr : isTrue (tailR E idle S n fn.ntmps fn.results.toList c (slotsT l) ⟨0, .nil⟩) = true) {act : Act} {w : World}
    (hG : ∀ n cs, E.glob n = some cs → n < w.heap.size ∧ ∃ C T fr, w.heap[n]? = some (.cells C T fr) ∧ VRels (fun _ => none) cs C.toList)
    (hsz : act.tmps.size = fn.ntmps) (hle : fn.ntmps ≤ 448) (hd : act.defers = []) (hl : ∀ p ∈ l, p.1 < 448 ∧ VRel (fun _ => none) p.2 (act.tmps.getD p.1 undef)) :
    c.wpIn (FW none) 0 E.P (bodyPostM (FW none) 0 E.P fn fun e w' => e = .returned (.bool true) ∧ Below w.heap.size w w') act w := by
  obtain ⟨h', hr⟩ := isTrue_inv hr
  rw [tailR_eq] at hr
  have hC := calls_ok (base := w.heap.size) hP (hS _) hb n
  have hmC := mono_callN E idle (S := S) (fun f s e => ((hS 0) f s e).1) n
  exact tail_ok hC hmC hP.idle (draws_ok hP.mix hC hmC c hc) hr (HRel.start w hG) (slots_frel hsz hle hd l hl) (free_none _ _) fun e w' => post_true

theorem tail2_true {idle : IdleF} {bad : FuncId → Bool} {S : Summ} (hP : ProgOk E idle bad) (hS : ∀ base, SummOk E base S) (hb : ∀ f, bad f = true → S f ≠ none) (n : Nat) {fn : Func} {c d : Code} (hc : codeOk c = true) (hd2 : codeOk d = true) (l : List (Nat × AV))
    (hr : isTrue (tailR E idle S n fn.ntmps fn.results.toList (.seq c d) (slotsT l) ⟨0, .nil⟩) = true) {act : Act} {w : World}
    (hG : ∀ n cs, E.glob n = some cs → n < w.heap.size ∧ ∃ C T fr, w.heap[n]? = some (.cells C T fr) ∧ VRels (fun _ => none) cs C.toList)
    (hsz : act.tmps.size = fn.ntmps) (hle : fn.ntmps ≤ 448) (hd : act.defers = []) (hl : ∀ p ∈ l, p.1 < 448 ∧ VRel (fun _ => none) p.2 (act.tmps.getD p.1 undef)) :
    c.wpIn (FW none) 0 E.P (Exit.then (d.wpIn (FW none) 0 E.P (bodyPostM (FW none) 0 E.P fn fun e w' => e = .returned (.bool true) ∧ Below w.heap.size w w')) (bodyPostM (FW none) 0 E.P fn fun e w' => e = .returned (.bool true) ∧ Below w.heap.size w w')) act w := by
  obtain ⟨h', hr⟩ := isTrue_inv hr
  rw [tailR_eq] at hr
  have hC := calls_ok (base := w.heap.size) hP (hS _) hb n
  have hmC := mono_callN E idle (S := S) (fun f s e => ((hS 0) f s e).1) n
  exact tail2_ok hC hmC hP.idle (draws_ok hP.mix hC hmC c hc) (draws_ok hP.mix hC hmC d hd2) hr (HRel.start w hG) (slots_frel hsz hle hd l hl) (free_none _ _) fun e w' => post_true

/-- a whole law: true, and what lay there lies there -/
theorem whole_true {idle : IdleF} {bad : FuncId → Bool} {S : Summ} (hP : ProgOk E idle bad) (hS : ∀ base, SummOk E base S) (hb : ∀ f, bad f = true → S f ≠ none) (n : Nat) (f : FuncId) (l : List AV)
    (hr : isTrue (callR E idle S n noY f l ⟨0, .nil⟩) = true) {w : World} {args : Array Value} (hbody : hasBody E.P f = true)
    (hG : ∀ n cs, E.glob n = some cs → n < w.heap.size ∧ ∃ C T fr, w.heap[n]? = some (.cells C T fr) ∧ VRels (fun _ => none) cs C.toList) (hl : VRels (fun _ => none) l args.toList) :
    Calls E.P f args w fun e w' => e = .returned (.bool true) ∧ Below w.heap.size w w' := by
  obtain ⟨h', hr⟩ := isTrue_inv hr
  rw [callR_eq] at hr
  have hC := calls_ok (base := w.heap.size) hP (hS _) hb n
  rcases hC (fun _ => none) noY noY_mono (noY_ok _ _ _) f l _ _ _ args w hr (HRel.start w hG) (free_none _ _) hl with ⟨h1, _⟩ | ⟨_, h2⟩
  · rw [hbody] at h1; cases h1
  · exact ((callsIn_wide (n := 0)).1 h2).mono fun e w' => post_true
end
end Ev
end Go.Proofs.YtodemhmfnokomaaGreatDoor
namespace Go.Proofs.YtodemhmfnokomaaGreatDoor
namespace Ev
open Go
open Go.RowKit Go.ChangeShapes Go.WideShapes Go.ChangeAt

theorem trodAll_below {H : Type} {enc : TypeId × Value → H} {P : Program} (hl : laidOutB P = true) {W W' : World} (hb : Below W.heap.size W W') :
    ∀ (ts : List TypeId) (vs : List Value) (ds : List (DataW H)) (ps : List MemPlace), DataW.TrodAll enc P W 0 (fun _ => true) true ts vs ds ps → (ts.all fun t => P.readableRec t && decide (t < P.types.size)) = true → (∀ x ∈ ps, x.block < W.heap.size) →
      DataW.TrodAll enc P W' 0 (fun b => decide (b < W.heap.size)) true ts vs ds ps
  | [], vs, ds, ps, h, _, _ => by
    obtain ⟨rfl, rfl, rfl⟩ := trodAll_nil h
    exact rfl
  | t :: ts, vs, ds, ps, h, ht, hlt => by
    obtain ⟨v, vs', d, ds', p, q, rfl, rfl, rfl, hd, hrest⟩ := trodAll_cons h
    simp only [List.all_cons, Bool.and_eq_true, decide_eq_true_eq] at ht
    exact ⟨p, q, Below.trod hl ht.1.1 ht.1.2 hd hb fun x hx => hlt x (List.mem_append_left _ hx), trodAll_below hl hb ts vs' ds' q hrest (by simpa using ht.2) fun x hx => hlt x (List.mem_append_right _ hx), rfl⟩

end Ev
end Go.Proofs.YtodemhmfnokomaaGreatDoor
