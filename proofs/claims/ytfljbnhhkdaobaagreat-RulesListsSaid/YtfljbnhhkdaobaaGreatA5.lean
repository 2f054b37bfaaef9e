/-
  What functions of the program compute, step by step (printed by a program of this work), part 2.
-/
import Derived.Test.YtfljbnhhkdaobaaGreatA4
namespace Go.Proofs.YtfljbnhhkdaobaaGreat
open Go Go.RowKit Go.Proofs.Bw
set_option linter.unusedVariables false
set_option linter.unusedSimpArgs false
set_option maxHeartbeats 1000000 in
set_option maxRecDepth 20000 in
theorem rmayF_runs (t : T) : ∀ (cs : List Value) (left deep : Int) (w0 : World) (R : Nat → Prop) (hv : VT w0 R cs t) (hb : (-4611686018427387904 ≤ left ∧ left ≤ 4611686018427387904) ∧ -4611686018427387904 ≤ deep ∧ deep ≤ 4611686018427387904),
    Runs Tryz.prog 63 #[.agg cs.toArray, .int .i64 left, .int .i64 deep] w0 fun v w' => v = .int .i64 (mayF t left deep) ∧ Ext w0 w' := by
  induction t using T.ind with
  | h k n s ls ts ih =>
  intro cs left deep w0 R hv hb
  obtain ⟨k, n, s, ls, ts, la, lc, ta, tc, e1, rfl, hk, hn, hs, hl, ht, hL, hT⟩ := hv.inv
  cases e1
  refine Runs.of_W (vs := [_, _, _]) Tryz.func63 rfl rfl ?_
  refine W.seqK fun K1 hK1 => ?_
  refine W.region ?_
  refine Rg.od rfl rfl rfl (OpT.box rfl fun w2 g2 e2 x2 z2 b2 => ?_)
  replace b2 : Box w2 g2 [.int .u8 k, .int .i64 n, .string s, .slice la ls.length lc, .slice ta ts.length tc] := b2
  refine Rg.od rfl rfl rfl (OpT.assign rfl ?_)
  refine Rg.nil ?_
  refine hK1 _ _ ?_
  refine W.seqK fun K3 hK3 => ?_
  refine W.region ?_
  refine Rg.od rfl rfl rfl (OpT.move rfl ?_)
  refine Rg.od rfl rfl rfl (OpT.sub rfl rfl (by first | omega | (unfold lenOk at *; omega)) ?_)
  refine Rg.od rfl rfl rfl (OpT.assign rfl ?_)
  refine Rg.nil ?_
  refine hK3 _ _ ?_
  refine W.seqK fun K4 hK4 => ?_
  refine W.seqK fun K5 hK5 => ?_
  refine W.region ?_
  refine Rg.od rfl rfl rfl (OpT.move rfl ?_)
  refine Rg.od rfl rfl rfl (OpT.lss rfl rfl ?_)
  refine Rg.od rfl rfl rfl (OpT.move rfl ?_)
  rcases Bool.eq_false_or_eq_true (decide ((left - 1) < 0)) with hb6 | hb6
  · have hp6 := of_decide_eq_true hb6
    refine Rg.gn rfl rfl rfl rfl hb6 ?_
    refine Rg.gn rfl rfl rfl rfl hb6 ?_
    refine Rg.od rfl rfl rfl (OpT.pickT rfl hb6 rfl ?_)
    refine Rg.od rfl rfl rfl (OpT.move rfl ?_)
    refine Rg.gn rfl rfl rfl rfl rfl ?_
    refine Rg.gn rfl rfl rfl rfl rfl ?_
    refine Rg.gn rfl rfl rfl rfl rfl ?_
    refine Rg.od rfl rfl rfl (OpT.pickT rfl rfl rfl ?_)
    refine Rg.nil ?_
    refine hK5 _ _ ?_
    refine W.condTb rfl rfl ?_
    refine W.seqK fun K7 hK7 => ?_
    refine W.region ?_
    refine Rg.od rfl rfl rfl (OpT.assign rfl ?_)
    refine Rg.nil ?_
    refine hK7 _ _ ?_
    refine W.ret ?_
    refine ⟨_, Res.one rfl rfl, ?_⟩
    exact ⟨congrArg (Value.int .i64) (by rw [mayF_mk, if_pos (by first | exact .inl (by omega) | exact .inr (.inl (by omega)) | exact .inr (.inr (by simp_all)))]), x2⟩
  · have hp6 := of_decide_eq_false hb6
    refine Rg.gy rfl rfl rfl rfl hb6 (OpT.move rfl ?_)
    refine Rg.gy rfl rfl rfl rfl hb6 (OpT.leq rfl rfl ?_)
    refine Rg.od rfl rfl rfl (OpT.pickF rfl hb6 rfl ?_)
    refine Rg.od rfl rfl rfl (OpT.move rfl ?_)
    rcases Bool.eq_false_or_eq_true (decide (deep ≤ 0)) with hb8 | hb8
    · have hp8 := of_decide_eq_true hb8
      refine Rg.gn rfl rfl rfl rfl hb8 ?_
      refine Rg.gn rfl rfl rfl rfl hb8 ?_
      refine Rg.gn rfl rfl rfl rfl hb8 ?_
      refine Rg.od rfl rfl rfl (OpT.pickT rfl hb8 rfl ?_)
      refine Rg.nil ?_
      refine hK5 _ _ ?_
      refine W.condTb rfl rfl ?_
      refine W.seqK fun K9 hK9 => ?_
      refine W.region ?_
      refine Rg.od rfl rfl rfl (OpT.assign rfl ?_)
      refine Rg.nil ?_
      refine hK9 _ _ ?_
      refine W.ret ?_
      refine ⟨_, Res.one rfl rfl, ?_⟩
      exact ⟨congrArg (Value.int .i64) (by rw [mayF_mk, if_pos (by first | exact .inl (by omega) | exact .inr (.inl (by omega)) | exact .inr (.inr (by simp_all)))]), x2⟩
    · have hp8 := of_decide_eq_false hb8
      refine Rg.gy rfl rfl rfl rfl hb8 (OpT.loadAB Tryz.isAgg33 Tryz.sizeOf33 rfl b2 rfl ?_)
      refine Rg.gy rfl rfl rfl rfl hb8 (OpT.call Tryz.call105 (.cons rfl .nil) (Runs.mono (rnode_runs _ _ _ _ (hv.ext x2)) ?_))
      rintro _ w10 ⟨rfl, x10⟩
      refine Rg.gy rfl rfl rfl rfl hb8 (OpT.notB rfl ?_)
      refine Rg.od rfl rfl rfl (OpT.pickF rfl hb8 rfl ?_)
      refine Rg.nil ?_
      refine hK5 _ _ ?_
      rcases Bool.eq_false_or_eq_true (nodeB (T.mk k n s ls ts)) with hb11 | hb11
      · have hp11 := hb11
        refine W.condFb rfl (nT hb11) ?_
        refine W.skip ?_
        refine hK4 _ _ ?_
        refine W.seqK fun K12 hK12 => ?_
        refine W.seqK fun K13 hK13 => ?_
        refine W.region ?_
        refine Rg.od rfl rfl rfl (OpT.assign rfl ?_)
        refine Rg.nil ?_
        refine hK13 _ _ ?_
        refine W.block ?_
        refine W.loop (σ := Nat) (fun q e w' => Sub [(0, .agg ([.int .u8 k, .int .i64 n, .string s, .slice la ls.length lc, .slice ta ts.length tc].toArray)), (1, .int .i64 (maysF (ts.take q) (left - 1) (deep - 1))), (2, .int .i64 deep), (3, .pointer (some ⟨g2, 0, none⟩)), (6, .int .i64 0), (7, .int .i64 ((q : Nat) : Int)), (8, .int .i64 left), (9, .int .i64 (left - 1)), (10, .int .i64 (left - 1)), (11, .bool (decide ((left - 1) < 0))), (12, .bool (decide ((left - 1) < 0))), (13, .int .i64 deep), (14, .bool (decide (deep ≤ 0))), (15, .bool (decide (deep ≤ 0))), (16, .bool (decide (deep ≤ 0))), (17, .agg ([.int .u8 k, .int .i64 n, .string s, .slice la ls.length lc, .slice ta ts.length tc].toArray)), (18, .bool (nodeB (T.mk k n s ls ts))), (19, .bool (!(nodeB (T.mk k n s ls ts)))), (20, .bool (!(nodeB (T.mk k n s ls ts))))] e ∧ Ext w10 w' ∧ q ≤ ts.length ∧ 0 ≤ (maysF (ts.take q) (left - 1) (deep - 1)) ∧ (maysF (ts.take q) (left - 1) (deep - 1)) ≤ left - 1) (fun q => ts.length - q) 0
          ⟨⟨rfl, by simp only [List.take_zero, maysF]; rfl, rfl, rfl, rfl, rfl, rfl, rfl, rfl, rfl, rfl, rfl, rfl, rfl, rfl, rfl, rfl, rfl, rfl, trivial⟩, Mod.refl _ _, Nat.zero_le _, by simp only [List.take_zero, maysF]; omega, by simp only [List.take_zero, maysF]; omega⟩ ?_
        rintro s14 en14 w14 ⟨hs14, x14, hi14_0, hi14_1, hi14_2⟩
        refine W.sub hs14 ?_
        refine W.seqK fun K15 hK15 => ?_
        refine W.seqK fun K16 hK16 => ?_
        refine W.region ?_
        refine Rg.od rfl rfl rfl (OpT.move rfl ?_)
        refine Rg.od rfl rfl rfl (OpT.fieldAddrB (off := 4) Tryz.underlying33 rfl Tryz.sizeOf31 rfl rfl ?_)
        refine Rg.od rfl rfl rfl (OpT.loadB Tryz.isAgg31 rfl (b2.ext (x10.trans x14)) rfl ?_)
        refine Rg.od rfl rfl rfl (OpT.lenS Tryz.underlying31 rfl ?_)
        refine Rg.od rfl rfl rfl (OpT.lss rfl rfl ?_)
        refine Rg.nil ?_
        refine hK16 _ _ ?_
        rcases Bool.eq_false_or_eq_true (decide (((s14 : Nat) : Int) < ((ts.length : Nat) : Int))) with hb17 | hb17
        · have hp17 := of_decide_eq_true hb17
          refine W.condTb rfl hb17 ?_
          refine W.skip ?_
          refine hK15 _ _ ?_
          refine W.seqK fun K18 hK18 => ?_
          refine W.block ?_
          refine W.seqK fun K19 hK19 => ?_
          refine W.region ?_
          refine Rg.od rfl rfl rfl (OpT.fieldAddrB (off := 4) Tryz.underlying33 rfl Tryz.sizeOf31 rfl rfl ?_)
          refine Rg.od rfl rfl rfl (OpT.loadB Tryz.isAgg31 rfl (b2.ext (x10.trans x14)) rfl ?_)
          refine Rg.od rfl rfl rfl (OpT.move rfl ?_)
          obtain ⟨a20, cs20, ha20, hr20, hw20, hv20⟩ := hT.at (i := s14) (by first | omega | (unfold lenOk at *; omega))
          obtain ⟨k20, n20, s20, ls20, ts20, la20, lc20, ta20, tc20, et20, rfl, hk20, hn20, hs20, hl20, ht20, hL20, hT20⟩ := hv20.inv
          refine Rg.od rfl rfl rfl (OpT.indexAddr Tryz.underlying31 Tryz.sizeOf33 rfl rfl ha20 (by first | omega | (unfold lenOk at *; omega)) ?_)
          refine Rg.od rfl rfl rfl (OpT.loadA (cs := [.int .u8 k20, .int .i64 n20, .string s20, .slice la20 ls20.length lc20, .slice ta20 ts20.length tc20]) Tryz.isAgg33 Tryz.sizeOf33 rfl (hw20.ext ((x2.trans x10).trans x14)) ?_)
          refine Rg.od rfl rfl rfl (OpT.move rfl ?_)
          refine Rg.od rfl rfl rfl (OpT.move rfl ?_)
          refine Rg.od rfl rfl rfl (OpT.sub rfl rfl (by first | omega | (unfold lenOk at *; omega)) ?_)
          refine Rg.od rfl rfl rfl (OpT.call Tryz.call63 (.cons rfl (.cons rfl (.cons rfl .nil))) (Runs.mono (ih _ (List.getElem_mem _) _ _ _ _ _ (hv20.ext ((x2.trans x10).trans x14)) (by omega)) ?_))
          rintro _ w21 ⟨rfl, x21⟩
          refine Rg.od rfl rfl rfl (OpT.assign rfl ?_)
          refine Rg.nil ?_
          refine hK19 _ _ ?_
          refine W.seqK fun K22 hK22 => ?_
          refine W.region ?_
          refine Rg.od rfl rfl rfl (OpT.move rfl ?_)
          refine Rg.od rfl rfl rfl (OpT.lss rfl rfl ?_)
          refine Rg.nil ?_
          refine hK22 _ _ ?_
          rcases Bool.eq_false_or_eq_true (decide ((mayF (ts[s14]) (maysF (ts.take s14) (left - 1) (deep - 1)) (deep - 1)) < 0)) with hb23 | hb23
          · have hp23 := of_decide_eq_true hb23
            refine W.condTb rfl hb23 ?_
            refine W.seqK fun K24 hK24 => ?_
            refine W.region ?_
            refine Rg.od rfl rfl rfl (OpT.assign rfl ?_)
            refine Rg.nil ?_
            refine hK24 _ _ ?_
            refine W.ret ?_
            refine ⟨_, Res.one rfl rfl, ?_⟩
            have hst := (maysF_step ts s14 (by omega) (left - 1) (deep - 1) (by omega) (by omega)).2 (by omega)
            exact ⟨congrArg (Value.int .i64) (by rw [mayF_mk, if_neg (by rintro (h | h | h) <;> first | omega | simp_all), hst]), (((x2.trans x10).trans x14).trans x21)⟩
          · have hp23 := of_decide_eq_false hb23
            refine W.condFb rfl hb23 ?_
            refine W.skip ?_
            refine hK18 _ _ ?_
            refine W.region ?_
            refine Rg.od rfl rfl rfl (OpT.move rfl ?_)
            refine Rg.od rfl rfl rfl (OpT.add rfl rfl (by first | omega | (unfold lenOk at *; omega)) ?_)
            refine Rg.od rfl rfl rfl (OpT.assign rfl ?_)
            refine Rg.nil ?_
            have hst := (maysF_step ts s14 (by omega) (left - 1) (deep - 1) (by omega) (by omega)).1 (by omega)
            have hng := mayF_neg ts[s14] (maysF (ts.take s14) (left - 1) (deep - 1)) (deep - 1)
            exact ⟨s14 + 1, ⟨⟨rfl, by rw [hst]; rfl, rfl, rfl, rfl, rfl, rfl, rfl, rfl, rfl, rfl, rfl, rfl, rfl, rfl, rfl, rfl, rfl, rfl, trivial⟩, (x14.trans x21), by omega, by omega, by omega⟩, by omega⟩
        · have hp17 := of_decide_eq_false hb17
          refine W.condFb rfl hb17 ?_
          refine W.exit ?_
          refine hK12 _ _ ?_
          refine W.seqK fun K25 hK25 => ?_
          refine W.region ?_
          refine Rg.od rfl rfl rfl (OpT.move rfl ?_)
          refine Rg.od rfl rfl rfl (OpT.assign rfl ?_)
          refine Rg.nil ?_
          refine hK25 _ _ ?_
          refine W.ret ?_
          refine ⟨_, Res.one rfl rfl, ?_⟩
          have hsz : s14 = ts.length := by omega
          exact ⟨congrArg (Value.int .i64) (by rw [mayF_mk, if_neg (by rintro (h | h | h) <;> first | omega | simp_all), hsz, List.take_length]), ((x2.trans x10).trans x14)⟩
      · have hp11 := hb11
        refine W.condTb rfl (nF hb11) ?_
        refine W.seqK fun K26 hK26 => ?_
        refine W.region ?_
        refine Rg.od rfl rfl rfl (OpT.assign rfl ?_)
        refine Rg.nil ?_
        refine hK26 _ _ ?_
        refine W.ret ?_
        refine ⟨_, Res.one rfl rfl, ?_⟩
        exact ⟨congrArg (Value.int .i64) (by rw [mayF_mk, if_pos (by first | exact .inl (by omega) | exact .inr (.inl (by omega)) | exact .inr (.inr (by simp_all)))]), (x2.trans x10)⟩
set_option maxHeartbeats 1000000 in
set_option maxRecDepth 20000 in
theorem rMay_runs (t : T) (cs : List Value) (w0 : World) (R : Nat → Prop) (hv : VT w0 R cs t) : Runs Tryz.prog 26 #[.agg cs.toArray] w0 fun v w' => v = .bool (mayT t) ∧ Ext w0 w' := by
  obtain ⟨k, n, s, ls, ts, la, lc, ta, tc, rfl, rfl, hk, hn, hs, hl, ht, hL, hT⟩ := hv.inv
  refine Runs.of_W (vs := [_]) Tryz.func26 rfl rfl ?_
  refine W.seqK fun K1 hK1 => ?_
  refine W.region ?_
  refine Rg.od rfl rfl rfl (OpT.box rfl fun w2 g2 e2 x2 z2 b2 => ?_)
  replace b2 : Box w2 g2 [.int .u8 k, .int .i64 n, .string s, .slice la ls.length lc, .slice ta ts.length tc] := b2
  refine Rg.od rfl rfl rfl (OpT.assign rfl ?_)
  refine Rg.nil ?_
  refine hK1 _ _ ?_
  refine W.seqK fun K3 hK3 => ?_
  refine W.region ?_
  refine Rg.od rfl rfl rfl (OpT.loadAB Tryz.isAgg33 Tryz.sizeOf33 rfl b2 rfl ?_)
  refine Rg.od rfl rfl rfl (OpT.call Tryz.call63 (.cons rfl (.cons rfl (.cons rfl .nil))) (Runs.mono (rmayF_runs _ _ _ _ _ _ (hv.ext x2) (by omega)) ?_))
  rintro _ w4 ⟨rfl, x4⟩
  refine Rg.od rfl rfl rfl (OpT.geq rfl rfl ?_)
  refine Rg.od rfl rfl rfl (OpT.assign rfl ?_)
  refine Rg.nil ?_
  refine hK3 _ _ ?_
  refine W.ret ?_
  refine ⟨_, Res.one rfl rfl, ?_⟩
  exact ⟨congrArg Value.bool (mayF_T _), (x2.trans x4)⟩
set_option maxHeartbeats 1000000 in
set_option maxRecDepth 20000 in
theorem rSize_runs (t : T) : ∀ (cs : List Value) (w0 : World) (R : Nat → Prop) (hv : VT w0 R cs t) (hsz : size t < 4611686018427387904),
    Runs Tryz.prog 33 #[.agg cs.toArray] w0 fun v w' => v = .int .i64 ((size t : Nat) : Int) ∧ Ext w0 w' := by
  induction t using T.ind with
  | h k n s ls ts ih =>
  intro cs w0 R hv hsz
  obtain ⟨k, n, s, ls, ts, la, lc, ta, tc, e1, rfl, hk, hn, hs, hl, ht, hL, hT⟩ := hv.inv
  cases e1
  simp only [size] at hsz
  refine Runs.of_W (vs := [_]) Tryz.func33 rfl rfl ?_
  refine W.seqK fun K1 hK1 => ?_
  refine W.region ?_
  refine Rg.od rfl rfl rfl (OpT.box rfl fun w2 g2 e2 x2 z2 b2 => ?_)
  replace b2 : Box w2 g2 [.int .u8 k, .int .i64 n, .string s, .slice la ls.length lc, .slice ta ts.length tc] := b2
  refine Rg.od rfl rfl rfl (OpT.assign rfl ?_)
  refine Rg.nil ?_
  refine hK1 _ _ ?_
  refine W.seqK fun K3 hK3 => ?_
  refine W.region ?_
  refine Rg.od rfl rfl rfl (OpT.assign rfl ?_)
  refine Rg.nil ?_
  refine hK3 _ _ ?_
  refine W.seqK fun K4 hK4 => ?_
  refine W.seqK fun K5 hK5 => ?_
  refine W.region ?_
  refine Rg.od rfl rfl rfl (OpT.assign rfl ?_)
  refine Rg.nil ?_
  refine hK5 _ _ ?_
  refine W.block ?_
  refine W.loop (σ := Nat) (fun q e w' => Sub [(0, .agg ([.int .u8 k, .int .i64 n, .string s, .slice la ls.length lc, .slice ta ts.length tc].toArray)), (1, .pointer (some ⟨g2, 0, none⟩)), (2, .int .i64 0), (3, .int .i64 (((1 + sizes (ts.take q)) : Nat) : Int)), (4, .int .i64 ((q : Nat) : Int))] e ∧ Ext w2 w' ∧ q ≤ ts.length) (fun q => ts.length - q) 0
    ⟨⟨rfl, rfl, rfl, rfl, rfl, trivial⟩, Mod.refl _ _, Nat.zero_le _⟩ ?_
  rintro s6 en6 w6 ⟨hs6, x6, hi6_0⟩
  refine W.sub hs6 ?_
  refine W.seqK fun K7 hK7 => ?_
  refine W.seqK fun K8 hK8 => ?_
  refine W.region ?_
  refine Rg.od rfl rfl rfl (OpT.move rfl ?_)
  refine Rg.od rfl rfl rfl (OpT.fieldAddrB (off := 4) Tryz.underlying33 rfl Tryz.sizeOf31 rfl rfl ?_)
  refine Rg.od rfl rfl rfl (OpT.loadB Tryz.isAgg31 rfl (b2.ext x6) rfl ?_)
  refine Rg.od rfl rfl rfl (OpT.lenS Tryz.underlying31 rfl ?_)
  refine Rg.od rfl rfl rfl (OpT.lss rfl rfl ?_)
  refine Rg.nil ?_
  refine hK8 _ _ ?_
  rcases Bool.eq_false_or_eq_true (decide (((s6 : Nat) : Int) < ((ts.length : Nat) : Int))) with hb9 | hb9
  · have hp9 := of_decide_eq_true hb9
    refine W.condTb rfl hb9 ?_
    refine W.skip ?_
    refine hK7 _ _ ?_
    refine W.seqK fun K10 hK10 => ?_
    refine W.block ?_
    refine W.region ?_
    refine Rg.od rfl rfl rfl (OpT.move rfl ?_)
    refine Rg.od rfl rfl rfl (OpT.fieldAddrB (off := 4) Tryz.underlying33 rfl Tryz.sizeOf31 rfl rfl ?_)
    refine Rg.od rfl rfl rfl (OpT.loadB Tryz.isAgg31 rfl (b2.ext x6) rfl ?_)
    refine Rg.od rfl rfl rfl (OpT.move rfl ?_)
    obtain ⟨a11, cs11, ha11, hr11, hw11, hv11⟩ := hT.at (i := s6) (by first | omega | (unfold lenOk at *; omega))
    obtain ⟨k11, n11, s11, ls11, ts11, la11, lc11, ta11, tc11, et11, rfl, hk11, hn11, hs11, hl11, ht11, hL11, hT11⟩ := hv11.inv
    refine Rg.od rfl rfl rfl (OpT.indexAddr Tryz.underlying31 Tryz.sizeOf33 rfl rfl ha11 (by first | omega | (unfold lenOk at *; omega)) ?_)
    refine Rg.od rfl rfl rfl (OpT.loadA (cs := [.int .u8 k11, .int .i64 n11, .string s11, .slice la11 ls11.length lc11, .slice ta11 ts11.length tc11]) Tryz.isAgg33 Tryz.sizeOf33 rfl (hw11.ext (x2.trans x6)) ?_)
    refine Rg.od rfl rfl rfl (OpT.call Tryz.call33 (.cons rfl .nil) (Runs.mono (ih _ (List.getElem_mem _) _ _ _ (hv11.ext (x2.trans x6)) (by have := sizes_take_le ts (s6 + 1); have := sizes_take ts s6 (by omega); omega)) ?_))
    rintro _ w12 ⟨rfl, x12⟩
    have hst := sizes_take ts s6 (by omega)
    have hle := sizes_take_le ts (s6 + 1)
    refine Rg.od rfl rfl rfl (OpT.add rfl rfl (by first | omega | (unfold lenOk at *; omega)) ?_)
    refine Rg.od rfl rfl rfl (OpT.assign rfl ?_)
    refine Rg.nil ?_
    refine hK10 _ _ ?_
    refine W.region ?_
    refine Rg.od rfl rfl rfl (OpT.move rfl ?_)
    refine Rg.od rfl rfl rfl (OpT.add rfl rfl (by first | omega | (unfold lenOk at *; omega)) ?_)
    refine Rg.od rfl rfl rfl (OpT.assign rfl ?_)
    refine Rg.nil ?_
    exact ⟨s6 + 1, ⟨⟨rfl, rfl, rfl, intSlot (by rw [hst]; omega) rfl, rfl, trivial⟩, (x6.trans x12), by omega⟩, by omega⟩
  · have hp9 := of_decide_eq_false hb9
    refine W.condFb rfl hb9 ?_
    refine W.exit ?_
    refine hK4 _ _ ?_
    refine W.seqK fun K13 hK13 => ?_
    refine W.region ?_
    refine Rg.od rfl rfl rfl (OpT.move rfl ?_)
    refine Rg.od rfl rfl rfl (OpT.assign rfl ?_)
    refine Rg.nil ?_
    refine hK13 _ _ ?_
    refine W.ret ?_
    refine ⟨_, Res.one rfl rfl, ?_⟩
    have hsz : s6 = ts.length := by omega
    exact ⟨congrArg (Value.int .i64) (by rw [hsz, List.take_length]; rfl), (x2.trans x6)⟩
set_option maxHeartbeats 1000000 in
set_option maxRecDepth 20000 in
theorem may1_runs (t : T) : ∀ (cs : List Value) (deep : Int) (w0 : World) (R : Nat → Prop) (hv : VT w0 R cs t) (left : Int) (hb : (0 ≤ left ∧ left ≤ 65536) ∧ -4096 ≤ deep ∧ deep ≤ 4096) (gl gm : Nat)
    (bl : Box w0 gl [.int .i64 left]) (bm : Box w0 gm [.func (.func 137) #[] #[.pointer (some ⟨gl, 0, none⟩), .pointer (some ⟨gm, 0, none⟩)]]) (hne : gl ≠ gm) (off_gl : ¬ R gl) (off_gm : ¬ R gm),
    Runs Tryz.prog 137 #[.agg cs.toArray, .int .i64 deep, .pointer (some ⟨gl, 0, none⟩), .pointer (some ⟨gm, 0, none⟩)] w0 fun v w' => ∃ lf : Int, v = .bool (decide (0 ≤ mayF t left deep)) ∧ Box w' gl [.int .i64 lf] ∧ Upd gl w0 w' ∧
      (decide (0 ≤ mayF t left deep) = true → lf = mayF t left deep) ∧ -1 ≤ lf := by
  induction t using T.ind with
  | h k n s ls ts ih =>
  intro cs deep w0 R hv left hb gl gm bl bm hne off_gl off_gm
  obtain ⟨k, n, s, ls, ts, la, lc, ta, tc, e1, rfl, hk, hn, hs, hl, ht, hL, hT⟩ := hv.inv
  cases e1
  refine Runs.of_W (vs := [_, _, _, _]) Tryz.func137 rfl rfl ?_
  refine W.seqK fun K1 hK1 => ?_
  refine W.region ?_
  refine Rg.od rfl rfl rfl (OpT.box rfl fun w2 g2 e2 x2 z2 b2 => ?_)
  replace b2 : Box w2 g2 [.int .u8 k, .int .i64 n, .string s, .slice la ls.length lc, .slice ta ts.length tc] := b2
  refine Rg.od rfl rfl rfl (OpT.assign rfl ?_)
  refine Rg.nil ?_
  refine hK1 _ _ ?_
  refine W.seqK fun K3 hK3 => ?_
  refine W.seqK fun K4 hK4 => ?_
  refine W.region ?_
  refine Rg.od rfl rfl rfl (OpT.loadB Tryz.isAgg3 rfl (bl.ext x2) rfl ?_)
  refine Rg.od rfl rfl rfl (OpT.sub rfl rfl (by first | omega | (unfold lenOk at *; omega)) ?_)
  refine Rg.on rfl rfl (OpT.store Tryz.sizeOf3 rfl rfl rfl (bl.ext x2) rfl fun w5 m5 z5 b5 => ?_)
  replace b5 : Box w5 gl [.int .i64 (left - 1)] := b5
  refine Rg.nil ?_
  refine hK4 _ _ ?_
  refine W.seqK fun K6 hK6 => ?_
  refine W.region ?_
  refine Rg.od rfl rfl rfl (OpT.loadB Tryz.isAgg3 rfl b5 rfl ?_)
  refine Rg.od rfl rfl rfl (OpT.lss rfl rfl ?_)
  refine Rg.od rfl rfl rfl (OpT.move rfl ?_)
  rcases Bool.eq_false_or_eq_true (decide ((left - 1) < 0)) with hb7 | hb7
  · have hp7 := of_decide_eq_true hb7
    refine Rg.gn rfl rfl rfl rfl hb7 ?_
    refine Rg.gn rfl rfl rfl rfl hb7 ?_
    refine Rg.od rfl rfl rfl (OpT.pickT rfl hb7 rfl ?_)
    refine Rg.od rfl rfl rfl (OpT.move rfl ?_)
    refine Rg.gn rfl rfl rfl rfl rfl ?_
    refine Rg.gn rfl rfl rfl rfl rfl ?_
    refine Rg.gn rfl rfl rfl rfl rfl ?_
    refine Rg.od rfl rfl rfl (OpT.pickT rfl rfl rfl ?_)
    refine Rg.nil ?_
    refine hK6 _ _ ?_
    refine W.condTb rfl rfl ?_
    refine W.seqK fun K8 hK8 => ?_
    refine W.region ?_
    refine Rg.od rfl rfl rfl (OpT.assign rfl ?_)
    refine Rg.nil ?_
    refine hK8 _ _ ?_
    refine W.ret ?_
    refine ⟨_, Res.one rfl rfl, ?_⟩
    have hfin : mayF (.mk k n s ls ts) left deep = -1 := by rw [mayF_mk, if_pos (by first | exact .inl (by omega) | exact .inr (.inl (by omega)) | exact .inr (.inr (by simp_all)))]
    exact ⟨(left - 1), congrArg Value.bool (by rw [hfin]; rfl), b5, (x2.toUpd.trans m5), (fun h => by rw [hfin] at h; cases h), by omega⟩
  · have hp7 := of_decide_eq_false hb7
    refine Rg.gy rfl rfl rfl rfl hb7 (OpT.move rfl ?_)
    refine Rg.gy rfl rfl rfl rfl hb7 (OpT.leq rfl rfl ?_)
    refine Rg.od rfl rfl rfl (OpT.pickF rfl hb7 rfl ?_)
    refine Rg.od rfl rfl rfl (OpT.move rfl ?_)
    rcases Bool.eq_false_or_eq_true (decide (deep ≤ 0)) with hb9 | hb9
    · have hp9 := of_decide_eq_true hb9
      refine Rg.gn rfl rfl rfl rfl hb9 ?_
      refine Rg.gn rfl rfl rfl rfl hb9 ?_
      refine Rg.gn rfl rfl rfl rfl hb9 ?_
      refine Rg.od rfl rfl rfl (OpT.pickT rfl hb9 rfl ?_)
      refine Rg.nil ?_
      refine hK6 _ _ ?_
      refine W.condTb rfl rfl ?_
      refine W.seqK fun K10 hK10 => ?_
      refine W.region ?_
      refine Rg.od rfl rfl rfl (OpT.assign rfl ?_)
      refine Rg.nil ?_
      refine hK10 _ _ ?_
      refine W.ret ?_
      refine ⟨_, Res.one rfl rfl, ?_⟩
      have hfin : mayF (.mk k n s ls ts) left deep = -1 := by rw [mayF_mk, if_pos (by first | exact .inl (by omega) | exact .inr (.inl (by omega)) | exact .inr (.inr (by simp_all)))]
      exact ⟨(left - 1), congrArg Value.bool (by rw [hfin]; rfl), b5, (x2.toUpd.trans m5), (fun h => by rw [hfin] at h; cases h), by omega⟩
    · have hp9 := of_decide_eq_false hb9
      refine Rg.gy rfl rfl rfl rfl hb9 (OpT.loadAB Tryz.isAgg33 Tryz.sizeOf33 rfl (b2.upd m5 (by have h1 := Nat.le_refl w0.heap.size; have h2 := bl.lt; omega)) rfl ?_)
      refine Rg.gy rfl rfl rfl rfl hb9 (OpT.call Tryz.call138 (.cons rfl .nil) (Runs.mono (node_runs _ _ _ _ ((hv.ext x2).upd m5 off_gl)) ?_))
      rintro _ w11 ⟨rfl, x11⟩
      refine Rg.gy rfl rfl rfl rfl hb9 (OpT.notB rfl ?_)
      refine Rg.od rfl rfl rfl (OpT.pickF rfl hb9 rfl ?_)
      refine Rg.nil ?_
      refine hK6 _ _ ?_
      rcases Bool.eq_false_or_eq_true (nodeB (T.mk k n s ls ts)) with hb12 | hb12
      · have hp12 := hb12
        refine W.condFb rfl (nT hb12) ?_
        refine W.skip ?_
        refine hK3 _ _ ?_
        refine W.seqK fun K13 hK13 => ?_
        refine W.seqK fun K14 hK14 => ?_
        refine W.region ?_
        refine Rg.od rfl rfl rfl (OpT.fieldAddrB (off := 4) Tryz.underlying33 rfl Tryz.sizeOf31 rfl rfl ?_)
        refine Rg.od rfl rfl rfl (OpT.loadB Tryz.isAgg31 rfl ((b2.upd m5 (by have h1 := Nat.le_refl w0.heap.size; have h2 := bl.lt; omega)).ext x11) rfl ?_)
        refine Rg.od rfl rfl rfl (OpT.lenS Tryz.underlying31 rfl ?_)
        refine Rg.od rfl rfl rfl (OpT.move rfl ?_)
        refine Rg.nil ?_
        refine hK14 _ _ ?_
        refine W.block ?_
        refine W.loop (σ := Nat) (fun q e w' => Sub [(0, .agg ([.int .u8 k, .int .i64 n, .string s, .slice la ls.length lc, .slice ta ts.length tc].toArray)), (1, .int .i64 deep), (2, .pointer (some ⟨gl, 0, none⟩)), (3, .pointer (some ⟨gm, 0, none⟩)), (4, .pointer (some ⟨g2, 0, none⟩)), (6, .bool false), (9, .int .i64 left), (10, .int .i64 (left - 1)), (11, .int .i64 (left - 1)), (12, .bool (decide ((left - 1) < 0))), (13, .bool (decide ((left - 1) < 0))), (14, .int .i64 deep), (15, .bool (decide (deep ≤ 0))), (16, .bool (decide (deep ≤ 0))), (17, .bool (decide (deep ≤ 0))), (18, .agg ([.int .u8 k, .int .i64 n, .string s, .slice la ls.length lc, .slice ta ts.length tc].toArray)), (19, .bool (nodeB (T.mk k n s ls ts))), (20, .bool (!(nodeB (T.mk k n s ls ts)))), (21, .bool (!(nodeB (T.mk k n s ls ts)))), (22, .pointer (some ⟨g2, 4, none⟩)), (23, .slice ta ts.length tc), (24, .int .i64 ((ts.length : Nat) : Int)), (25, .int .i64 ((q : Nat) : Int))] e ∧ Upd gl w11 w' ∧ Box w' gl [.int .i64 (maysF (ts.take q) (left - 1) (deep - 1))] ∧ q ≤ ts.length ∧ 0 ≤ (maysF (ts.take q) (left - 1) (deep - 1)) ∧ (maysF (ts.take q) (left - 1) (deep - 1)) ≤ left - 1) (fun q => ts.length - q) 0
          ⟨⟨rfl, rfl, rfl, rfl, rfl, rfl, rfl, rfl, rfl, rfl, rfl, rfl, rfl, rfl, rfl, rfl, rfl, rfl, rfl, rfl, rfl, rfl, rfl, trivial⟩, Mod.refl _ _, (by rw [show (maysF (ts.take 0) (left - 1) (deep - 1)) = left - 1 by rw [List.take_zero, maysF_nil]]; exact (b5.ext x11)), Nat.zero_le _, by rw [List.take_zero, maysF_nil]; omega, by rw [List.take_zero, maysF_nil]; omega⟩ ?_
        rintro s15 en15 w15 ⟨hs15, x15, b15, hi15_0, hi15_1, hi15_2⟩
        refine W.sub hs15 ?_
        refine W.seqK fun K16 hK16 => ?_
        refine W.region ?_
        refine Rg.od rfl rfl rfl (OpT.lss rfl rfl ?_)
        refine Rg.nil ?_
        refine hK16 _ _ ?_
        refine W.seqK fun K17 hK17 => ?_
        rcases Bool.eq_false_or_eq_true (decide (((s15 : Nat) : Int) < ((ts.length : Nat) : Int))) with hb18 | hb18
        · have hp18 := of_decide_eq_true hb18
          refine W.condTb rfl hb18 ?_
          refine W.skip ?_
          refine hK17 _ _ ?_
          refine W.seqK fun K19 hK19 => ?_
          refine W.block ?_
          refine W.seqK fun K20 hK20 => ?_
          refine W.region ?_
          obtain ⟨a21, cs21, ha21, hr21, hw21, hv21⟩ := hT.at (i := s15) (by first | omega | (unfold lenOk at *; omega))
          obtain ⟨k21, n21, s21, ls21, ts21, la21, lc21, ta21, tc21, et21, rfl, hk21, hn21, hs21, hl21, ht21, hL21, hT21⟩ := hv21.inv
          refine Rg.od rfl rfl rfl (OpT.indexAddr Tryz.underlying31 Tryz.sizeOf33 rfl rfl ha21 (by first | omega | (unfold lenOk at *; omega)) ?_)
          refine Rg.od rfl rfl rfl (OpT.loadA (cs := [.int .u8 k21, .int .i64 n21, .string s21, .slice la21 ls21.length lc21, .slice ta21 ts21.length tc21]) Tryz.isAgg33 Tryz.sizeOf33 rfl ((((hw21.ext x2).upd m5 (fun h => off_gl (h ▸ (by rw [block_add]; exact hr21)))).ext x11).upd x15 (fun h => off_gl (h ▸ (by rw [block_add]; exact hr21)))) ?_)
          refine Rg.od rfl rfl rfl (OpT.alloc Tryz.zeroValue33 fun w22 g22 e22 x22 z22 b22 => ?_)
          replace b22 : Box w22 g22 [.int .u8 0, .int .i64 0, .string (⟨#[]⟩ : ByteArray), .slice none 0 0, .slice none 0 0] := b22
          refine Rg.on rfl rfl (OpT.storeA Tryz.sizeOf33 rfl rfl rfl rfl b22 rfl fun w23 m23 z23 b23 => ?_)
          replace b23 : Box w23 g22 [.int .u8 k21, .int .i64 n21, .string s21, .slice la21 ls21.length lc21, .slice ta21 ts21.length tc21] := b23
          refine Rg.nil ?_
          refine hK20 _ _ ?_
          refine W.seqK fun K24 hK24 => ?_
          refine W.region ?_
          refine Rg.od rfl rfl rfl (OpT.loadB Tryz.isAgg152 rfl ((((((bm.ext x2).upd m5 hne.symm).ext x11).upd x15 hne.symm).ext x22).upd m23 (by have h1 := Nat.le_trans (Nat.le_trans (Nat.le_trans (Nat.le_trans (Nat.le_refl w0.heap.size) x2.size) m5.size) x11.size) x15.size; have h2 := bm.lt; omega)) rfl ?_)
          refine Rg.od rfl rfl rfl (OpT.loadAB Tryz.isAgg33 Tryz.sizeOf33 rfl b23 rfl ?_)
          refine Rg.od rfl rfl rfl (OpT.move rfl ?_)
          refine Rg.od rfl rfl rfl (OpT.sub rfl rfl (by first | omega | (unfold lenOk at *; omega)) ?_)
          refine Rg.od rfl rfl rfl (OpT.callV Tryz.call137 rfl (.cons rfl (.cons rfl .nil)) (Runs.mono (ih _ (List.getElem_mem _) _ _ _ _ (((((hv21.ext x2).upd m5 off_gl).ext x11).upd x15 off_gl).ext (x22.upd m23 (by omega))) _ (by omega) gl gm ((b15.ext x22).upd m23 (by have h1 := Nat.le_trans (Nat.le_trans (Nat.le_trans (Nat.le_trans (Nat.le_refl w0.heap.size) x2.size) m5.size) x11.size) x15.size; have h2 := bl.lt; omega)) ((((((bm.ext x2).upd m5 hne.symm).ext x11).upd x15 hne.symm).ext x22).upd m23 (by have h1 := Nat.le_trans (Nat.le_trans (Nat.le_trans (Nat.le_trans (Nat.le_refl w0.heap.size) x2.size) m5.size) x11.size) x15.size; have h2 := bm.lt; omega)) hne off_gl off_gm) ?_))
          rintro _ w25 ⟨lf25, rfl, b25, x25, hlf25, hle25⟩
          refine Rg.od rfl rfl rfl (OpT.notB rfl ?_)
          refine Rg.nil ?_
          refine hK24 _ _ ?_
          rcases Bool.eq_false_or_eq_true (decide (0 ≤ mayF (ts[s15]) (maysF (ts.take s15) (left - 1) (deep - 1)) (deep - 1))) with hb26 | hb26
          · have hp26 := of_decide_eq_true hb26
            refine W.condFb rfl (nT hb26) ?_
            refine W.skip ?_
            refine hK19 _ _ ?_
            refine W.region ?_
            refine Rg.od rfl rfl rfl (OpT.add rfl rfl (by first | omega | (unfold lenOk at *; omega)) ?_)
            refine Rg.od rfl rfl rfl (OpT.move rfl ?_)
            refine Rg.nil ?_
            have hst := (maysF_step ts s15 (by omega) (left - 1) (deep - 1) (by omega) (by omega)).1 (by omega)
            have hng := mayF_neg ts[s15] (maysF (ts.take s15) (left - 1) (deep - 1)) (deep - 1)
            have hlf := hlf25 (decide_eq_true (by omega))
            exact ⟨s15 + 1, ⟨⟨rfl, rfl, rfl, rfl, rfl, rfl, rfl, rfl, rfl, rfl, rfl, rfl, rfl, rfl, rfl, rfl, rfl, rfl, rfl, rfl, rfl, rfl, rfl, trivial⟩, ((x15.ext (x22.upd m23 (by omega))).trans x25), (by rw [hst, ← hlf]; exact b25), by omega, by omega, by omega⟩, by omega⟩
          · have hp26 := of_decide_eq_false hb26
            refine W.condTb rfl (nF hb26) ?_
            refine W.seqK fun K27 hK27 => ?_
            refine W.region ?_
            refine Rg.od rfl rfl rfl (OpT.assign rfl ?_)
            refine Rg.nil ?_
            refine hK27 _ _ ?_
            refine W.ret ?_
            refine ⟨_, Res.one rfl rfl, ?_⟩
            have hst := (maysF_step ts s15 (by omega) (left - 1) (deep - 1) (by omega) (by omega)).2 (by omega)
            have hfin : mayF (.mk k n s ls ts) left deep = -1 := by rw [mayF_mk, if_neg (by rintro (h | h | h) <;> first | omega | simp_all), hst]
            exact ⟨lf25, congrArg Value.bool (by rw [hfin]; rfl), b25, (((((x2.toUpd.trans m5).ext x11).trans x15).ext (x22.upd m23 (by omega))).trans x25), (fun h => by rw [hfin] at h; cases h), by omega⟩
        · have hp18 := of_decide_eq_false hb18
          refine W.condFb rfl hb18 ?_
          refine W.exit ?_
          refine hK13 _ _ ?_
          refine W.seqK fun K28 hK28 => ?_
          refine W.region ?_
          refine Rg.od rfl rfl rfl (OpT.assign rfl ?_)
          refine Rg.nil ?_
          refine hK28 _ _ ?_
          refine W.ret ?_
          refine ⟨_, Res.one rfl rfl, ?_⟩
          have hsz : s15 = ts.length := by omega
          have hfin : mayF (.mk k n s ls ts) left deep = (maysF (ts.take s15) (left - 1) (deep - 1)) := by rw [mayF_mk, if_neg (by rintro (h | h | h) <;> first | omega | simp_all), hsz, List.take_length]
          exact ⟨(maysF (ts.take s15) (left - 1) (deep - 1)), congrArg Value.bool (by rw [hfin]; exact (decide_eq_true (by omega)).symm), b15, (((x2.toUpd.trans m5).ext x11).trans x15), fun _ => hfin.symm, by omega⟩
      · have hp12 := hb12
        refine W.condTb rfl (nF hb12) ?_
        refine W.seqK fun K29 hK29 => ?_
        refine W.region ?_
        refine Rg.od rfl rfl rfl (OpT.assign rfl ?_)
        refine Rg.nil ?_
        refine hK29 _ _ ?_
        refine W.ret ?_
        refine ⟨_, Res.one rfl rfl, ?_⟩
        have hfin : mayF (.mk k n s ls ts) left deep = -1 := by rw [mayF_mk, if_pos (by first | exact .inl (by omega) | exact .inr (.inl (by omega)) | exact .inr (.inr (by simp_all)))]
        exact ⟨(left - 1), congrArg Value.bool (by rw [hfin]; rfl), (b5.ext x11), ((x2.toUpd.trans m5).ext x11), (fun h => by rw [hfin] at h; cases h), by omega⟩
set_option maxHeartbeats 1000000 in
set_option maxRecDepth 20000 in
theorem rZero_runs (w0 : World) : Runs Tryz.prog 69 #[] w0 fun v w' => v = .agg lZero.cells.toArray ∧ Ext w0 w' := by
  refine Runs.of_W (vs := []) Tryz.func69 rfl rfl ?_
  refine W.seqK fun K1 hK1 => ?_
  refine W.region ?_
  refine Rg.od rfl rfl rfl (OpT.alloc Tryz.zeroValue63 fun w2 g2 e2 x2 z2 b2 => ?_)
  replace b2 : Box w2 g2 [.int .i64 0, .int .i64 0, .int .i64 0, .int .i64 0, .int .i64 0] := b2
  refine Rg.nil ?_
  refine hK1 _ _ ?_
  refine W.seqK fun K3 hK3 => ?_
  refine W.region ?_
  refine Rg.od rfl rfl rfl (OpT.buildArr (cs := #[.int .i64 (-1), .int .i64 (-1), .int .i64 (-1), .int .i64 (-1)]) (.cons rfl (.cons rfl (.cons rfl (.cons rfl .nil)))) Tryz.zeroValue61 Tryz.underlying61 Tryz.sizeOf3 (by kernel_rfl) ?_)
  refine Rg.od rfl rfl rfl (OpT.build (cs := #[.int .i64 0, .int .i64 (-1), .int .i64 (-1), .int .i64 (-1), .int .i64 (-1)]) (.cons rfl .nil) Tryz.zeroValue63 places63.choose_spec.1 places63.choose_spec.2 (by kernel_rfl) ?_)
  refine Rg.on rfl rfl (OpT.storeA Tryz.sizeOf63 rfl rfl rfl rfl b2 rfl fun w4 m4 z4 b4 => ?_)
  replace b4 : Box w4 g2 [.int .i64 0, .int .i64 (-1), .int .i64 (-1), .int .i64 (-1), .int .i64 (-1)] := b4
  refine Rg.nil ?_
  refine hK3 _ _ ?_
  refine W.ret ?_
  refine ⟨_, Res.cellA rfl rfl Tryz.isAgg63 Tryz.sizeOf63 rfl b4, ?_⟩
  exact ⟨rfl, (x2.upd m4 (by omega))⟩
set_option maxHeartbeats 1000000 in
set_option maxRecDepth 20000 in
theorem may_runs (t : T) (cs : List Value) (w0 : World) (R : Nat → Prop) (hv : VT w0 R cs t) : Runs Tryz.prog 107 #[.agg cs.toArray] w0 fun v w' => v = .bool (mayT t) ∧ Ext w0 w' := by
  obtain ⟨k, n, s, ls, ts, la, lc, ta, tc, rfl, rfl, hk, hn, hs, hl, ht, hL, hT⟩ := hv.inv
  have hvs := hv.small
  refine Runs.of_W (vs := [_]) Tryz.func107 rfl rfl ?_
  refine W.seqK fun K1 hK1 => ?_
  refine W.region ?_
  refine Rg.od rfl rfl rfl (OpT.box rfl fun w2 g2 e2 x2 z2 b2 => ?_)
  replace b2 : Box w2 g2 [.int .u8 k, .int .i64 n, .string s, .slice la ls.length lc, .slice ta ts.length tc] := b2
  refine Rg.od rfl rfl rfl (OpT.assign rfl ?_)
  refine Rg.nil ?_
  refine hK1 _ _ ?_
  refine W.seqK fun K3 hK3 => ?_
  refine W.region ?_
  refine Rg.od rfl rfl rfl (OpT.alloc Tryz.zeroValue3 fun w4 g4 e4 x4 z4 b4 => ?_)
  replace b4 : Box w4 g4 [.int .i64 0] := b4
  refine Rg.on rfl rfl (OpT.store Tryz.sizeOf3 rfl rfl rfl b4 rfl fun w5 m5 z5 b5 => ?_)
  replace b5 : Box w5 g4 [.int .i64 65536] := b5
  refine Rg.nil ?_
  refine hK3 _ _ ?_
  refine W.seqK fun K6 hK6 => ?_
  refine W.region ?_
  refine Rg.od rfl rfl rfl (OpT.alloc Tryz.zeroValue152 fun w7 g7 e7 x7 z7 b7 => ?_)
  replace b7 : Box w7 g7 [.nilFunc] := b7
  refine Rg.nil ?_
  refine hK6 _ _ ?_
  refine W.seqK fun K8 hK8 => ?_
  refine W.region ?_
  refine Rg.od rfl rfl rfl (OpT.makeFunc .nil (.cons rfl (.cons rfl .nil)) ?_)
  refine Rg.on rfl rfl (OpT.store Tryz.sizeOf152 rfl rfl rfl b7 rfl fun w9 m9 z9 b9 => ?_)
  replace b9 : Box w9 g7 [.func (.func 137) #[] #[.pointer (some ⟨g4, 0, none⟩), .pointer (some ⟨g7, 0, none⟩)]] := b9
  refine Rg.nil ?_
  refine hK8 _ _ ?_
  refine W.seqK fun K10 hK10 => ?_
  refine W.region ?_
  refine Rg.od rfl rfl rfl (OpT.loadB Tryz.isAgg152 rfl b9 rfl ?_)
  refine Rg.od rfl rfl rfl (OpT.loadAB Tryz.isAgg33 Tryz.sizeOf33 rfl ((((b2.ext x4).upd m5 (by have h1 := Nat.le_refl w2.heap.size; omega)).ext x7).upd m9 (by have h1 := Nat.le_trans (Nat.le_trans (Nat.le_refl w2.heap.size) x4.size) m5.size; omega)) rfl ?_)
  refine Rg.od rfl rfl rfl (OpT.callV Tryz.call137 rfl (.cons rfl (.cons rfl .nil)) (Runs.mono (may1_runs _ _ _ _ _ (hvs.ext ((((x2.trans x4).upd m5 (by have h1 := x2.size; omega)).trans x7).upd m9 (by have h1 := ((x2.trans x4).upd m5 (by have h1 := x2.size; omega)).size; omega))) _ (by omega) g4 g7 ((b5.ext x7).upd m9 (by have h1 := Nat.le_trans (Nat.le_refl w4.heap.size) m5.size; omega)) b9 (by have h1 := Nat.le_trans (Nat.le_refl w4.heap.size) m5.size; omega) (fun h => by have h2 := h.2; have h1 := Nat.le_trans (Nat.le_refl w0.heap.size) x2.size; omega) (fun h => by have h2 := h.2; have h1 := Nat.le_trans (Nat.le_trans (Nat.le_trans (Nat.le_refl w0.heap.size) x2.size) x4.size) m5.size; omega)) ?_))
  rintro _ w11 ⟨lf11, rfl, b11, x11, _, _⟩
  refine Rg.od rfl rfl rfl (OpT.assign rfl ?_)
  refine Rg.nil ?_
  refine hK10 _ _ ?_
  refine W.ret ?_
  refine ⟨_, Res.one rfl rfl, ?_⟩
  exact ⟨congrArg Value.bool (mayF_T _), (((((x2.trans x4).upd m5 (by have h1 := x2.size; omega)).trans x7).upd m9 (by have h1 := ((x2.trans x4).upd m5 (by have h1 := x2.size; omega)).size; omega)).upd x11 (by have h1 := x2.size; omega))⟩
set_option maxHeartbeats 1000000 in
set_option maxRecDepth 20000 in
theorem binds_runs (k n : Int) (s : ByteArray) (ls : List L) (ts : List T) (i : Nat) (cs : List Value) (w0 : World) (R : Nat → Prop) (hv : VT w0 R cs (.mk k n s ls ts)) : Runs Tryz.prog 156 #[.agg cs.toArray, .int .i64 ((i : Nat) : Int)] w0 fun v w' => v = .int .i64 (binds k i) ∧ Ext w0 w' := by
  obtain ⟨k', n', s', ls', ts', la, lc, ta, tc, e1, rfl, hk, hn, hs, hl, ht, hL, hT⟩ := hv.inv
  cases e1
  refine Runs.of_W (vs := [_, _]) Tryz.func156 rfl rfl ?_
  refine W.seqK fun K1 hK1 => ?_
  refine W.region ?_
  refine Rg.od rfl rfl rfl (OpT.box rfl fun w2 g2 e2 x2 z2 b2 => ?_)
  replace b2 : Box w2 g2 [.int .u8 k, .int .i64 n, .string s, .slice la ls.length lc, .slice ta ts.length tc] := b2
  refine Rg.od rfl rfl rfl (OpT.assign rfl ?_)
  refine Rg.nil ?_
  refine hK1 _ _ ?_
  refine W.seqK fun K3 hK3 => ?_
  refine W.block ?_
  refine W.seqK fun K4 hK4 => ?_
  refine W.seqK fun K5 hK5 => ?_
  refine W.region ?_
  refine Rg.od rfl rfl rfl (OpT.fieldAddrB (off := 0) Tryz.underlying33 rfl Tryz.sizeOf5 rfl rfl ?_)
  refine Rg.od rfl rfl rfl (OpT.loadB Tryz.isAgg5 rfl b2 rfl ?_)
  refine Rg.od rfl rfl rfl (OpT.eqlI rfl rfl ?_)
  refine Rg.od rfl rfl rfl (OpT.move rfl ?_)
  rcases Bool.eq_false_or_eq_true (decide (k = 5)) with hb6 | hb6
  · have hp6 := of_decide_eq_true hb6
    refine Rg.gn rfl rfl rfl rfl hb6 ?_
    refine Rg.gn rfl rfl rfl rfl hb6 ?_
    refine Rg.gn rfl rfl rfl rfl hb6 ?_
    refine Rg.od rfl rfl rfl (OpT.pickT rfl hb6 rfl ?_)
    refine Rg.od rfl rfl rfl (OpT.move rfl ?_)
    refine Rg.gy rfl rfl rfl rfl rfl (OpT.move rfl ?_)
    refine Rg.gy rfl rfl rfl rfl rfl (OpT.eqlI rfl rfl ?_)
    refine Rg.od rfl rfl rfl (OpT.pickT rfl rfl rfl ?_)
    refine Rg.od rfl rfl rfl (OpT.assign rfl ?_)
    refine Rg.nil ?_
    refine hK5 _ _ ?_
    rcases Bool.eq_false_or_eq_true (decide (((i : Nat) : Int) = 1)) with hb7 | hb7
    · have hp7 := of_decide_eq_true hb7
      refine W.condTb rfl hb7 ?_
      refine W.skip ?_
      refine hK4 _ _ ?_
      refine W.condTb rfl hb7 ?_
      refine W.seqK fun K8 hK8 => ?_
      refine W.region ?_
      refine Rg.od rfl rfl rfl (OpT.assign rfl ?_)
      refine Rg.nil ?_
      refine hK8 _ _ ?_
      refine W.ret ?_
      refine ⟨_, Res.one rfl rfl, ?_⟩
      refine ⟨congrArg (Value.int .i64) ?_, x2⟩
      clear hv hL hT hl ht hs hn
      unfold binds
      (repeat' split) <;> first | rfl | (exfalso; omega)
    · have hp7 := of_decide_eq_false hb7
      refine W.condFb rfl hb7 ?_
      refine W.region ?_
      refine Rg.od rfl rfl rfl (OpT.fieldAddrB (off := 0) Tryz.underlying33 rfl Tryz.sizeOf5 rfl rfl ?_)
      refine Rg.od rfl rfl rfl (OpT.loadB Tryz.isAgg5 rfl b2 rfl ?_)
      refine Rg.od rfl rfl rfl (OpT.eqlI rfl rfl ?_)
      refine Rg.od rfl rfl rfl (OpT.move rfl ?_)
      rcases Bool.eq_false_or_eq_true (decide (k = 7)) with hb9 | hb9
      · have hp9 := of_decide_eq_true hb9
        refine Rg.gy rfl rfl rfl rfl hb9 (OpT.move rfl ?_)
        refine Rg.gy rfl rfl rfl rfl hb9 (OpT.eqlI rfl rfl ?_)
        refine Rg.od rfl rfl rfl (OpT.pickT rfl hb9 rfl ?_)
        refine Rg.od rfl rfl rfl (OpT.assign rfl ?_)
        refine Rg.nil ?_
        refine hK4 _ _ ?_
        rcases Bool.eq_false_or_eq_true (decide (((i : Nat) : Int) = 2)) with hb10 | hb10
        · have hp10 := of_decide_eq_true hb10
          refine W.condTb rfl hb10 ?_
          refine W.seqK fun K11 hK11 => ?_
          refine W.region ?_
          refine Rg.od rfl rfl rfl (OpT.assign rfl ?_)
          refine Rg.nil ?_
          refine hK11 _ _ ?_
          refine W.ret ?_
          refine ⟨_, Res.one rfl rfl, ?_⟩
          refine ⟨congrArg (Value.int .i64) ?_, x2⟩
          clear hv hL hT hl ht hs hn
          unfold binds
          (repeat' split) <;> first | rfl | (exfalso; omega)
        · have hp10 := of_decide_eq_false hb10
          refine W.condFb rfl hb10 ?_
          refine W.skip ?_
          refine hK3 _ _ ?_
          refine W.seqK fun K12 hK12 => ?_
          refine W.region ?_
          refine Rg.od rfl rfl rfl (OpT.assign rfl ?_)
          refine Rg.nil ?_
          refine hK12 _ _ ?_
          refine W.ret ?_
          refine ⟨_, Res.one rfl rfl, ?_⟩
          refine ⟨congrArg (Value.int .i64) ?_, x2⟩
          clear hv hL hT hl ht hs hn
          unfold binds
          (repeat' split) <;> first | rfl | (exfalso; omega)
      · have hp9 := of_decide_eq_false hb9
        refine Rg.gn rfl rfl rfl rfl hb9 ?_
        refine Rg.gn rfl rfl rfl rfl hb9 ?_
        refine Rg.od rfl rfl rfl (OpT.pickF rfl hb9 rfl ?_)
        refine Rg.od rfl rfl rfl (OpT.assign rfl ?_)
        refine Rg.nil ?_
        refine hK4 _ _ ?_
        refine W.condFb rfl rfl ?_
        refine W.skip ?_
        refine hK3 _ _ ?_
        refine W.seqK fun K13 hK13 => ?_
        refine W.region ?_
        refine Rg.od rfl rfl rfl (OpT.assign rfl ?_)
        refine Rg.nil ?_
        refine hK13 _ _ ?_
        refine W.ret ?_
        refine ⟨_, Res.one rfl rfl, ?_⟩
        refine ⟨congrArg (Value.int .i64) ?_, x2⟩
        clear hv hL hT hl ht hs hn
        unfold binds
        (repeat' split) <;> first | rfl | (exfalso; omega)
  · have hp6 := of_decide_eq_false hb6
    refine Rg.gy rfl rfl rfl rfl hb6 (OpT.fieldAddrB (off := 0) Tryz.underlying33 rfl Tryz.sizeOf5 rfl rfl ?_)
    refine Rg.gy rfl rfl rfl rfl hb6 (OpT.loadB Tryz.isAgg5 rfl b2 rfl ?_)
    refine Rg.gy rfl rfl rfl rfl hb6 (OpT.eqlI rfl rfl ?_)
    refine Rg.od rfl rfl rfl (OpT.pickF rfl hb6 rfl ?_)
    refine Rg.od rfl rfl rfl (OpT.move rfl ?_)
    rcases Bool.eq_false_or_eq_true (decide (k = 6)) with hb14 | hb14
    · have hp14 := of_decide_eq_true hb14
      refine Rg.gy rfl rfl rfl rfl hb14 (OpT.move rfl ?_)
      refine Rg.gy rfl rfl rfl rfl hb14 (OpT.eqlI rfl rfl ?_)
      refine Rg.od rfl rfl rfl (OpT.pickT rfl hb14 rfl ?_)
      refine Rg.od rfl rfl rfl (OpT.assign rfl ?_)
      refine Rg.nil ?_
      refine hK5 _ _ ?_
      rcases Bool.eq_false_or_eq_true (decide (((i : Nat) : Int) = 1)) with hb15 | hb15
      · have hp15 := of_decide_eq_true hb15
        refine W.condTb rfl hb15 ?_
        refine W.skip ?_
        refine hK4 _ _ ?_
        refine W.condTb rfl hb15 ?_
        refine W.seqK fun K16 hK16 => ?_
        refine W.region ?_
        refine Rg.od rfl rfl rfl (OpT.assign rfl ?_)
        refine Rg.nil ?_
        refine hK16 _ _ ?_
        refine W.ret ?_
        refine ⟨_, Res.one rfl rfl, ?_⟩
        refine ⟨congrArg (Value.int .i64) ?_, x2⟩
        clear hv hL hT hl ht hs hn
        unfold binds
        (repeat' split) <;> first | rfl | (exfalso; omega)
      · have hp15 := of_decide_eq_false hb15
        refine W.condFb rfl hb15 ?_
        refine W.region ?_
        refine Rg.od rfl rfl rfl (OpT.fieldAddrB (off := 0) Tryz.underlying33 rfl Tryz.sizeOf5 rfl rfl ?_)
        refine Rg.od rfl rfl rfl (OpT.loadB Tryz.isAgg5 rfl b2 rfl ?_)
        refine Rg.od rfl rfl rfl (OpT.eqlI rfl rfl ?_)
        refine Rg.od rfl rfl rfl (OpT.move rfl ?_)
        rcases Bool.eq_false_or_eq_true (decide (k = 7)) with hb17 | hb17
        · have hp17 := of_decide_eq_true hb17
          refine Rg.gy rfl rfl rfl rfl hb17 (OpT.move rfl ?_)
          refine Rg.gy rfl rfl rfl rfl hb17 (OpT.eqlI rfl rfl ?_)
          refine Rg.od rfl rfl rfl (OpT.pickT rfl hb17 rfl ?_)
          refine Rg.od rfl rfl rfl (OpT.assign rfl ?_)
          refine Rg.nil ?_
          refine hK4 _ _ ?_
          rcases Bool.eq_false_or_eq_true (decide (((i : Nat) : Int) = 2)) with hb18 | hb18
          · have hp18 := of_decide_eq_true hb18
            refine W.condTb rfl hb18 ?_
            refine W.seqK fun K19 hK19 => ?_
            refine W.region ?_
            refine Rg.od rfl rfl rfl (OpT.assign rfl ?_)
            refine Rg.nil ?_
            refine hK19 _ _ ?_
            refine W.ret ?_
            refine ⟨_, Res.one rfl rfl, ?_⟩
            refine ⟨congrArg (Value.int .i64) ?_, x2⟩
            clear hv hL hT hl ht hs hn
            unfold binds
            (repeat' split) <;> first | rfl | (exfalso; omega)
          · have hp18 := of_decide_eq_false hb18
            refine W.condFb rfl hb18 ?_
            refine W.skip ?_
            refine hK3 _ _ ?_
            refine W.seqK fun K20 hK20 => ?_
            refine W.region ?_
            refine Rg.od rfl rfl rfl (OpT.assign rfl ?_)
            refine Rg.nil ?_
            refine hK20 _ _ ?_
            refine W.ret ?_
            refine ⟨_, Res.one rfl rfl, ?_⟩
            refine ⟨congrArg (Value.int .i64) ?_, x2⟩
            clear hv hL hT hl ht hs hn
            unfold binds
            (repeat' split) <;> first | rfl | (exfalso; omega)
        · have hp17 := of_decide_eq_false hb17
          refine Rg.gn rfl rfl rfl rfl hb17 ?_
          refine Rg.gn rfl rfl rfl rfl hb17 ?_
          refine Rg.od rfl rfl rfl (OpT.pickF rfl hb17 rfl ?_)
          refine Rg.od rfl rfl rfl (OpT.assign rfl ?_)
          refine Rg.nil ?_
          refine hK4 _ _ ?_
          refine W.condFb rfl rfl ?_
          refine W.skip ?_
          refine hK3 _ _ ?_
          refine W.seqK fun K21 hK21 => ?_
          refine W.region ?_
          refine Rg.od rfl rfl rfl (OpT.assign rfl ?_)
          refine Rg.nil ?_
          refine hK21 _ _ ?_
          refine W.ret ?_
          refine ⟨_, Res.one rfl rfl, ?_⟩
          refine ⟨congrArg (Value.int .i64) ?_, x2⟩
          clear hv hL hT hl ht hs hn
          unfold binds
          (repeat' split) <;> first | rfl | (exfalso; omega)
    · have hp14 := of_decide_eq_false hb14
      refine Rg.gn rfl rfl rfl rfl hb14 ?_
      refine Rg.gn rfl rfl rfl rfl hb14 ?_
      refine Rg.od rfl rfl rfl (OpT.pickF rfl hb14 rfl ?_)
      refine Rg.od rfl rfl rfl (OpT.assign rfl ?_)
      refine Rg.nil ?_
      refine hK5 _ _ ?_
      refine W.condFb rfl rfl ?_
      refine W.region ?_
      refine Rg.od rfl rfl rfl (OpT.fieldAddrB (off := 0) Tryz.underlying33 rfl Tryz.sizeOf5 rfl rfl ?_)
      refine Rg.od rfl rfl rfl (OpT.loadB Tryz.isAgg5 rfl b2 rfl ?_)
      refine Rg.od rfl rfl rfl (OpT.eqlI rfl rfl ?_)
      refine Rg.od rfl rfl rfl (OpT.move rfl ?_)
      rcases Bool.eq_false_or_eq_true (decide (k = 7)) with hb22 | hb22
      · have hp22 := of_decide_eq_true hb22
        refine Rg.gy rfl rfl rfl rfl hb22 (OpT.move rfl ?_)
        refine Rg.gy rfl rfl rfl rfl hb22 (OpT.eqlI rfl rfl ?_)
        refine Rg.od rfl rfl rfl (OpT.pickT rfl hb22 rfl ?_)
        refine Rg.od rfl rfl rfl (OpT.assign rfl ?_)
        refine Rg.nil ?_
        refine hK4 _ _ ?_
        rcases Bool.eq_false_or_eq_true (decide (((i : Nat) : Int) = 2)) with hb23 | hb23
        · have hp23 := of_decide_eq_true hb23
          refine W.condTb rfl hb23 ?_
          refine W.seqK fun K24 hK24 => ?_
          refine W.region ?_
          refine Rg.od rfl rfl rfl (OpT.assign rfl ?_)
          refine Rg.nil ?_
          refine hK24 _ _ ?_
          refine W.ret ?_
          refine ⟨_, Res.one rfl rfl, ?_⟩
          refine ⟨congrArg (Value.int .i64) ?_, x2⟩
          clear hv hL hT hl ht hs hn
          unfold binds
          (repeat' split) <;> first | rfl | (exfalso; omega)
        · have hp23 := of_decide_eq_false hb23
          refine W.condFb rfl hb23 ?_
          refine W.skip ?_
          refine hK3 _ _ ?_
          refine W.seqK fun K25 hK25 => ?_
          refine W.region ?_
          refine Rg.od rfl rfl rfl (OpT.assign rfl ?_)
          refine Rg.nil ?_
          refine hK25 _ _ ?_
          refine W.ret ?_
          refine ⟨_, Res.one rfl rfl, ?_⟩
          refine ⟨congrArg (Value.int .i64) ?_, x2⟩
          clear hv hL hT hl ht hs hn
          unfold binds
          (repeat' split) <;> first | rfl | (exfalso; omega)
      · have hp22 := of_decide_eq_false hb22
        refine Rg.gn rfl rfl rfl rfl hb22 ?_
        refine Rg.gn rfl rfl rfl rfl hb22 ?_
        refine Rg.od rfl rfl rfl (OpT.pickF rfl hb22 rfl ?_)
        refine Rg.od rfl rfl rfl (OpT.assign rfl ?_)
        refine Rg.nil ?_
        refine hK4 _ _ ?_
        refine W.condFb rfl rfl ?_
        refine W.skip ?_
        refine hK3 _ _ ?_
        refine W.seqK fun K26 hK26 => ?_
        refine W.region ?_
        refine Rg.od rfl rfl rfl (OpT.assign rfl ?_)
        refine Rg.nil ?_
        refine hK26 _ _ ?_
        refine W.ret ?_
        refine ⟨_, Res.one rfl rfl, ?_⟩
        refine ⟨congrArg (Value.int .i64) ?_, x2⟩
        clear hv hL hT hl ht hs hn
        unfold binds
        (repeat' split) <;> first | rfl | (exfalso; omega)
set_option maxHeartbeats 1000000 in
set_option maxRecDepth 20000 in
theorem each_runs {σ : Type} (f : Nat) (hf : EntersAt Tryz.prog f) (cap : Array Value) (g : Nat) (I : σ → World → Prop) (step : T → Int → σ → σ × Bool) (hI : ∀ st w w', Ext w w' → I st w → I st w') (hlt : ∀ st w, I st w → g < w.heap.size)
    (hdo : ∀ (t : T) (cs : List Value) (around : Int) (st : σ) (w : World) (R : Nat → Prop), VT w R cs t → ¬ R g → nodeB t = true → 0 ≤ around → around ≤ 1099511627776 → I st w →
      Runs Tryz.prog f (#[.agg cs.toArray, .int .i64 around] ++ cap) w fun v w' => v = .bool (step t around st).2 ∧ I (step t around st).1 w' ∧ Upd g w w') (t : T) : ∀ (cs : List Value) (around : Int) (st : σ) (w0 : World) (R : Nat → Prop) (hv : VT w0 R cs t) (off_g : ¬ R g) (hno : nodes t = true) (hb : 0 ≤ around ∧ around + depth t ≤ 1099511627776) (hI0 : I st w0),
    Runs Tryz.prog 126 #[.agg cs.toArray, .int .i64 around, .func (.func f) #[] cap] w0 fun v w' => v = .bool (eachF step t around st).2 ∧ I (eachF step t around st).1 w' ∧ Upd g w0 w' := by
  induction t using T.ind with
  | h k n s ls ts ih =>
  intro cs around st w0 R hv off_g hno hb hI0
  obtain ⟨k, n, s, ls, ts, la, lc, ta, tc, e1, rfl, hk, hn, hs, hl, ht, hL, hT⟩ := hv.inv
  cases e1
  replace hno := nodes_mk hno
  simp only [depth] at hb
  refine Runs.of_W (vs := [_, _, _]) Tryz.func126 rfl rfl ?_
  refine W.seqK fun K1 hK1 => ?_
  refine W.region ?_
  refine Rg.od rfl rfl rfl (OpT.box rfl fun w2 g2 e2 x2 z2 b2 => ?_)
  replace b2 : Box w2 g2 [.int .u8 k, .int .i64 n, .string s, .slice la ls.length lc, .slice ta ts.length tc] := b2
  refine Rg.od rfl rfl rfl (OpT.assign rfl ?_)
  refine Rg.nil ?_
  refine hK1 _ _ ?_
  refine W.seqK fun K3 hK3 => ?_
  refine W.seqK fun K4 hK4 => ?_
  refine W.region ?_
  refine Rg.od rfl rfl rfl (OpT.move rfl ?_)
  refine Rg.od rfl rfl rfl (OpT.loadAB Tryz.isAgg33 Tryz.sizeOf33 rfl b2 rfl ?_)
  refine Rg.od rfl rfl rfl (OpT.move rfl ?_)
  refine Rg.od rfl rfl rfl (OpT.callV hf rfl (.cons rfl (.cons rfl .nil)) (Runs.mono (hdo (T.mk k n s ls ts) _ around st _ _ (hv.ext x2) off_g hno.1 hb.1 (by omega) (hI _ _ _ x2 hI0)) ?_))
  rintro _ w5 ⟨rfl, hI5, x5⟩
  refine Rg.od rfl rfl rfl (OpT.notB rfl ?_)
  refine Rg.nil ?_
  refine hK4 _ _ ?_
  rcases Bool.eq_false_or_eq_true ((step (T.mk k n s ls ts) around st).2) with hb6 | hb6
  · have hp6 := hb6
    refine W.condFb rfl (nT hb6) ?_
    refine W.skip ?_
    refine hK3 _ _ ?_
    refine W.seqK fun K7 hK7 => ?_
    refine W.seqK fun K8 hK8 => ?_
    refine W.region ?_
    refine Rg.od rfl rfl rfl (OpT.fieldAddrB (off := 4) Tryz.underlying33 rfl Tryz.sizeOf31 rfl rfl ?_)
    refine Rg.od rfl rfl rfl (OpT.loadB Tryz.isAgg31 rfl (b2.upd x5 (by have h1 := Nat.le_refl w0.heap.size; have h2 := hlt _ _ hI0; omega)) rfl ?_)
    refine Rg.od rfl rfl rfl (OpT.lenS Tryz.underlying31 rfl ?_)
    refine Rg.od rfl rfl rfl (OpT.move rfl ?_)
    refine Rg.nil ?_
    refine hK8 _ _ ?_
    refine W.block ?_
    refine W.loop (σ := Nat) (fun q e w' => Sub [(0, .agg ([.int .u8 k, .int .i64 n, .string s, .slice la ls.length lc, .slice ta ts.length tc].toArray)), (1, .int .i64 around), (2, .func (.func f) #[] cap), (3, .pointer (some ⟨g2, 0, none⟩)), (6, .bool false), (9, .func (.func f) #[] cap), (10, .agg ([.int .u8 k, .int .i64 n, .string s, .slice la ls.length lc, .slice ta ts.length tc].toArray)), (11, .int .i64 around), (12, .bool ((step (T.mk k n s ls ts) around st).2)), (13, .bool (!((step (T.mk k n s ls ts) around st).2))), (14, .pointer (some ⟨g2, 4, none⟩)), (15, .slice ta ts.length tc), (16, .int .i64 ((ts.length : Nat) : Int)), (17, .int .i64 ((q : Nat) : Int))] e ∧ Upd g w5 w' ∧ q ≤ ts.length ∧ (eachsF step k (ts.take q) 0 around (step (T.mk k n s ls ts) around st).1).2 = true ∧ I (eachsF step k (ts.take q) 0 around (step (T.mk k n s ls ts) around st).1).1 w') (fun q => ts.length - q) 0
      ⟨⟨rfl, rfl, rfl, rfl, rfl, rfl, rfl, rfl, rfl, rfl, rfl, rfl, rfl, rfl, trivial⟩, Mod.refl _ _, Nat.zero_le _, by rw [List.take_zero, eachsF], by rw [List.take_zero, eachsF]; exact hI5⟩ ?_
    rintro s9 en9 w9 ⟨hs9, x9, hi9_0, hi9_1, hi9_2⟩
    refine W.sub hs9 ?_
    refine W.seqK fun K10 hK10 => ?_
    refine W.region ?_
    refine Rg.od rfl rfl rfl (OpT.lss rfl rfl ?_)
    refine Rg.nil ?_
    refine hK10 _ _ ?_
    refine W.seqK fun K11 hK11 => ?_
    rcases Bool.eq_false_or_eq_true (decide (((s9 : Nat) : Int) < ((ts.length : Nat) : Int))) with hb12 | hb12
    · have hp12 := of_decide_eq_true hb12
      refine W.condTb rfl hb12 ?_
      refine W.skip ?_
      refine hK11 _ _ ?_
      refine W.seqK fun K13 hK13 => ?_
      refine W.block ?_
      refine W.seqK fun K14 hK14 => ?_
      refine W.region ?_
      refine Rg.od rfl rfl rfl (OpT.move rfl ?_)
      obtain ⟨a15, cs15, ha15, hr15, hw15, hv15⟩ := hT.at (i := s9) (by first | omega | (have h2 := binds_le k s9; omega) | (unfold lenOk at *; omega))
      obtain ⟨k15, n15, s15, ls15, ts15, la15, lc15, ta15, tc15, et15, rfl, hk15, hn15, hs15, hl15, ht15, hL15, hT15⟩ := hv15.inv
      refine Rg.od rfl rfl rfl (OpT.indexAddr Tryz.underlying31 Tryz.sizeOf33 rfl rfl ha15 (by first | omega | (have h2 := binds_le k s9; omega) | (unfold lenOk at *; omega)) ?_)
      refine Rg.od rfl rfl rfl (OpT.loadA (cs := [.int .u8 k15, .int .i64 n15, .string s15, .slice la15 ls15.length lc15, .slice ta15 ts15.length tc15]) Tryz.isAgg33 Tryz.sizeOf33 rfl (((hw15.ext x2).upd x5 (fun h => off_g (h ▸ (by rw [block_add]; exact hr15)))).upd x9 (fun h => off_g (h ▸ (by rw [block_add]; exact hr15)))) ?_)
      refine Rg.od rfl rfl rfl (OpT.alloc Tryz.zeroValue33 fun w16 g16 e16 x16 z16 b16 => ?_)
      replace b16 : Box w16 g16 [.int .u8 0, .int .i64 0, .string (⟨#[]⟩ : ByteArray), .slice none 0 0, .slice none 0 0] := b16
      refine Rg.od rfl rfl rfl (OpT.assign rfl ?_)
      refine Rg.on rfl rfl (OpT.storeA Tryz.sizeOf33 rfl rfl rfl rfl b16 rfl fun w17 m17 z17 b17 => ?_)
      replace b17 : Box w17 g16 [.int .u8 k15, .int .i64 n15, .string s15, .slice la15 ls15.length lc15, .slice ta15 ts15.length tc15] := b17
      refine Rg.nil ?_
      refine hK14 _ _ ?_
      refine W.seqK fun K18 hK18 => ?_
      refine W.drawE 7 [.ex (.agg ([.int .u8 k15, .int .i64 n15, .string s15, .slice la15 ls15.length lc15, .slice ta15 ts15.length tc15].toArray)), .ex (.int .i64 around), .ex (.agg ([.int .u8 k, .int .i64 n, .string s, .slice la ls.length lc, .slice ta ts.length tc].toArray)), .ex (.int .i64 ((s9 : Nat) : Int)), .ex (.int .i64 (binds k s9)), .ex (.int .i64 (around + (binds k s9))), .ex (.func (.func f) #[] cap)] mixed rfl rfl rfl ⟨trivial, trivial, trivial, trivial, trivial, trivial, trivial, trivial⟩ ?_ ?_
      · refine ⟨?_, ?_, ?_, ?_, ?_, ?_, ?_, trivial⟩
        · intro w' hx _
          exact OpT.loadAB Tryz.isAgg33 Tryz.sizeOf33 rfl (b17.ext hx) rfl VS.ok
        · intro w' hx _
          exact OpT.move rfl VS.ok
        · intro w' hx _
          exact OpT.loadAB Tryz.isAgg33 Tryz.sizeOf33 rfl (((((b2.upd x5 (by have h1 := Nat.le_refl w0.heap.size; have h2 := hlt _ _ hI0; omega)).upd x9 (by have h1 := Nat.le_refl w0.heap.size; have h2 := hlt _ _ hI0; omega)).ext x16).upd m17 (by have h1 := Nat.le_trans (Nat.le_trans (Nat.le_refl w2.heap.size) x5.size) x9.size; omega)).ext hx) rfl VS.ok
        · intro w' hx _
          exact OpT.move rfl VS.ok
        · intro w' hx _
          exact OpT.call Tryz.call156 (.cons rfl (.cons rfl .nil)) (Runs.mono (binds_runs _ _ _ _ _ _ _ _ _ ((((hv.ext x2).upd x5 off_g).upd x9 off_g).ext ((x16.upd m17 (by omega)).trans hx))) fun v w h => VS.okx h.1 h.2)
        · intro w' hx _
          exact OpT.add rfl rfl (by first | omega | (have h2 := binds_le k s9; omega) | (unfold lenOk at *; omega)) VS.ok
        · intro w' hx _
          exact OpT.move rfl VS.ok
      · intro w19 x19
        refine ⟨rfl, rfl, OpT.call Tryz.call126 (.cons rfl (.cons rfl (.cons rfl .nil))) (Runs.mono (ih _ (List.getElem_mem (by omega)) _ _ _ _ _ ((((hv15.ext x2).upd x5 off_g).upd x9 off_g).ext ((x16.upd m17 (by omega)).trans x19)) off_g (nodess_at hno.2 s9 (by omega)) (by have h1 := depths_le ts s9 (by omega); have h2 := binds_le k s9; omega) (hI _ _ _ ((x16.upd m17 (by omega)).trans x19) hi9_2)) ?_)⟩
        rintro _ w27 ⟨rfl, hI27, x27⟩
        have hst27 := eachsF_take step k ts s9 (by omega) around (step (T.mk k n s ls ts) around st).1 hi9_1
        refine ⟨rfl, rfl, OpT.notB rfl ?_⟩
        refine hK18 _ _ ?_
        rcases Bool.eq_false_or_eq_true ((eachF step ts[s9] (around + binds k s9) (eachsF step k (ts.take s9) 0 around (step (T.mk k n s ls ts) around st).1).1).2) with hb28 | hb28
        · have hp28 := hb28
          refine W.condFb rfl (nT hb28) ?_
          refine W.skip ?_
          refine hK13 _ _ ?_
          refine W.region ?_
          refine Rg.od rfl rfl rfl (OpT.add rfl rfl (by first | omega | (have h2 := binds_le k s9; omega) | (unfold lenOk at *; omega)) ?_)
          refine Rg.od rfl rfl rfl (OpT.move rfl ?_)
          refine Rg.nil ?_
          exact ⟨s9 + 1, ⟨⟨rfl, rfl, rfl, rfl, rfl, rfl, rfl, rfl, rfl, rfl, rfl, rfl, rfl, rfl, trivial⟩, ((x9.ext ((x16.upd m17 (by omega)).trans x19)).trans x27), by omega, by rw [hst27]; exact hb28, by rw [hst27]; exact hI27⟩, by omega⟩
        · have hp28 := hb28
          refine W.condTb rfl (nF hb28) ?_
          refine W.seqK fun K29 hK29 => ?_
          refine W.region ?_
          refine Rg.od rfl rfl rfl (OpT.assign rfl ?_)
          refine Rg.nil ?_
          refine hK29 _ _ ?_
          refine W.ret ?_
          refine ⟨_, Res.one rfl rfl, ?_⟩
          rw [eachF_mk]
          rw [if_pos hb6]
          have hfin := eachsF_stop step k ts (s9 + 1) around (step (T.mk k n s ls ts) around st).1 (by rw [hst27]; exact hb28)
          rw [hfin, hst27]
          exact ⟨congrArg Value.bool hb28.symm, hI27, ((((x2.toUpd.trans x5).trans x9).ext ((x16.upd m17 (by omega)).trans x19)).trans x27)⟩
    · have hp12 := of_decide_eq_false hb12
      refine W.condFb rfl hb12 ?_
      refine W.exit ?_
      refine hK7 _ _ ?_
      refine W.seqK fun K30 hK30 => ?_
      refine W.region ?_
      refine Rg.od rfl rfl rfl (OpT.assign rfl ?_)
      refine Rg.nil ?_
      refine hK30 _ _ ?_
      refine W.ret ?_
      refine ⟨_, Res.one rfl rfl, ?_⟩
      rw [eachF_mk]
      have hq : s9 = ts.length := by omega
      have hE := hi9_2
      have hh := hi9_1
      rw [hq, List.take_length] at hE hh
      rw [if_pos hb6]
      exact ⟨congrArg Value.bool hh.symm, hE, ((x2.toUpd.trans x5).trans x9)⟩
  · have hp6 := hb6
    refine W.condTb rfl (nF hb6) ?_
    refine W.seqK fun K31 hK31 => ?_
    refine W.region ?_
    refine Rg.od rfl rfl rfl (OpT.assign rfl ?_)
    refine Rg.nil ?_
    refine hK31 _ _ ?_
    refine W.ret ?_
    refine ⟨_, Res.one rfl rfl, ?_⟩
    rw [eachF_mk]
    rw [if_neg (by rw [hb6]; decide)]
    exact ⟨rfl, hI5, (x2.toUpd.trans x5)⟩
set_option maxHeartbeats 1000000 in
set_option maxRecDepth 20000 in
theorem free1_runs (cs : List Value) (t : T) (around : Int) (g : Nat) (st : Int) (w0 : World) (R : Nat → Prop) (hv : VT w0 R cs t) (hnb : nodeB t = true) (hb : 0 ≤ around ∧ around ≤ 1099511627776) (bg : Box w0 g [.int .i64 st]) : Runs Tryz.prog 152 #[.agg cs.toArray, .int .i64 around, .pointer (some ⟨g, 0, none⟩)] w0
    fun v w' => v = .bool (freeStep t around st).2 ∧ Box w' g [.int .i64 (freeStep t around st).1] ∧ Upd g w0 w' := by
  obtain ⟨k, n, s, ls, ts, la, lc, ta, tc, rfl, rfl, hk, hn, hs, hl, ht, hL, hT⟩ := hv.inv
  refine Runs.of_W (vs := [_, _, _]) Tryz.func152 rfl rfl ?_
  refine W.seqK fun K1 hK1 => ?_
  refine W.region ?_
  refine Rg.od rfl rfl rfl (OpT.box rfl fun w2 g2 e2 x2 z2 b2 => ?_)
  replace b2 : Box w2 g2 [.int .u8 k, .int .i64 n, .string s, .slice la ls.length lc, .slice ta ts.length tc] := b2
  refine Rg.od rfl rfl rfl (OpT.assign rfl ?_)
  refine Rg.nil ?_
  refine hK1 _ _ ?_
  refine W.seqK fun K3 hK3 => ?_
  refine W.seqK fun K4 hK4 => ?_
  refine W.region ?_
  refine Rg.od rfl rfl rfl (OpT.fieldAddrB (off := 0) Tryz.underlying33 rfl Tryz.sizeOf5 rfl rfl ?_)
  refine Rg.od rfl rfl rfl (OpT.loadB Tryz.isAgg5 rfl b2 rfl ?_)
  refine Rg.od rfl rfl rfl (OpT.eqlI rfl rfl ?_)
  refine Rg.nil ?_
  refine hK4 _ _ ?_
  rcases Bool.eq_false_or_eq_true (decide (k = 2)) with hb5 | hb5
  · have hp5 := of_decide_eq_true hb5
    refine W.condTb rfl hb5 ?_
    refine W.region ?_
    refine Rg.od rfl rfl rfl (OpT.loadB Tryz.isAgg3 rfl (bg.ext x2) rfl ?_)
    refine Rg.od rfl rfl rfl (OpT.fieldAddrB (off := 1) Tryz.underlying33 rfl Tryz.sizeOf3 rfl rfl ?_)
    refine Rg.od rfl rfl rfl (OpT.loadB Tryz.isAgg3 rfl b2 rfl ?_)
    refine Rg.od rfl rfl rfl (OpT.add rfl rfl (by (have h9 := node_varN hnb (by omega); omega)) ?_)
    refine Rg.od rfl rfl rfl (OpT.move rfl ?_)
    refine Rg.od rfl rfl rfl (OpT.sub rfl rfl (by (have h9 := node_varN hnb (by omega); omega)) ?_)
    refine Rg.od rfl rfl rfl (OpT.maxI rfl rfl ?_)
    refine Rg.on rfl rfl (OpT.store Tryz.sizeOf3 rfl rfl rfl (bg.ext x2) rfl fun w6 m6 z6 b6 => ?_)
    replace b6 : Box w6 g [.int .i64 (if ((n + 1) - around) > st then ((n + 1) - around) else st)] := b6
    refine Rg.nil ?_
    refine hK3 _ _ ?_
    refine W.seqK fun K7 hK7 => ?_
    refine W.region ?_
    refine Rg.od rfl rfl rfl (OpT.assign rfl ?_)
    refine Rg.nil ?_
    refine hK7 _ _ ?_
    refine W.ret ?_
    refine ⟨_, Res.one rfl rfl, ?_⟩
    refine ⟨rfl, ?_, (x2.toUpd.trans m6)⟩
    simp only [freeStep]
    first | (rw [if_pos (by omega)]; exact b6) | (rw [if_neg (by omega)]; exact b6)
  · have hp5 := of_decide_eq_false hb5
    refine W.condFb rfl hb5 ?_
    refine W.skip ?_
    refine hK3 _ _ ?_
    refine W.seqK fun K8 hK8 => ?_
    refine W.region ?_
    refine Rg.od rfl rfl rfl (OpT.assign rfl ?_)
    refine Rg.nil ?_
    refine hK8 _ _ ?_
    refine W.ret ?_
    refine ⟨_, Res.one rfl rfl, ?_⟩
    refine ⟨rfl, ?_, x2.toUpd⟩
    simp only [freeStep]
    first | (rw [if_pos (by omega)]; exact (bg.ext x2)) | (rw [if_neg (by omega)]; exact (bg.ext x2))
set_option maxHeartbeats 1000000 in
set_option maxRecDepth 20000 in
theorem free_runs (t : T) (cs : List Value) (w0 : World) (R : Nat → Prop) (hv : VT w0 R cs t) : Runs Tryz.prog 124 #[.agg cs.toArray] w0 fun v w' => v = .int .i64 (bif mayT t then max 0 (free t 0) else 0) ∧ Ext w0 w' := by
  obtain ⟨k, n, s, ls, ts, la, lc, ta, tc, rfl, rfl, hk, hn, hs, hl, ht, hL, hT⟩ := hv.inv
  have hvs := hv.small
  refine Runs.of_W (vs := [_]) Tryz.func124 rfl rfl ?_
  refine W.seqK fun K1 hK1 => ?_
  refine W.region ?_
  refine Rg.od rfl rfl rfl (OpT.box rfl fun w2 g2 e2 x2 z2 b2 => ?_)
  replace b2 : Box w2 g2 [.int .u8 k, .int .i64 n, .string s, .slice la ls.length lc, .slice ta ts.length tc] := b2
  refine Rg.od rfl rfl rfl (OpT.alloc Tryz.zeroValue3 fun w3 g3 e3 x3 z3 b3 => ?_)
  replace b3 : Box w3 g3 [.int .i64 0] := b3
  refine Rg.nil ?_
  refine hK1 _ _ ?_
  refine W.seqK fun K4 hK4 => ?_
  refine W.seqK fun K5 hK5 => ?_
  refine W.region ?_
  refine Rg.od rfl rfl rfl (OpT.loadAB Tryz.isAgg33 Tryz.sizeOf33 rfl (b2.ext x3) rfl ?_)
  refine Rg.od rfl rfl rfl (OpT.call Tryz.call107 (.cons rfl .nil) (Runs.mono (may_runs _ _ _ _ (hv.ext (x2.trans x3))) ?_))
  rintro _ w6 ⟨rfl, x6⟩
  refine Rg.od rfl rfl rfl (OpT.notB rfl ?_)
  refine Rg.nil ?_
  refine hK5 _ _ ?_
  rcases Bool.eq_false_or_eq_true (mayT (T.mk k n s ls ts)) with hb7 | hb7
  · have hp7 := hb7
    refine W.condFb rfl (nT hb7) ?_
    refine W.skip ?_
    refine hK4 _ _ ?_
    refine W.seqK fun K8 hK8 => ?_
    refine W.region ?_
    refine Rg.od rfl rfl rfl (OpT.loadAB Tryz.isAgg33 Tryz.sizeOf33 rfl (b2.ext (x3.trans x6)) rfl ?_)
    refine Rg.od rfl rfl rfl (OpT.makeFunc .nil (.cons rfl .nil) ?_)
    have hmy : mayT (T.mk k n s ls ts) = true := hb7
    refine Rg.od rfl rfl rfl (OpT.call Tryz.call126 (.cons rfl (.cons rfl (.cons rfl .nil))) (Runs.mono (each_runs 152 Tryz.call152 #[.pointer (some ⟨g3, 0, none⟩)] g3 (fun (st : Int) w => Box w g3 [.int .i64 st]) (freeStep) (fun _ _ _ h b => b.ext h) (fun _ _ b => b.lt) (fun t cs a st w R hv _ hn h1 h2 b => free1_runs _ _ _ _ _ _ _ hv hn ⟨h1, h2⟩ b) _ _ _ (0) _ _ (hvs.ext ((x2.trans x3).trans x6)) (fun h => by have h2 := h.2; have h1 := Nat.le_trans (Nat.le_refl w0.heap.size) x2.size; omega) (may_nodes hmy) (by have := may_depth hmy; omega) (b3.ext x6)) ?_))
    rw [each_free _ _ _ (by omega) (may_nodes hmy)]
    rintro _ w9 ⟨rfl, b9, x9⟩
    replace b9 : Box w9 g3 [.int .i64 (max 0 (free (T.mk k n s ls ts) 0))] := b9
    refine Rg.nil ?_
    refine hK8 _ _ ?_
    refine W.seqK fun K10 hK10 => ?_
    refine W.region ?_
    refine Rg.od rfl rfl rfl (OpT.loadB Tryz.isAgg3 rfl b9 rfl ?_)
    refine Rg.on rfl rfl (OpT.store Tryz.sizeOf3 rfl rfl rfl b9 rfl fun w11 m11 z11 b11 => ?_)
    replace b11 : Box w11 g3 [.int .i64 (max 0 (free (T.mk k n s ls ts) 0))] := b11
    refine Rg.nil ?_
    refine hK10 _ _ ?_
    refine W.ret ?_
    refine ⟨_, Res.cell1 rfl rfl Tryz.isAgg3 b11, ?_⟩
    exact ⟨congrArg (Value.int .i64) (by rw [hb7]; simp), ((((x2.trans x3).trans x6).upd x9 (by have h1 := x2.size; omega)).upd m11 (by have h1 := x2.size; omega))⟩
  · have hp7 := hb7
    refine W.condTb rfl (nF hb7) ?_
    refine W.seqK fun K12 hK12 => ?_
    refine W.region ?_
    refine Rg.on rfl rfl (OpT.store Tryz.sizeOf3 rfl rfl rfl (b3.ext x6) rfl fun w13 m13 z13 b13 => ?_)
    replace b13 : Box w13 g3 [.int .i64 0] := b13
    refine Rg.nil ?_
    refine hK12 _ _ ?_
    refine W.ret ?_
    refine ⟨_, Res.cell1 rfl rfl Tryz.isAgg3 b13, ?_⟩
    exact ⟨congrArg (Value.int .i64) (by rw [hb7]; simp), (((x2.trans x3).trans x6).upd m13 (by have h1 := x2.size; omega))⟩
set_option maxHeartbeats 1000000 in
set_option maxRecDepth 20000 in
theorem Reverse_runs (w0 : World) (lo c : Nat) (A : Option Addr) (css : List (List Value)) (hr : OwnR w0 lo 33 5 A c css) (hone : ∀ r ∈ css, r.all Value.oneCell' = true) :
    Runs Tryz.prog 110 #[.slice A css.length c] w0 fun v w' => v = .tuple #[] ∧ OwnR w' lo 33 5 A c css.reverse ∧ Mod (fun k => lo ≤ k) w0 w' := by
  have hle := hr.le
  refine Runs.of_W (vs := [_]) Tryz.func110 rfl rfl ?_
  refine W.seqK fun K1 hK1 => ?_
  refine W.region ?_
  refine Rg.od rfl rfl rfl (OpT.move rfl ?_)
  refine Rg.od rfl rfl rfl (OpT.lenS Tryz.underlying31 rfl ?_)
  refine Rg.od rfl rfl rfl (OpT.sub rfl rfl (by first | omega | (unfold lenOk at *; omega)) ?_)
  refine Rg.od rfl rfl rfl (OpT.assign rfl ?_)
  refine Rg.od rfl rfl rfl (OpT.assign rfl ?_)
  refine Rg.nil ?_
  refine hK1 _ _ ?_
  refine W.block ?_
  refine W.loop (σ := Nat) (fun q e w' => Sub [(0, .slice A css.length c), (2, .int .i64 ((q : Nat) : Int)), (3, .int .i64 (((css.length : Nat) : Int) - 1 - ((q : Nat) : Int)))] e ∧ Mod (fun k => lo ≤ k) w0 w' ∧ OwnR w' lo 33 5 A c (revTo css q) ∧ 2 * q ≤ css.length) (fun q => css.length - q) 0
    ⟨⟨rfl, rfl, intSlot (by omega) rfl, trivial⟩, Mod.refl _ _, hr, by omega⟩ ?_
  rintro q en w5 ⟨hs5, x5, r5, hq5⟩
  refine W.sub hs5 ?_
  have hlen := revTo_length css q
  refine W.seqK fun K2 hK2 => ?_
  refine W.seqK fun K3 hK3 => ?_
  refine W.region ?_
  refine Rg.od rfl rfl rfl (OpT.move rfl ?_)
  refine Rg.od rfl rfl rfl (OpT.move rfl ?_)
  refine Rg.od rfl rfl rfl (OpT.lss rfl rfl ?_)
  refine Rg.nil ?_
  refine hK3 _ _ ?_
  rcases Bool.eq_false_or_eq_true (decide (((q : Nat) : Int) < (((css.length : Nat) : Int) - 1 - ((q : Nat) : Int)))) with hb4 | hb4
  · have hp4 := of_decide_eq_true hb4
    refine W.condTb rfl hb4 ?_
    refine W.skip ?_
    refine hK2 _ _ ?_
    refine W.seqK fun K5 hK5 => ?_
    refine W.block ?_
    obtain ⟨ra, hra⟩ : ∃ ra, (revTo css q)[css.length - 1 - q]? = some ra := ⟨_, List.getElem?_eq_getElem (by omega)⟩
    obtain ⟨rb, hrb⟩ : ∃ rb, (revTo css q)[q]? = some rb := ⟨_, List.getElem?_eq_getElem (by omega)⟩
    obtain ⟨g, rfl, hlg, hwa⟩ := r5.at hra
    obtain ⟨g2, hg2, _, hwb⟩ := r5.at hrb
    cases hg2
    have hla := r5.1 _ (List.mem_of_getElem? hra)
    have hlb := r5.1 _ (List.mem_of_getElem? hrb)
    have h1a : ra.all Value.oneCell' = true := (revTo_mem css q _ (List.mem_of_getElem? hra)).elim (hone _) fun h => by rw [h]; rfl
    have h1b : rb.all Value.oneCell' = true := (revTo_mem css q _ (List.mem_of_getElem? hrb)).elim (hone _) fun h => by rw [h]; rfl
    have hi1 : (((css.length : Nat) : Int) - 1 - ((q : Nat) : Int)) = ((css.length - 1 - q : Nat) : Int) := by omega
    refine W.drawT 14 (⟨fun k => lo ≤ k, fun k w' => OwnR w' lo 33 5 (some ⟨g, 0, none⟩) c (if k = 0 then revTo css q else (revTo css q).set q ra), [none, none, none, none, none, none, none, none, none, none, none, none, none, some 0]⟩ : Plan) 1 [.ex (.slice (some ⟨g, 0, none⟩) css.length c), .ex (.int .i64 ((q : Nat) : Int)), .ex (.slice (some ⟨g, 0, none⟩) css.length c), .ex (.int .i64 (((css.length : Nat) : Int) - 1 - ((q : Nat) : Int))), .ex (.slice (some ⟨g, 0, none⟩) css.length c), .ex (.int .i64 (((css.length : Nat) : Int) - 1 - ((q : Nat) : Int))), .ex (.pointer (some ((⟨g, 0, none⟩ : Addr).add ((css.length - 1 - q) * 5)))), .ex (.agg ra.toArray), .ex (.slice (some ⟨g, 0, none⟩) css.length c), .ex (.int .i64 ((q : Nat) : Int)), .ex (.pointer (some ((⟨g, 0, none⟩ : Addr).add (q * 5)))), .ex (.agg rb.toArray), .ex (.pointer (some ((⟨g, 0, none⟩ : Addr).add (q * 5)))), .ex (undef)] mixed rfl rfl rfl ⟨trivial, trivial, trivial, trivial, trivial, trivial, trivial, trivial, trivial, trivial, trivial, trivial, trivial, trivial, trivial⟩ (by exact r5) (fun k w1 w2 hx hp => hp.ext hx) (Nat.le_refl 14) ?_ ?_
    · refine ⟨?_, ?_, ?_, ?_, ?_, ?_, ?_, ?_, ?_, ?_, ?_, ?_, ?_, ?_, trivial⟩
      · intro w' hx hp
        exact OpT.move rfl VS.ok
      · intro w' hx hp
        exact OpT.move rfl VS.ok
      · intro w' hx hp
        exact OpT.move rfl VS.ok
      · intro w' hx hp
        exact OpT.move rfl VS.ok
      · intro w' hx hp
        exact OpT.move rfl VS.ok
      · intro w' hx hp
        exact OpT.move rfl VS.ok
      · intro w' hx hp
        exact OpT.indexAddr (i := ((css.length : Nat) : Int) - 1 - ((q : Nat) : Int)) Tryz.underlying31 Tryz.sizeOf33 rfl rfl rfl (by omega) (by rw [hi1]; exact VS.ok)
      · intro w' hx hp
        obtain ⟨kk, hkp, hkl⟩ := hp
        have hk0 : kk = 0 := Nat.le_zero.1 (hkl 13 0 (by decide) rfl rfl)
        subst hk0
        obtain ⟨g3, hg3, _, hw3⟩ := OwnR.at (css := revTo css q) hkp hra
        cases hg3
        exact OpT.loadA Tryz.isAgg33 (by rw [hla]; exact Tryz.sizeOf33) rfl hw3 VS.ok
      · intro w' hx hp
        exact OpT.move rfl VS.ok
      · intro w' hx hp
        exact OpT.move rfl VS.ok
      · intro w' hx hp
        exact OpT.indexAddr Tryz.underlying31 Tryz.sizeOf33 rfl rfl rfl (by omega) VS.ok
      · intro w' hx hp
        obtain ⟨kk, hkp, hkl⟩ := hp
        have hk0 : kk = 0 := Nat.le_zero.1 (hkl 13 0 (by decide) rfl rfl)
        subst hk0
        obtain ⟨g3, hg3, _, hw3⟩ := OwnR.at (css := revTo css q) hkp hrb
        cases hg3
        exact OpT.loadA Tryz.isAgg33 (by rw [hlb]; exact Tryz.sizeOf33) rfl hw3 VS.ok
      · intro w' hx hp
        exact OpT.indexAddr Tryz.underlying31 Tryz.sizeOf33 rfl rfl rfl (by omega) VS.ok
      · intro w' hx hp
        refine OpT.storeRow Tryz.sizeOf33 rfl rfl hla h1a hp (by rw [if_pos rfl]; omega) fun w3 m3 z3 r3 => ⟨⟨m3.mono fun k hk => ?_, ?_⟩, rfl⟩
        · have hk9 : k = g := hk
          omega
        · exact r3
    · intro w8 x8 hp8
      refine ⟨rfl, rfl, OpT.indexAddr (i := ((css.length : Nat) : Int) - 1 - ((q : Nat) : Int)) Tryz.underlying31 Tryz.sizeOf33 rfl rfl rfl (by omega) ?_⟩
      rw [hi1]
      refine ⟨rfl, rfl, OpT.storeRow (i := css.length - 1 - q) Tryz.sizeOf33 rfl rfl hlb h1b hp8 (by rw [if_neg (by decide), List.length_set]; omega) fun w9 m9 z9 r9 => ?_⟩
      replace r9 : OwnR w9 lo 33 5 (some ⟨g, 0, none⟩) c (swap (revTo css q) q (css.length - 1 - q)) := by rw [swap, getD_at, getD_at, hra, hrb]; exact r9
      have x9 : Mod (fun k => lo ≤ k) w5 w9 := x8.trans (m9.mono fun k hk => by have hk9 : k = g := hk; omega)
      refine hK5 _ _ ?_
      refine W.region ?_
      refine Rg.od rfl rfl rfl (OpT.move rfl ?_)
      refine Rg.od rfl rfl rfl (OpT.add rfl rfl (by first | omega | (unfold lenOk at *; omega)) ?_)
      refine Rg.od rfl rfl rfl (OpT.move rfl ?_)
      refine Rg.od rfl rfl rfl (OpT.sub rfl rfl (by first | omega | (unfold lenOk at *; omega)) ?_)
      refine Rg.od rfl rfl rfl (OpT.assign rfl ?_)
      refine Rg.od rfl rfl rfl (OpT.assign rfl ?_)
      refine Rg.nil ?_
      exact ⟨q + 1, ⟨⟨rfl, rfl, intSlot (by omega) rfl, trivial⟩, x5.trans x9, by rw [revTo]; exact r9, by omega⟩, by omega⟩
  · have hp4 := of_decide_eq_false hb4
    refine W.condFb rfl hb4 ?_
    refine W.exit ?_
    refine ⟨_, Res.zero rfl, ?_⟩
    exact ⟨rfl, by rw [← revTo_all css q (by omega) (by omega)]; exact r5, x5⟩
set_option maxHeartbeats 1000000 in
set_option maxRecDepth 20000 in
theorem Spine_runs (t : T) (cs : List Value) (w0 : World) (R : Nat → Prop) (hR : ∀ k, w0.heap.size ≤ k → R k) (hv : VT w0 R cs t) : Runs Tryz.prog 77 #[.agg cs.toArray] w0 fun v w' =>
    ∃ cs' A c, v = .tuple #[.agg cs'.toArray, .slice A (bif mayT t then spArgs t else []).length c] ∧ VT w' R cs' (bif mayT t then head t else tZ) ∧ SlT w' R A (bif mayT t then spArgs t else []) ∧ lenOk (bif mayT t then spArgs t else []).length c ∧ Ext w0 w' := by
  obtain ⟨k, n, s, ls, ts, la, lc, ta, tc, rfl, rfl, hk, hn, hs, hl, ht, hL, hT⟩ := hv.inv
  have hvs := hv.small
  refine Runs.of_W (vs := [_]) Tryz.func77 rfl rfl ?_
  refine W.seqK fun K1 hK1 => ?_
  refine W.region ?_
  refine Rg.od rfl rfl rfl (OpT.box rfl fun w2 g2 e2 x2 z2 b2 => ?_)
  replace b2 : Box w2 g2 [.int .u8 k, .int .i64 n, .string s, .slice la ls.length lc, .slice ta ts.length tc] := b2
  refine Rg.od rfl rfl rfl (OpT.alloc Tryz.zeroValue33 fun w3 g3 e3 x3 z3 b3 => ?_)
  replace b3 : Box w3 g3 [.int .u8 0, .int .i64 0, .string (⟨#[]⟩ : ByteArray), .slice none 0 0, .slice none 0 0] := b3
  refine Rg.od rfl rfl rfl (OpT.assign rfl ?_)
  refine Rg.nil ?_
  refine hK1 _ _ ?_
  refine W.seqK fun K4 hK4 => ?_
  refine W.seqK fun K5 hK5 => ?_
  refine W.region ?_
  refine Rg.od rfl rfl rfl (OpT.loadAB Tryz.isAgg33 Tryz.sizeOf33 rfl (b2.ext x3) rfl ?_)
  refine Rg.od rfl rfl rfl (OpT.call Tryz.call107 (.cons rfl .nil) (Runs.mono (may_runs _ _ _ _ (hvs.ext (x2.trans x3))) ?_))
  rintro _ w6 ⟨rfl, x6⟩
  refine Rg.od rfl rfl rfl (OpT.notB rfl ?_)
  refine Rg.nil ?_
  refine hK5 _ _ ?_
  rcases Bool.eq_false_or_eq_true (mayT (T.mk k n s ls ts)) with hb7 | hb7
  · have hp7 := hb7
    refine W.condFb rfl (nT hb7) ?_
    refine W.skip ?_
    refine hK4 _ _ ?_
    refine W.seqK fun K8 hK8 => ?_
    refine W.region ?_
    refine Rg.od rfl rfl rfl (OpT.assign rfl ?_)
    refine Rg.nil ?_
    refine hK8 _ _ ?_
    refine W.seqK fun K9 hK9 => ?_
    refine W.block ?_
    have hmy : mayT (T.mk k n s ls ts) = true := hb7
    have hsz := may_size hmy
    refine W.loop (σ := Sp) (fun q e w' => Sub [(1, .pointer (some ⟨g2, 0, none⟩)), (2, .pointer (some ⟨g3, 0, none⟩)), (4, .slice q.A q.css.length q.c)] e ∧ Mod (fun k => k = g2 ∨ w6.heap.size ≤ k) w6 w' ∧ Box w' g2 q.cs ∧ VT w' (fun k => R k ∧ k < w0.heap.size) q.cs q.t ∧ OwnR w' w6.heap.size 33 5 q.A q.c q.css ∧ VTs w' (fun k => R k ∧ k < w0.heap.size) q.css q.l ∧ nodes q.t = true ∧ q.l.length + size q.t ≤ 65536 ∧ (head (T.mk k n s ls ts) = head q.t ∧ spArgs (T.mk k n s ls ts) = spArgs q.t ++ q.l.reverse) ∧ ∀ r ∈ q.css, r.all Value.oneCell' = true) (fun q => size q.t) ⟨(T.mk k n s ls ts), [], [.int .u8 k, .int .i64 n, .string s, .slice la ls.length lc, .slice ta ts.length tc], none, 0, []⟩
      ⟨⟨rfl, rfl, rfl, trivial⟩, Mod.refl _ _, (b2.ext (x3.trans x6)), (hvs.ext ((x2.trans x3).trans x6)), OwnR.nil _ _ _ _, VTs.nil _ _, may_nodes hmy, by simp only [List.length_nil]; omega, ⟨rfl, by simp⟩, fun r hr => absurd hr (by simp)⟩ ?_
    rintro ⟨qt, ql, qcs, qA, qc, qcss⟩ en w9 ⟨hs9, x9, bx, hvq, hown, hvts, hnd, hszq, hsp, hone⟩
    dsimp only at hs9 bx hvq hown hvts hnd hszq hsp hone
    refine W.sub hs9 ?_
    obtain ⟨kq, nq, sq, lsq, tsq, laq, lcq, taq, tcq, rfl, rfl, hkq, hnq, hsq, hlq, htq, hLq, hTq⟩ := hvq.inv
    refine W.seqK fun K10 hK10 => ?_
    refine W.seqK fun K11 hK11 => ?_
    refine W.region ?_
    refine Rg.od rfl rfl rfl (OpT.fieldAddrB (off := 0) Tryz.underlying33 rfl Tryz.sizeOf5 rfl rfl ?_)
    refine Rg.od rfl rfl rfl (OpT.loadB Tryz.isAgg5 rfl bx rfl ?_)
    refine Rg.od rfl rfl rfl (OpT.eqlI rfl rfl ?_)
    refine Rg.nil ?_
    refine hK11 _ _ ?_
    rcases Bool.eq_false_or_eq_true (decide (kq = 4)) with hb12 | hb12
    · have hp12 := of_decide_eq_true hb12
      refine W.condTb rfl hb12 ?_
      refine W.skip ?_
      refine hK10 _ _ ?_
      refine W.block ?_
      refine W.seqK fun K13 hK13 => ?_
      obtain ⟨hl2, hn4⟩ := node_app2 hnd (of_decide_eq_true hb12)
      have hsz4 := hn4.2.2.1
      refine W.region ?_
      refine Rg.od rfl rfl rfl (OpT.move rfl ?_)
      refine Rg.od rfl rfl rfl (OpT.fieldAddrB (off := 4) Tryz.underlying33 rfl Tryz.sizeOf31 rfl rfl ?_)
      refine Rg.od rfl rfl rfl (OpT.loadB Tryz.isAgg31 rfl bx rfl ?_)
      obtain ⟨a14, cs14, ha14, hr14, hw14, hv14⟩ := hTq.at (i := 1) (by first | omega | (unfold lenOk at *; omega))
      obtain ⟨k14, n14, s14, ls14, ts14, la14, lc14, ta14, tc14, et14, rfl, hk14, hn14, hs14, hl14, ht14, hL14, hT14⟩ := hv14.inv
      refine Rg.od rfl rfl rfl (OpT.indexAddr Tryz.underlying31 Tryz.sizeOf33 rfl rfl ha14 (by first | omega | (unfold lenOk at *; omega)) ?_)
      refine Rg.od rfl rfl rfl (OpT.loadA (cs := [.int .u8 k14, .int .i64 n14, .string s14, .slice la14 ls14.length lc14, .slice ta14 ts14.length tc14]) Tryz.isAgg33 Tryz.sizeOf33 rfl hw14 ?_)
      refine Rg.od rfl rfl rfl (OpT.buildSlice (cs := #[.int .u8 k14, .int .i64 n14, .string s14, .slice la14 ls14.length lc14, .slice ta14 ts14.length tc14]) (.cons rfl .nil) Tryz.underlying31 Tryz.sizeOf33 Tryz.zeroValue33 rfl (by kernel_rfl) fun w15 g15 e15 x15 z15 b15 => ?_)
      replace b15 : Box w15 g15 [.int .u8 k14, .int .i64 n14, .string s14, .slice la14 ls14.length lc14, .slice ta14 ts14.length tc14] := b15
      refine Rg.od rfl rfl rfl (OpT.append (news := [[.int .u8 k14, .int .i64 n14, .string s14, .slice la14 ls14.length lc14, .slice ta14 ts14.length tc14]]) (lo := w6.heap.size) Tryz.underlying31 info33.1 info33.2.1 info33.2.2.1 info33.2.2.2.1 info33.2.2.2.2 (by decide) rfl rfl rfl (hown.ext x15) (fun r hr => by simp only [List.mem_singleton] at hr; subst hr; rfl) (by have := b15.rowAt 0; exact this) (List.all_eq_true.1 (show ([[.int .u8 k14, .int .i64 n14, .string s14, .slice la14 ls14.length lc14, .slice ta14 ts14.length tc14]] : List (List Value)).flatten.all Value.oneCell' = true from rfl)) (by simp only [List.length_singleton]; have h9 := hvts.1; omega) (Nat.le_trans (Nat.le_trans (Nat.le_refl w6.heap.size) x9.size) x15.size) fun w16 A16 c16 m16 r16 => ?_)
      refine Rg.od rfl rfl rfl (OpT.assign rfl ?_)
      refine Rg.nil ?_
      refine hK13 _ _ ?_
      refine W.region ?_
      refine Rg.od rfl rfl rfl (OpT.fieldAddrB (off := 4) Tryz.underlying33 rfl Tryz.sizeOf31 rfl rfl ?_)
      refine Rg.od rfl rfl rfl (OpT.loadB Tryz.isAgg31 rfl ((bx.ext x15).mod m16 (fun hS => by have h9 := Nat.le_trans (Nat.le_trans (Nat.le_refl w2.heap.size) x3.size) x6.size; omega)) rfl ?_)
      obtain ⟨a17, cs17, ha17, hr17, hw17, hv17⟩ := ((hTq.ext x15).mod m16 (fun k hk h => by have h8 := hk.2; have h9 := Nat.le_trans (Nat.le_trans (Nat.le_trans (Nat.le_refl w0.heap.size) x2.size) x3.size) x6.size; omega)).at (i := 0) (by first | omega | (unfold lenOk at *; omega))
      obtain ⟨k17, n17, s17, ls17, ts17, la17, lc17, ta17, tc17, et17, rfl, hk17, hn17, hs17, hl17, ht17, hL17, hT17⟩ := hv17.inv
      refine Rg.od rfl rfl rfl (OpT.indexAddr Tryz.underlying31 Tryz.sizeOf33 rfl rfl ha17 (by first | omega | (unfold lenOk at *; omega)) ?_)
      refine Rg.od rfl rfl rfl (OpT.loadA (cs := [.int .u8 k17, .int .i64 n17, .string s17, .slice la17 ls17.length lc17, .slice ta17 ts17.length tc17]) Tryz.isAgg33 Tryz.sizeOf33 rfl hw17 ?_)
      refine Rg.on rfl rfl (OpT.storeA Tryz.sizeOf33 rfl rfl rfl rfl ((bx.ext x15).mod m16 (fun hS => by have h9 := Nat.le_trans (Nat.le_trans (Nat.le_refl w2.heap.size) x3.size) x6.size; omega)) rfl fun w18 m18 z18 b18 => ?_)
      replace b18 : Box w18 g2 [.int .u8 k17, .int .i64 n17, .string s17, .slice la17 ls17.length lc17, .slice ta17 ts17.length tc17] := b18
      refine Rg.nil ?_
      exact ⟨⟨tsq[0], ql ++ [tsq[1]], [.int .u8 k17, .int .i64 n17, .string s17, .slice la17 ls17.length lc17, .slice ta17 ts17.length tc17], A16, c16, (qcss ++ [[.int .u8 k14, .int .i64 n14, .string s14, .slice la14 ls14.length lc14, .slice ta14 ts14.length tc14]])⟩, ⟨⟨rfl, rfl, rfl, trivial⟩, (((x9.ext x15).trans (m16.mono fun k h => .inr h)).trans (m18.mono fun k h => .inl h)), b18, (hv17.upd m18 (fun h => by have h2 := h.2; have h1 := Nat.le_refl w0.heap.size; omega)), (r16.upd m18 (by have h9 := Nat.le_trans (Nat.le_trans (Nat.le_refl w2.heap.size) x3.size) x6.size; omega)), ((((hvts.ext x15).mod m16 (fun k hk h => by have h8 := hk.2; have h9 := Nat.le_trans (Nat.le_trans (Nat.le_trans (Nat.le_refl w0.heap.size) x2.size) x3.size) x6.size; omega)).upd m18 (fun k hk h => by have h2 := hk.2; have h1 := Nat.le_refl w0.heap.size; have h3 : k = g2 := h; omega)).snoc (((hv14.ext x15).mod m16 (fun k hk h => by have h8 := hk.2; have h9 := Nat.le_trans (Nat.le_trans (Nat.le_trans (Nat.le_refl w0.heap.size) x2.size) x3.size) x6.size; omega)).upd m18 (fun h => by have h2 := h.2; have h1 := Nat.le_refl w0.heap.size; omega))), hn4.2.2.2, by simp only [List.length_append, List.length_singleton]; have h8 := size_pos tsq[1]; omega, ⟨by rw [hsp.1, hn4.1], by rw [hsp.2, hn4.2.1, List.reverse_append]; simp⟩, fun r hr => (List.mem_append.1 hr).elim (hone r) fun h => by simp only [List.mem_singleton] at h; subst h; rfl⟩, by show size tsq[0] < size (T.mk kq nq sq lsq tsq); omega⟩
    · have hp12 := of_decide_eq_false hb12
      refine W.condFb rfl hb12 ?_
      refine W.exit ?_
      refine hK9 _ _ ?_
      refine W.seqK fun K19 hK19 => ?_
      refine W.region ?_
      refine Rg.od rfl rfl rfl (OpT.move rfl ?_)
      refine Rg.od rfl rfl rfl (OpT.call Tryz.call110 (.cons rfl .nil) (Runs.mono (Reverse_runs _ _ _ _ _ hown hone) ?_))
      rintro _ w20 ⟨rfl, r20, m20⟩
      refine Rg.nil ?_
      refine hK19 _ _ ?_
      refine W.seqK fun K21 hK21 => ?_
      refine W.region ?_
      refine Rg.od rfl rfl rfl (OpT.loadAB Tryz.isAgg33 Tryz.sizeOf33 rfl (bx.mod m20 (fun hS => by have h9 := Nat.le_trans (Nat.le_trans (Nat.le_refl w2.heap.size) x3.size) x6.size; omega)) rfl ?_)
      refine Rg.od rfl rfl rfl (OpT.move rfl ?_)
      refine Rg.on rfl rfl (OpT.storeA Tryz.sizeOf33 rfl rfl rfl rfl (((b3.ext x6).mod x9 (fun hS => by have h0 := ((by have h1 := Nat.le_refl w2.heap.size; omega) : g3 ≠ g2); have h9 := Nat.le_trans (Nat.le_refl w3.heap.size) x6.size; omega)).mod m20 (fun hS => by have h9 := Nat.le_trans (Nat.le_refl w3.heap.size) x6.size; omega)) rfl fun w22 m22 z22 b22 => ?_)
      replace b22 : Box w22 g3 [.int .u8 kq, .int .i64 nq, .string sq, .slice laq lsq.length lcq, .slice taq tsq.length tcq] := b22
      refine Rg.od rfl rfl rfl (OpT.assign rfl ?_)
      refine Rg.nil ?_
      refine hK21 _ _ ?_
      refine W.ret ?_
      refine ⟨_, Res.cellA1 rfl rfl rfl Tryz.isAgg33 Tryz.sizeOf33 rfl b22, ?_⟩
      have hk4 : kq ≠ 4 := of_decide_eq_false hb12
      rw [head_no hk4] at hsp
      rw [spArgs_no hk4] at hsp
      rw [hmy]
      have hlen := hvts.1
      have hlr : ql.length = ql.reverse.length := by simp
      refine ⟨_, qA, qc, ?_, by rw [cond_true, hsp.1]; exact (((hvq.mod m20 (fun k hk h => by have h8 := hk.2; have h9 := Nat.le_trans (Nat.le_trans (Nat.le_trans (Nat.le_refl w0.heap.size) x2.size) x3.size) x6.size; omega)).upd m22 (fun h => by have h2 := h.2; have h1 := Nat.le_trans (Nat.le_refl w0.heap.size) x2.size; omega))).mono fun k h => h.1, by rw [cond_true, hsp.2]; exact ((r20.upd m22 (by have h9 := Nat.le_trans (Nat.le_refl w3.heap.size) x6.size; omega))).slT ((((hvts.mod m20 (fun k hk h => by have h8 := hk.2; have h9 := Nat.le_trans (Nat.le_trans (Nat.le_trans (Nat.le_refl w0.heap.size) x2.size) x3.size) x6.size; omega)).upd m22 (fun k hk h => by have h2 := hk.2; have h1 := Nat.le_trans (Nat.le_refl w0.heap.size) x2.size; have h3 : k = g3 := h; omega)).reverse).mono fun k h => h.1) (fun k h => hR k (Nat.le_trans (Nat.le_trans (Nat.le_trans (Nat.le_trans (Nat.le_refl w0.heap.size) x2.size) x3.size) x6.size) h)), by rw [cond_true, hsp.2]; have h8 := hown.le; simp only [List.nil_append, List.length_reverse]; unfold lenOk; omega, ((Mod.trans' (Mod.trans' ((x2.trans x3).trans x6) x9 fun k hk hS => by have h0 := Nat.le_refl w0.heap.size; have h9 := Nat.le_trans (Nat.le_trans (Nat.le_trans (Nat.le_refl w0.heap.size) x2.size) x3.size) x6.size; omega) m20 fun k hk hS => by have h9 := Nat.le_trans (Nat.le_trans (Nat.le_trans (Nat.le_refl w0.heap.size) x2.size) x3.size) x6.size; omega).upd m22 (by have h1 := x2.size; omega))⟩
      rw [cond_true, hsp.2]
      simp only [List.nil_append, List.length_reverse, ← hlen]
      try rfl
  · have hp7 := hb7
    refine W.condTb rfl (nF hb7) ?_
    refine W.seqK fun K23 hK23 => ?_
    refine W.region ?_
    refine Rg.od rfl rfl rfl (OpT.build (cs := #[.int .u8 0, .int .i64 0, .string (⟨#[]⟩ : ByteArray), .slice none 0 0, .slice none 0 0]) .nil Tryz.zeroValue33 places33.choose_spec.1 places33.choose_spec.2 (by kernel_rfl) ?_)
    refine Rg.on rfl rfl (OpT.storeA Tryz.sizeOf33 rfl rfl rfl rfl (b3.ext x6) rfl fun w24 m24 z24 b24 => ?_)
    replace b24 : Box w24 g3 [.int .u8 0, .int .i64 0, .string (⟨#[]⟩ : ByteArray), .slice none 0 0, .slice none 0 0] := b24
    refine Rg.od rfl rfl rfl (OpT.assign rfl ?_)
    refine Rg.nil ?_
    refine hK23 _ _ ?_
    refine W.ret ?_
    refine ⟨_, Res.cellA1 rfl rfl rfl Tryz.isAgg33 Tryz.sizeOf33 rfl b24, ?_⟩
    rw [hb7]
    exact ⟨_, _, _, rfl, VT.intro (w := w24) (R := R) (k := 0) (n := 0) (s := (⟨#[]⟩ : ByteArray)) (la := none) (lc := 0) (ta := none) (tc := 0) (ls := []) (ts := []) (by omega) (by unfold i64ok at *; omega) (by first | assumption | decide) ⟨Nat.le_refl 0, by decide⟩ ⟨Nat.le_refl 0, by decide⟩ (SlL.nil _ _ _) (SlT.nil _ _ _), SlT.nil _ _ _, ⟨Nat.le_refl 0, by decide⟩, (((x2.trans x3).trans x6).upd m24 (by have h1 := x2.size; omega))⟩
set_option maxHeartbeats 1000000 in
set_option maxRecDepth 20000 in
theorem rSame_runs (x : T) : ∀ (y : T) (cs cs' : List Value) (w : World) (R R' : Nat → Prop) (hx : VT w R cs x) (hy : VT w R' cs' y), Runs Tryz.prog 41 #[.agg cs.toArray, .agg cs'.toArray] w fun v w' => v = .bool (sameB x y) ∧ Ext w w' := by
  induction x using T.ind with
  | h ka na sa lsa tsa ih =>
  intro y cs cs' w0 R R' hx hy
  obtain ⟨ka1, na1, sa1, lsa1, tsa1, laa, lca, taa, tca, e1, rfl, hka, hna, hsa, hla, hta, hLa, hTa⟩ := hx.inv
  obtain ⟨kb, nb, sb, lsb, tsb, lab, lcb, tab, tcb, e2, rfl, hkb, hnb, hsb, hlb, htb, hLb, hTb⟩ := hy.inv
  cases e1
  cases e2
  refine Runs.of_W (vs := [_, _]) Tryz.func41 rfl rfl ?_
  refine W.seqK fun K1 hK1 => ?_
  refine W.region ?_
  refine Rg.od rfl rfl rfl (OpT.box rfl fun w2 g2 e2 x2 z2 b2 => ?_)
  replace b2 : Box w2 g2 [.int .u8 ka, .int .i64 na, .string sa, .slice laa lsa.length lca, .slice taa tsa.length tca] := b2
  refine Rg.od rfl rfl rfl (OpT.box rfl fun w3 g3 e3 x3 z3 b3 => ?_)
  replace b3 : Box w3 g3 [.int .u8 kb, .int .i64 nb, .string sb, .slice lab lsb.length lcb, .slice tab tsb.length tcb] := b3
  refine Rg.od rfl rfl rfl (OpT.assign rfl ?_)
  refine Rg.nil ?_
  refine hK1 _ _ ?_
  refine W.seqK fun K4 hK4 => ?_
  refine W.seqK fun K5 hK5 => ?_
  refine W.region ?_
  refine Rg.od rfl rfl rfl (OpT.fieldAddrB (off := 0) Tryz.underlying33 rfl Tryz.sizeOf5 rfl rfl ?_)
  refine Rg.od rfl rfl rfl (OpT.loadB Tryz.isAgg5 rfl (b2.ext x3) rfl ?_)
  refine Rg.od rfl rfl rfl (OpT.fieldAddrB (off := 0) Tryz.underlying33 rfl Tryz.sizeOf5 rfl rfl ?_)
  refine Rg.od rfl rfl rfl (OpT.loadB Tryz.isAgg5 rfl b3 rfl ?_)
  refine Rg.od rfl rfl rfl (OpT.neqI rfl rfl ?_)
  refine Rg.od rfl rfl rfl (OpT.move rfl ?_)
  rcases Bool.eq_false_or_eq_true (decide (ka = kb)) with hb6 | hb6
  · have hp6 := of_decide_eq_true hb6
    refine Rg.gy rfl rfl rfl rfl (nT hb6) (OpT.fieldAddrB (off := 1) Tryz.underlying33 rfl Tryz.sizeOf3 rfl rfl ?_)
    refine Rg.gy rfl rfl rfl rfl (nT hb6) (OpT.loadB Tryz.isAgg3 rfl (b2.ext x3) rfl ?_)
    refine Rg.gy rfl rfl rfl rfl (nT hb6) (OpT.fieldAddrB (off := 1) Tryz.underlying33 rfl Tryz.sizeOf3 rfl rfl ?_)
    refine Rg.gy rfl rfl rfl rfl (nT hb6) (OpT.loadB Tryz.isAgg3 rfl b3 rfl ?_)
    refine Rg.gy rfl rfl rfl rfl (nT hb6) (OpT.neqI rfl rfl ?_)
    refine Rg.od rfl rfl rfl (OpT.pickF rfl (nT hb6) rfl ?_)
    refine Rg.od rfl rfl rfl (OpT.move rfl ?_)
    rcases Bool.eq_false_or_eq_true (decide (na = nb)) with hb7 | hb7
    · have hp7 := of_decide_eq_true hb7
      refine Rg.gy rfl rfl rfl rfl (nT hb7) (OpT.fieldAddrB (off := 2) Tryz.underlying33 rfl Tryz.sizeOf9 rfl rfl ?_)
      refine Rg.gy rfl rfl rfl rfl (nT hb7) (OpT.loadB Tryz.isAgg9 rfl (b2.ext x3) rfl ?_)
      refine Rg.gy rfl rfl rfl rfl (nT hb7) (OpT.fieldAddrB (off := 2) Tryz.underlying33 rfl Tryz.sizeOf9 rfl rfl ?_)
      refine Rg.gy rfl rfl rfl rfl (nT hb7) (OpT.loadB Tryz.isAgg9 rfl b3 rfl ?_)
      refine Rg.gy rfl rfl rfl rfl (nT hb7) (OpT.neqS rfl rfl ?_)
      refine Rg.od rfl rfl rfl (OpT.pickF rfl (nT hb7) rfl ?_)
      refine Rg.od rfl rfl rfl (OpT.move rfl ?_)
      rcases Bool.eq_false_or_eq_true (sa.toList == sb.toList) with hb8 | hb8
      · have hp8 := hb8
        refine Rg.gy rfl rfl rfl rfl (nT hb8) (OpT.fieldAddrB (off := 3) Tryz.underlying33 rfl Tryz.sizeOf30 rfl rfl ?_)
        refine Rg.gy rfl rfl rfl rfl (nT hb8) (OpT.loadB Tryz.isAgg30 rfl (b2.ext x3) rfl ?_)
        refine Rg.gy rfl rfl rfl rfl (nT hb8) (OpT.lenS Tryz.underlying30 rfl ?_)
        refine Rg.gy rfl rfl rfl rfl (nT hb8) (OpT.fieldAddrB (off := 3) Tryz.underlying33 rfl Tryz.sizeOf30 rfl rfl ?_)
        refine Rg.gy rfl rfl rfl rfl (nT hb8) (OpT.loadB Tryz.isAgg30 rfl b3 rfl ?_)
        refine Rg.gy rfl rfl rfl rfl (nT hb8) (OpT.lenS Tryz.underlying30 rfl ?_)
        refine Rg.gy rfl rfl rfl rfl (nT hb8) (OpT.neqI rfl rfl ?_)
        refine Rg.od rfl rfl rfl (OpT.pickF rfl (nT hb8) rfl ?_)
        refine Rg.od rfl rfl rfl (OpT.move rfl ?_)
        rcases Bool.eq_false_or_eq_true (decide (((lsa.length : Nat) : Int) = ((lsb.length : Nat) : Int))) with hb9 | hb9
        · have hp9 := of_decide_eq_true hb9
          refine Rg.gy rfl rfl rfl rfl (nT hb9) (OpT.fieldAddrB (off := 4) Tryz.underlying33 rfl Tryz.sizeOf31 rfl rfl ?_)
          refine Rg.gy rfl rfl rfl rfl (nT hb9) (OpT.loadB Tryz.isAgg31 rfl (b2.ext x3) rfl ?_)
          refine Rg.gy rfl rfl rfl rfl (nT hb9) (OpT.lenS Tryz.underlying31 rfl ?_)
          refine Rg.gy rfl rfl rfl rfl (nT hb9) (OpT.fieldAddrB (off := 4) Tryz.underlying33 rfl Tryz.sizeOf31 rfl rfl ?_)
          refine Rg.gy rfl rfl rfl rfl (nT hb9) (OpT.loadB Tryz.isAgg31 rfl b3 rfl ?_)
          refine Rg.gy rfl rfl rfl rfl (nT hb9) (OpT.lenS Tryz.underlying31 rfl ?_)
          refine Rg.gy rfl rfl rfl rfl (nT hb9) (OpT.neqI rfl rfl ?_)
          refine Rg.od rfl rfl rfl (OpT.pickF rfl (nT hb9) rfl ?_)
          refine Rg.nil ?_
          refine hK5 _ _ ?_
          rcases Bool.eq_false_or_eq_true (decide (((tsa.length : Nat) : Int) = ((tsb.length : Nat) : Int))) with hb10 | hb10
          · have hp10 := of_decide_eq_true hb10
            refine W.condFb rfl (nT hb10) ?_
            refine W.skip ?_
            refine hK4 _ _ ?_
            refine W.seqK fun K11 hK11 => ?_
            refine W.seqK fun K12 hK12 => ?_
            refine W.region ?_
            refine Rg.od rfl rfl rfl (OpT.assign rfl ?_)
            refine Rg.nil ?_
            refine hK12 _ _ ?_
            refine W.block ?_
            refine W.loop (σ := Nat) (fun q e w' => Sub [(0, .agg ([.int .u8 ka, .int .i64 na, .string sa, .slice laa lsa.length lca, .slice taa tsa.length tca].toArray)), (1, .agg ([.int .u8 kb, .int .i64 nb, .string sb, .slice lab lsb.length lcb, .slice tab tsb.length tcb].toArray)), (2, .pointer (some ⟨g2, 0, none⟩)), (3, .pointer (some ⟨g3, 0, none⟩)), (4, .bool false), (5, .int .i64 ((q : Nat) : Int)), (7, .pointer (some ⟨g2, 0, none⟩)), (8, .int .u8 ka), (9, .pointer (some ⟨g3, 0, none⟩)), (10, .int .u8 kb), (11, .bool (!decide (ka = kb))), (12, .bool (!decide (ka = kb))), (13, .pointer (some ⟨g2, 1, none⟩)), (14, .int .i64 na), (15, .pointer (some ⟨g3, 1, none⟩)), (16, .int .i64 nb), (17, .bool (!decide (na = nb))), (18, .bool (!decide (na = nb))), (19, .bool (!decide (na = nb))), (20, .pointer (some ⟨g2, 2, none⟩)), (21, .string sa), (22, .pointer (some ⟨g3, 2, none⟩)), (23, .string sb), (24, .bool (!(sa.toList == sb.toList))), (25, .bool (!(sa.toList == sb.toList))), (26, .bool (!(sa.toList == sb.toList))), (27, .pointer (some ⟨g2, 3, none⟩)), (28, .slice laa lsa.length lca), (29, .int .i64 ((lsa.length : Nat) : Int)), (30, .pointer (some ⟨g3, 3, none⟩)), (31, .slice lab lsb.length lcb), (32, .int .i64 ((lsb.length : Nat) : Int)), (33, .bool (!decide (((lsa.length : Nat) : Int) = ((lsb.length : Nat) : Int)))), (34, .bool (!decide (((lsa.length : Nat) : Int) = ((lsb.length : Nat) : Int)))), (35, .bool (!decide (((lsa.length : Nat) : Int) = ((lsb.length : Nat) : Int)))), (36, .pointer (some ⟨g2, 4, none⟩)), (37, .slice taa tsa.length tca), (38, .int .i64 ((tsa.length : Nat) : Int)), (39, .pointer (some ⟨g3, 4, none⟩)), (40, .slice tab tsb.length tcb), (41, .int .i64 ((tsb.length : Nat) : Int)), (42, .bool (!decide (((tsa.length : Nat) : Int) = ((tsb.length : Nat) : Int)))), (43, .bool (!decide (((tsa.length : Nat) : Int) = ((tsb.length : Nat) : Int))))] e ∧ Ext w3 w' ∧ q ≤ lsa.length ∧ lsa.take q = lsb.take q) (fun q => lsa.length - q) 0
              ⟨⟨rfl, rfl, rfl, rfl, rfl, rfl, rfl, rfl, rfl, rfl, rfl, rfl, rfl, rfl, rfl, rfl, rfl, rfl, rfl, rfl, rfl, rfl, rfl, rfl, rfl, rfl, rfl, rfl, rfl, rfl, rfl, rfl, rfl, rfl, rfl, rfl, rfl, rfl, rfl, rfl, rfl, rfl, rfl, trivial⟩, Mod.refl _ _, Nat.zero_le _, rfl⟩ ?_
            rintro s13 en13 w13 ⟨hs13, x13, hi13_0, hi13_1⟩
            refine W.sub hs13 ?_
            refine W.seqK fun K14 hK14 => ?_
            refine W.seqK fun K15 hK15 => ?_
            refine W.region ?_
            refine Rg.od rfl rfl rfl (OpT.move rfl ?_)
            refine Rg.od rfl rfl rfl (OpT.fieldAddrB (off := 3) Tryz.underlying33 rfl Tryz.sizeOf30 rfl rfl ?_)
            refine Rg.od rfl rfl rfl (OpT.loadB Tryz.isAgg30 rfl (b2.ext (x3.trans x13)) rfl ?_)
            refine Rg.od rfl rfl rfl (OpT.lenS Tryz.underlying30 rfl ?_)
            refine Rg.od rfl rfl rfl (OpT.lss rfl rfl ?_)
            refine Rg.nil ?_
            refine hK15 _ _ ?_
            rcases Bool.eq_false_or_eq_true (decide (((s13 : Nat) : Int) < ((lsa.length : Nat) : Int))) with hb16 | hb16
            · have hp16 := of_decide_eq_true hb16
              refine W.condTb rfl hb16 ?_
              refine W.skip ?_
              refine hK14 _ _ ?_
              refine W.seqK fun K17 hK17 => ?_
              refine W.block ?_
              refine W.seqK fun K18 hK18 => ?_
              obtain ⟨a26, ha26, hr26, hw26, hv26⟩ := hLa.at (i := s13) (by first | omega | (unfold lenOk at *; omega))
              obtain ⟨a32, ha32, hr32, hw32, hv32⟩ := hLb.at (i := s13) (by first | omega | (unfold lenOk at *; omega))
              refine W.drawE 11 [.ex (.pointer (some ⟨g2, 3, none⟩)), .ex (.slice laa lsa.length lca), .ex (.int .i64 ((s13 : Nat) : Int)), .ex (.pointer (some (a26.add (s13 * 5)))), .ex (.agg ([.int .i64 (lsa[s13].c), .int .i64 (lsa[s13].p0), .int .i64 (lsa[s13].p1), .int .i64 (lsa[s13].p2), .int .i64 (lsa[s13].p3)].toArray)), .ex (.pointer (some ⟨g3, 3, none⟩)), .ex (.slice lab lsb.length lcb), .ex (.int .i64 ((s13 : Nat) : Int)), .ex (.pointer (some (a32.add (s13 * 5)))), .ex (.agg ([.int .i64 (lsb[s13].c), .int .i64 (lsb[s13].p0), .int .i64 (lsb[s13].p1), .int .i64 (lsb[s13].p2), .int .i64 (lsb[s13].p3)].toArray)), .ex (.bool (!((lsa[s13]).same (lsb[s13]))))] mixed rfl rfl rfl ⟨trivial, trivial, trivial, trivial, trivial, trivial, trivial, trivial, trivial, trivial, trivial, trivial⟩ ?_ ?_
              · refine ⟨?_, ?_, ?_, ?_, ?_, ?_, ?_, ?_, ?_, ?_, ?_, trivial⟩
                · intro w' hx _
                  exact OpT.fieldAddrB (off := 3) Tryz.underlying33 rfl Tryz.sizeOf30 rfl rfl VS.ok
                · intro w' hx _
                  exact OpT.loadB Tryz.isAgg30 rfl (b2.ext ((x3.trans x13).trans hx)) rfl VS.ok
                · intro w' hx _
                  exact OpT.move rfl VS.ok
                · intro w' hx _
                  exact OpT.indexAddr Tryz.underlying30 Tryz.sizeOf63 rfl rfl ha26 (by first | omega | (unfold lenOk at *; omega)) VS.ok
                · intro w' hx _
                  exact OpT.loadA (cs := [.int .i64 (lsa[s13].c), .int .i64 (lsa[s13].p0), .int .i64 (lsa[s13].p1), .int .i64 (lsa[s13].p2), .int .i64 (lsa[s13].p3)]) Tryz.isAgg63 Tryz.sizeOf63 rfl (hw26.ext (((x2.trans x3).trans x13).trans hx)) VS.ok
                · intro w' hx _
                  exact OpT.fieldAddrB (off := 3) Tryz.underlying33 rfl Tryz.sizeOf30 rfl rfl VS.ok
                · intro w' hx _
                  exact OpT.loadB Tryz.isAgg30 rfl (b3.ext (x13.trans hx)) rfl VS.ok
                · intro w' hx _
                  exact OpT.move rfl VS.ok
                · intro w' hx _
                  exact OpT.indexAddr Tryz.underlying30 Tryz.sizeOf63 rfl rfl ha32 (by first | omega | (unfold lenOk at *; omega)) VS.ok
                · intro w' hx _
                  exact OpT.loadA (cs := [.int .i64 (lsb[s13].c), .int .i64 (lsb[s13].p0), .int .i64 (lsb[s13].p1), .int .i64 (lsb[s13].p2), .int .i64 (lsb[s13].p3)]) Tryz.isAgg63 Tryz.sizeOf63 rfl (hw32.ext (((x2.trans x3).trans x13).trans hx)) VS.ok
                · intro w' hx _
                  exact OpT.neqL (a := lsa[s13]) (b := lsb[s13]) rfl rfl VS.ok
              · intro w21 x21
                refine hK18 _ _ ?_
                rcases Bool.eq_false_or_eq_true ((lsa[s13]).same (lsb[s13])) with hb35 | hb35
                · have hp35 := hb35
                  refine W.condFb rfl (nT hb35) ?_
                  refine W.skip ?_
                  refine hK17 _ _ ?_
                  refine W.region ?_
                  refine Rg.od rfl rfl rfl (OpT.move rfl ?_)
                  refine Rg.od rfl rfl rfl (OpT.add rfl rfl (by first | omega | (unfold lenOk at *; omega)) ?_)
                  refine Rg.od rfl rfl rfl (OpT.assign rfl ?_)
                  refine Rg.nil ?_
                  exact ⟨s13 + 1, ⟨⟨rfl, rfl, rfl, rfl, rfl, rfl, rfl, rfl, rfl, rfl, rfl, rfl, rfl, rfl, rfl, rfl, rfl, rfl, rfl, rfl, rfl, rfl, rfl, rfl, rfl, rfl, rfl, rfl, rfl, rfl, rfl, rfl, rfl, rfl, rfl, rfl, rfl, rfl, rfl, rfl, rfl, rfl, rfl, trivial⟩, (x13.trans x21), by omega, take_eq_succ hi13_1 (by omega) (by omega) ((L.same_iff _ _).1 (hb35))⟩, by omega⟩
                · have hp35 := hb35
                  refine W.condTb rfl (nF hb35) ?_
                  refine W.seqK fun K36 hK36 => ?_
                  refine W.region ?_
                  refine Rg.od rfl rfl rfl (OpT.assign rfl ?_)
                  refine Rg.nil ?_
                  refine hK36 _ _ ?_
                  refine W.ret ?_
                  refine ⟨_, Res.one rfl rfl, ?_⟩
                  exact ⟨congrArg Value.bool (no_of_iff (sameB_iff _ _) (fun e => by cases e; exact L.same_no hb35 rfl)), (((x2.trans x3).trans x13).trans x21)⟩
            · have hp16 := of_decide_eq_false hb16
              refine W.condFb rfl hb16 ?_
              refine W.exit ?_
              refine hK11 _ _ ?_
              refine W.seqK fun K37 hK37 => ?_
              refine W.seqK fun K38 hK38 => ?_
              refine W.region ?_
              refine Rg.od rfl rfl rfl (OpT.assign rfl ?_)
              refine Rg.nil ?_
              refine hK38 _ _ ?_
              refine W.block ?_
              refine W.loop (σ := Nat) (fun q e w' => Sub [(0, .agg ([.int .u8 ka, .int .i64 na, .string sa, .slice laa lsa.length lca, .slice taa tsa.length tca].toArray)), (1, .agg ([.int .u8 kb, .int .i64 nb, .string sb, .slice lab lsb.length lcb, .slice tab tsb.length tcb].toArray)), (2, .pointer (some ⟨g2, 0, none⟩)), (3, .pointer (some ⟨g3, 0, none⟩)), (4, .bool false), (5, .int .i64 ((s13 : Nat) : Int)), (6, .int .i64 ((q : Nat) : Int)), (7, .pointer (some ⟨g2, 0, none⟩)), (8, .int .u8 ka), (9, .pointer (some ⟨g3, 0, none⟩)), (10, .int .u8 kb), (11, .bool (!decide (ka = kb))), (12, .bool (!decide (ka = kb))), (13, .pointer (some ⟨g2, 1, none⟩)), (14, .int .i64 na), (15, .pointer (some ⟨g3, 1, none⟩)), (16, .int .i64 nb), (17, .bool (!decide (na = nb))), (18, .bool (!decide (na = nb))), (19, .bool (!decide (na = nb))), (20, .pointer (some ⟨g2, 2, none⟩)), (21, .string sa), (22, .pointer (some ⟨g3, 2, none⟩)), (23, .string sb), (24, .bool (!(sa.toList == sb.toList))), (25, .bool (!(sa.toList == sb.toList))), (26, .bool (!(sa.toList == sb.toList))), (27, .pointer (some ⟨g2, 3, none⟩)), (28, .slice laa lsa.length lca), (29, .int .i64 ((lsa.length : Nat) : Int)), (30, .pointer (some ⟨g3, 3, none⟩)), (31, .slice lab lsb.length lcb), (32, .int .i64 ((lsb.length : Nat) : Int)), (33, .bool (!decide (((lsa.length : Nat) : Int) = ((lsb.length : Nat) : Int)))), (34, .bool (!decide (((lsa.length : Nat) : Int) = ((lsb.length : Nat) : Int)))), (35, .bool (!decide (((lsa.length : Nat) : Int) = ((lsb.length : Nat) : Int)))), (36, .pointer (some ⟨g2, 4, none⟩)), (37, .slice taa tsa.length tca), (38, .int .i64 ((tsa.length : Nat) : Int)), (39, .pointer (some ⟨g3, 4, none⟩)), (40, .slice tab tsb.length tcb), (41, .int .i64 ((tsb.length : Nat) : Int)), (42, .bool (!decide (((tsa.length : Nat) : Int) = ((tsb.length : Nat) : Int)))), (43, .bool (!decide (((tsa.length : Nat) : Int) = ((tsb.length : Nat) : Int)))), (44, .int .i64 ((s13 : Nat) : Int)), (45, .pointer (some ⟨g2, 3, none⟩)), (46, .slice laa lsa.length lca), (47, .int .i64 ((lsa.length : Nat) : Int)), (48, .bool (decide (((s13 : Nat) : Int) < ((lsa.length : Nat) : Int))))] e ∧ Ext w13 w' ∧ q ≤ tsa.length ∧ tsa.take q = tsb.take q) (fun q => tsa.length - q) 0
                ⟨⟨rfl, rfl, rfl, rfl, rfl, rfl, rfl, rfl, rfl, rfl, rfl, rfl, rfl, rfl, rfl, rfl, rfl, rfl, rfl, rfl, rfl, rfl, rfl, rfl, rfl, rfl, rfl, rfl, rfl, rfl, rfl, rfl, rfl, rfl, rfl, rfl, rfl, rfl, rfl, rfl, rfl, rfl, rfl, rfl, rfl, rfl, rfl, rfl, rfl, trivial⟩, Mod.refl _ _, Nat.zero_le _, rfl⟩ ?_
              rintro s39 en39 w39 ⟨hs39, x39, hi39_0, hi39_1⟩
              refine W.sub hs39 ?_
              refine W.seqK fun K40 hK40 => ?_
              refine W.seqK fun K41 hK41 => ?_
              refine W.region ?_
              refine Rg.od rfl rfl rfl (OpT.move rfl ?_)
              refine Rg.od rfl rfl rfl (OpT.fieldAddrB (off := 4) Tryz.underlying33 rfl Tryz.sizeOf31 rfl rfl ?_)
              refine Rg.od rfl rfl rfl (OpT.loadB Tryz.isAgg31 rfl (b2.ext ((x3.trans x13).trans x39)) rfl ?_)
              refine Rg.od rfl rfl rfl (OpT.lenS Tryz.underlying31 rfl ?_)
              refine Rg.od rfl rfl rfl (OpT.lss rfl rfl ?_)
              refine Rg.nil ?_
              refine hK41 _ _ ?_
              rcases Bool.eq_false_or_eq_true (decide (((s39 : Nat) : Int) < ((tsa.length : Nat) : Int))) with hb42 | hb42
              · have hp42 := of_decide_eq_true hb42
                refine W.condTb rfl hb42 ?_
                refine W.skip ?_
                refine hK40 _ _ ?_
                refine W.seqK fun K43 hK43 => ?_
                refine W.block ?_
                refine W.seqK fun K44 hK44 => ?_
                obtain ⟨a52, cs52, ha52, hr52, hw52, hv52⟩ := hTa.at (i := s39) (by first | omega | (unfold lenOk at *; omega))
                obtain ⟨k52, n52, s52, ls52, ts52, la52, lc52, ta52, tc52, et52, rfl, hk52, hn52, hs52, hl52, ht52, hL52, hT52⟩ := hv52.inv
                obtain ⟨a58, cs58, ha58, hr58, hw58, hv58⟩ := hTb.at (i := s39) (by first | omega | (unfold lenOk at *; omega))
                obtain ⟨k58, n58, s58, ls58, ts58, la58, lc58, ta58, tc58, et58, rfl, hk58, hn58, hs58, hl58, ht58, hL58, hT58⟩ := hv58.inv
                refine W.drawE 12 [.ex (.pointer (some ⟨g2, 4, none⟩)), .ex (.slice taa tsa.length tca), .ex (.int .i64 ((s39 : Nat) : Int)), .ex (.pointer (some (a52.add (s39 * 5)))), .ex (.agg ([.int .u8 k52, .int .i64 n52, .string s52, .slice la52 ls52.length lc52, .slice ta52 ts52.length tc52].toArray)), .ex (.pointer (some ⟨g3, 4, none⟩)), .ex (.slice tab tsb.length tcb), .ex (.int .i64 ((s39 : Nat) : Int)), .ex (.pointer (some (a58.add (s39 * 5)))), .ex (.agg ([.int .u8 k58, .int .i64 n58, .string s58, .slice la58 ls58.length lc58, .slice ta58 ts58.length tc58].toArray)), .ex (.bool (sameB (tsa[s39]) (tsb[s39]))), .ex (.bool (!(sameB (tsa[s39]) (tsb[s39]))))] mixed rfl rfl rfl ⟨trivial, trivial, trivial, trivial, trivial, trivial, trivial, trivial, trivial, trivial, trivial, trivial, trivial⟩ ?_ ?_
                · refine ⟨?_, ?_, ?_, ?_, ?_, ?_, ?_, ?_, ?_, ?_, ?_, ?_, trivial⟩
                  · intro w' hx _
                    exact OpT.fieldAddrB (off := 4) Tryz.underlying33 rfl Tryz.sizeOf31 rfl rfl VS.ok
                  · intro w' hx _
                    exact OpT.loadB Tryz.isAgg31 rfl (b2.ext (((x3.trans x13).trans x39).trans hx)) rfl VS.ok
                  · intro w' hx _
                    exact OpT.move rfl VS.ok
                  · intro w' hx _
                    exact OpT.indexAddr Tryz.underlying31 Tryz.sizeOf33 rfl rfl ha52 (by first | omega | (unfold lenOk at *; omega)) VS.ok
                  · intro w' hx _
                    exact OpT.loadA (cs := [.int .u8 k52, .int .i64 n52, .string s52, .slice la52 ls52.length lc52, .slice ta52 ts52.length tc52]) Tryz.isAgg33 Tryz.sizeOf33 rfl (hw52.ext ((((x2.trans x3).trans x13).trans x39).trans hx)) VS.ok
                  · intro w' hx _
                    exact OpT.fieldAddrB (off := 4) Tryz.underlying33 rfl Tryz.sizeOf31 rfl rfl VS.ok
                  · intro w' hx _
                    exact OpT.loadB Tryz.isAgg31 rfl (b3.ext ((x13.trans x39).trans hx)) rfl VS.ok
                  · intro w' hx _
                    exact OpT.move rfl VS.ok
                  · intro w' hx _
                    exact OpT.indexAddr Tryz.underlying31 Tryz.sizeOf33 rfl rfl ha58 (by first | omega | (unfold lenOk at *; omega)) VS.ok
                  · intro w' hx _
                    exact OpT.loadA (cs := [.int .u8 k58, .int .i64 n58, .string s58, .slice la58 ls58.length lc58, .slice ta58 ts58.length tc58]) Tryz.isAgg33 Tryz.sizeOf33 rfl (hw58.ext ((((x2.trans x3).trans x13).trans x39).trans hx)) VS.ok
                  · intro w' hx _
                    exact OpT.call Tryz.call41 (.cons rfl (.cons rfl .nil)) (Runs.mono (ih _ (List.getElem_mem (by omega)) _ _ _ _ _ _ (hv52.ext ((((x2.trans x3).trans x13).trans x39).trans hx)) (hv58.ext ((((x2.trans x3).trans x13).trans x39).trans hx))) fun v w h => VS.okx h.1 h.2)
                  · intro w' hx _
                    exact OpT.notB rfl VS.ok
                · intro w47 x47
                  refine hK44 _ _ ?_
                  rcases Bool.eq_false_or_eq_true (sameB (tsa[s39]) (tsb[s39])) with hb62 | hb62
                  · have hp62 := hb62
                    refine W.condFb rfl (nT hb62) ?_
                    refine W.skip ?_
                    refine hK43 _ _ ?_
                    refine W.region ?_
                    refine Rg.od rfl rfl rfl (OpT.move rfl ?_)
                    refine Rg.od rfl rfl rfl (OpT.add rfl rfl (by first | omega | (unfold lenOk at *; omega)) ?_)
                    refine Rg.od rfl rfl rfl (OpT.assign rfl ?_)
                    refine Rg.nil ?_
                    exact ⟨s39 + 1, ⟨⟨rfl, rfl, rfl, rfl, rfl, rfl, rfl, rfl, rfl, rfl, rfl, rfl, rfl, rfl, rfl, rfl, rfl, rfl, rfl, rfl, rfl, rfl, rfl, rfl, rfl, rfl, rfl, rfl, rfl, rfl, rfl, rfl, rfl, rfl, rfl, rfl, rfl, rfl, rfl, rfl, rfl, rfl, rfl, rfl, rfl, rfl, rfl, rfl, rfl, trivial⟩, (x39.trans x47), by omega, take_eq_succ hi39_1 (by omega) (by omega) ((sameB_iff _ _).1 (hb62))⟩, by omega⟩
                  · have hp62 := hb62
                    refine W.condTb rfl (nF hb62) ?_
                    refine W.seqK fun K63 hK63 => ?_
                    refine W.region ?_
                    refine Rg.od rfl rfl rfl (OpT.assign rfl ?_)
                    refine Rg.nil ?_
                    refine hK63 _ _ ?_
                    refine W.ret ?_
                    refine ⟨_, Res.one rfl rfl, ?_⟩
                    exact ⟨congrArg Value.bool (no_of_iff (sameB_iff _ _) (fun e => by cases e; exact T.same_no hb62 rfl)), ((((x2.trans x3).trans x13).trans x39).trans x47)⟩
              · have hp42 := of_decide_eq_false hb42
                refine W.condFb rfl hb42 ?_
                refine W.exit ?_
                refine hK37 _ _ ?_
                refine W.seqK fun K64 hK64 => ?_
                refine W.region ?_
                refine Rg.od rfl rfl rfl (OpT.assign rfl ?_)
                refine Rg.nil ?_
                refine hK64 _ _ ?_
                refine W.ret ?_
                refine ⟨_, Res.one rfl rfl, ?_⟩
                have e4 : lsa = lsb := take_all hi13_1 (by omega) (by omega)
                have e5 : tsa = tsb := take_all hi39_1 (by omega) (by omega)
                subst e4
                subst e5
                refine ⟨congrArg Value.bool ((sameB_iff _ _).2 ?_).symm, (((x2.trans x3).trans x13).trans x39)⟩
                have hbs := bytes_eq sa sb
                clear hx hy hLa hTa hLb hTb ih
                simp_all
          · have hp10 := of_decide_eq_false hb10
            refine W.condTb rfl (nF hb10) ?_
            refine W.seqK fun K65 hK65 => ?_
            refine W.region ?_
            refine Rg.od rfl rfl rfl (OpT.assign rfl ?_)
            refine Rg.nil ?_
            refine hK65 _ _ ?_
            refine W.ret ?_
            refine ⟨_, Res.one rfl rfl, ?_⟩
            exact ⟨congrArg Value.bool (no_of_iff (sameB_iff _ _) (fun e => by cases e; first | omega | simp_all)), (x2.trans x3)⟩
        · have hp9 := of_decide_eq_false hb9
          refine Rg.gn rfl rfl rfl rfl (nF hb9) ?_
          refine Rg.gn rfl rfl rfl rfl (nF hb9) ?_
          refine Rg.gn rfl rfl rfl rfl (nF hb9) ?_
          refine Rg.gn rfl rfl rfl rfl (nF hb9) ?_
          refine Rg.gn rfl rfl rfl rfl (nF hb9) ?_
          refine Rg.gn rfl rfl rfl rfl (nF hb9) ?_
          refine Rg.gn rfl rfl rfl rfl (nF hb9) ?_
          refine Rg.od rfl rfl rfl (OpT.pickT rfl (nF hb9) rfl ?_)
          refine Rg.nil ?_
          refine hK5 _ _ ?_
          refine W.condTb rfl rfl ?_
          refine W.seqK fun K66 hK66 => ?_
          refine W.region ?_
          refine Rg.od rfl rfl rfl (OpT.assign rfl ?_)
          refine Rg.nil ?_
          refine hK66 _ _ ?_
          refine W.ret ?_
          refine ⟨_, Res.one rfl rfl, ?_⟩
          exact ⟨congrArg Value.bool (no_of_iff (sameB_iff _ _) (fun e => by cases e; first | omega | simp_all)), (x2.trans x3)⟩
      · have hp8 := hb8
        refine Rg.gn rfl rfl rfl rfl (nF hb8) ?_
        refine Rg.gn rfl rfl rfl rfl (nF hb8) ?_
        refine Rg.gn rfl rfl rfl rfl (nF hb8) ?_
        refine Rg.gn rfl rfl rfl rfl (nF hb8) ?_
        refine Rg.gn rfl rfl rfl rfl (nF hb8) ?_
        refine Rg.gn rfl rfl rfl rfl (nF hb8) ?_
        refine Rg.gn rfl rfl rfl rfl (nF hb8) ?_
        refine Rg.od rfl rfl rfl (OpT.pickT rfl (nF hb8) rfl ?_)
        refine Rg.od rfl rfl rfl (OpT.move rfl ?_)
        refine Rg.gn rfl rfl rfl rfl rfl ?_
        refine Rg.gn rfl rfl rfl rfl rfl ?_
        refine Rg.gn rfl rfl rfl rfl rfl ?_
        refine Rg.gn rfl rfl rfl rfl rfl ?_
        refine Rg.gn rfl rfl rfl rfl rfl ?_
        refine Rg.gn rfl rfl rfl rfl rfl ?_
        refine Rg.gn rfl rfl rfl rfl rfl ?_
        refine Rg.od rfl rfl rfl (OpT.pickT rfl rfl rfl ?_)
        refine Rg.nil ?_
        refine hK5 _ _ ?_
        refine W.condTb rfl rfl ?_
        refine W.seqK fun K67 hK67 => ?_
        refine W.region ?_
        refine Rg.od rfl rfl rfl (OpT.assign rfl ?_)
        refine Rg.nil ?_
        refine hK67 _ _ ?_
        refine W.ret ?_
        refine ⟨_, Res.one rfl rfl, ?_⟩
        exact ⟨congrArg Value.bool (no_of_iff (sameB_iff _ _) (fun e => by cases e; first | omega | simp_all)), (x2.trans x3)⟩
    · have hp7 := of_decide_eq_false hb7
      refine Rg.gn rfl rfl rfl rfl (nF hb7) ?_
      refine Rg.gn rfl rfl rfl rfl (nF hb7) ?_
      refine Rg.gn rfl rfl rfl rfl (nF hb7) ?_
      refine Rg.gn rfl rfl rfl rfl (nF hb7) ?_
      refine Rg.gn rfl rfl rfl rfl (nF hb7) ?_
      refine Rg.od rfl rfl rfl (OpT.pickT rfl (nF hb7) rfl ?_)
      refine Rg.od rfl rfl rfl (OpT.move rfl ?_)
      refine Rg.gn rfl rfl rfl rfl rfl ?_
      refine Rg.gn rfl rfl rfl rfl rfl ?_
      refine Rg.gn rfl rfl rfl rfl rfl ?_
      refine Rg.gn rfl rfl rfl rfl rfl ?_
      refine Rg.gn rfl rfl rfl rfl rfl ?_
      refine Rg.gn rfl rfl rfl rfl rfl ?_
      refine Rg.gn rfl rfl rfl rfl rfl ?_
      refine Rg.od rfl rfl rfl (OpT.pickT rfl rfl rfl ?_)
      refine Rg.od rfl rfl rfl (OpT.move rfl ?_)
      refine Rg.gn rfl rfl rfl rfl rfl ?_
      refine Rg.gn rfl rfl rfl rfl rfl ?_
      refine Rg.gn rfl rfl rfl rfl rfl ?_
      refine Rg.gn rfl rfl rfl rfl rfl ?_
      refine Rg.gn rfl rfl rfl rfl rfl ?_
      refine Rg.gn rfl rfl rfl rfl rfl ?_
      refine Rg.gn rfl rfl rfl rfl rfl ?_
      refine Rg.od rfl rfl rfl (OpT.pickT rfl rfl rfl ?_)
      refine Rg.nil ?_
      refine hK5 _ _ ?_
      refine W.condTb rfl rfl ?_
      refine W.seqK fun K68 hK68 => ?_
      refine W.region ?_
      refine Rg.od rfl rfl rfl (OpT.assign rfl ?_)
      refine Rg.nil ?_
      refine hK68 _ _ ?_
      refine W.ret ?_
      refine ⟨_, Res.one rfl rfl, ?_⟩
      exact ⟨congrArg Value.bool (no_of_iff (sameB_iff _ _) (fun e => by cases e; first | omega | simp_all)), (x2.trans x3)⟩
  · have hp6 := of_decide_eq_false hb6
    refine Rg.gn rfl rfl rfl rfl (nF hb6) ?_
    refine Rg.gn rfl rfl rfl rfl (nF hb6) ?_
    refine Rg.gn rfl rfl rfl rfl (nF hb6) ?_
    refine Rg.gn rfl rfl rfl rfl (nF hb6) ?_
    refine Rg.gn rfl rfl rfl rfl (nF hb6) ?_
    refine Rg.od rfl rfl rfl (OpT.pickT rfl (nF hb6) rfl ?_)
    refine Rg.od rfl rfl rfl (OpT.move rfl ?_)
    refine Rg.gn rfl rfl rfl rfl rfl ?_
    refine Rg.gn rfl rfl rfl rfl rfl ?_
    refine Rg.gn rfl rfl rfl rfl rfl ?_
    refine Rg.gn rfl rfl rfl rfl rfl ?_
    refine Rg.gn rfl rfl rfl rfl rfl ?_
    refine Rg.od rfl rfl rfl (OpT.pickT rfl rfl rfl ?_)
    refine Rg.od rfl rfl rfl (OpT.move rfl ?_)
    refine Rg.gn rfl rfl rfl rfl rfl ?_
    refine Rg.gn rfl rfl rfl rfl rfl ?_
    refine Rg.gn rfl rfl rfl rfl rfl ?_
    refine Rg.gn rfl rfl rfl rfl rfl ?_
    refine Rg.gn rfl rfl rfl rfl rfl ?_
    refine Rg.gn rfl rfl rfl rfl rfl ?_
    refine Rg.gn rfl rfl rfl rfl rfl ?_
    refine Rg.od rfl rfl rfl (OpT.pickT rfl rfl rfl ?_)
    refine Rg.od rfl rfl rfl (OpT.move rfl ?_)
    refine Rg.gn rfl rfl rfl rfl rfl ?_
    refine Rg.gn rfl rfl rfl rfl rfl ?_
    refine Rg.gn rfl rfl rfl rfl rfl ?_
    refine Rg.gn rfl rfl rfl rfl rfl ?_
    refine Rg.gn rfl rfl rfl rfl rfl ?_
    refine Rg.gn rfl rfl rfl rfl rfl ?_
    refine Rg.gn rfl rfl rfl rfl rfl ?_
    refine Rg.od rfl rfl rfl (OpT.pickT rfl rfl rfl ?_)
    refine Rg.nil ?_
    refine hK5 _ _ ?_
    refine W.condTb rfl rfl ?_
    refine W.seqK fun K69 hK69 => ?_
    refine W.region ?_
    refine Rg.od rfl rfl rfl (OpT.assign rfl ?_)
    refine Rg.nil ?_
    refine hK69 _ _ ?_
    refine W.ret ?_
    refine ⟨_, Res.one rfl rfl, ?_⟩
    exact ⟨congrArg Value.bool (no_of_iff (sameB_iff _ _) (fun e => by cases e; first | omega | simp_all)), (x2.trans x3)⟩
set_option maxHeartbeats 1000000 in
set_option maxRecDepth 20000 in
theorem rdeep_runs (t : T) : ∀ (cs : List Value) (left deep : Int) (w0 : World) (R : Nat → Prop) (hv : VT w0 R cs t) (hb : (-4611686018427387904 ≤ left ∧ left ≤ 4611686018427387904) ∧ -4611686018427387904 ≤ deep ∧ deep ≤ 4611686018427387904),
    Runs Tryz.prog 57 #[.agg cs.toArray, .int .i64 left, .int .i64 deep] w0 fun v w' => v = .int .i64 (deepF t left deep) ∧ Ext w0 w' := by
  induction t using T.ind with
  | h k n s ls ts ih =>
  intro cs left deep w0 R hv hb
  obtain ⟨k, n, s, ls, ts, la, lc, ta, tc, e1, rfl, hk, hn, hs, hl, ht, hL, hT⟩ := hv.inv
  cases e1
  refine Runs.of_W (vs := [_, _, _]) Tryz.func57 rfl rfl ?_
  refine W.seqK fun K1 hK1 => ?_
  refine W.region ?_
  refine Rg.od rfl rfl rfl (OpT.box rfl fun w2 g2 e2 x2 z2 b2 => ?_)
  replace b2 : Box w2 g2 [.int .u8 k, .int .i64 n, .string s, .slice la ls.length lc, .slice ta ts.length tc] := b2
  refine Rg.od rfl rfl rfl (OpT.assign rfl ?_)
  refine Rg.nil ?_
  refine hK1 _ _ ?_
  refine W.seqK fun K3 hK3 => ?_
  refine W.region ?_
  refine Rg.od rfl rfl rfl (OpT.move rfl ?_)
  refine Rg.od rfl rfl rfl (OpT.sub rfl rfl (by first | omega | (unfold lenOk at *; omega)) ?_)
  refine Rg.od rfl rfl rfl (OpT.assign rfl ?_)
  refine Rg.nil ?_
  refine hK3 _ _ ?_
  refine W.seqK fun K4 hK4 => ?_
  refine W.seqK fun K5 hK5 => ?_
  refine W.region ?_
  refine Rg.od rfl rfl rfl (OpT.move rfl ?_)
  refine Rg.od rfl rfl rfl (OpT.lss rfl rfl ?_)
  refine Rg.od rfl rfl rfl (OpT.move rfl ?_)
  rcases Bool.eq_false_or_eq_true (decide ((left - 1) < 0)) with hb6 | hb6
  · have hp6 := of_decide_eq_true hb6
    refine Rg.gn rfl rfl rfl rfl hb6 ?_
    refine Rg.gn rfl rfl rfl rfl hb6 ?_
    refine Rg.od rfl rfl rfl (OpT.pickT rfl hb6 rfl ?_)
    refine Rg.od rfl rfl rfl (OpT.move rfl ?_)
    refine Rg.gn rfl rfl rfl rfl rfl ?_
    refine Rg.gn rfl rfl rfl rfl rfl ?_
    refine Rg.gn rfl rfl rfl rfl rfl ?_
    refine Rg.gn rfl rfl rfl rfl rfl ?_
    refine Rg.od rfl rfl rfl (OpT.pickT rfl rfl rfl ?_)
    refine Rg.nil ?_
    refine hK5 _ _ ?_
    refine W.condTb rfl rfl ?_
    refine W.seqK fun K7 hK7 => ?_
    refine W.region ?_
    refine Rg.od rfl rfl rfl (OpT.assign rfl ?_)
    refine Rg.nil ?_
    refine hK7 _ _ ?_
    refine W.ret ?_
    refine ⟨_, Res.one rfl rfl, ?_⟩
    exact ⟨congrArg (Value.int .i64) (by rw [deepF_mk, if_pos (by omega)]), x2⟩
  · have hp6 := of_decide_eq_false hb6
    refine Rg.gy rfl rfl rfl rfl hb6 (OpT.move rfl ?_)
    refine Rg.gy rfl rfl rfl rfl hb6 (OpT.leq rfl rfl ?_)
    refine Rg.od rfl rfl rfl (OpT.pickF rfl hb6 rfl ?_)
    refine Rg.od rfl rfl rfl (OpT.move rfl ?_)
    rcases Bool.eq_false_or_eq_true (decide (deep ≤ 0)) with hb8 | hb8
    · have hp8 := of_decide_eq_true hb8
      refine Rg.gn rfl rfl rfl rfl hb8 ?_
      refine Rg.gn rfl rfl rfl rfl hb8 ?_
      refine Rg.gn rfl rfl rfl rfl hb8 ?_
      refine Rg.gn rfl rfl rfl rfl hb8 ?_
      refine Rg.od rfl rfl rfl (OpT.pickT rfl hb8 rfl ?_)
      refine Rg.nil ?_
      refine hK5 _ _ ?_
      refine W.condTb rfl rfl ?_
      refine W.seqK fun K9 hK9 => ?_
      refine W.region ?_
      refine Rg.od rfl rfl rfl (OpT.assign rfl ?_)
      refine Rg.nil ?_
      refine hK9 _ _ ?_
      refine W.ret ?_
      refine ⟨_, Res.one rfl rfl, ?_⟩
      exact ⟨congrArg (Value.int .i64) (by rw [deepF_mk, if_pos (by omega)]), x2⟩
    · have hp8 := of_decide_eq_false hb8
      refine Rg.gy rfl rfl rfl rfl hb8 (OpT.fieldAddrB (off := 3) Tryz.underlying33 rfl Tryz.sizeOf30 rfl rfl ?_)
      refine Rg.gy rfl rfl rfl rfl hb8 (OpT.loadB Tryz.isAgg30 rfl b2 rfl ?_)
      refine Rg.gy rfl rfl rfl rfl hb8 (OpT.lenS Tryz.underlying30 rfl ?_)
      refine Rg.gy rfl rfl rfl rfl hb8 (OpT.gtr rfl rfl ?_)
      refine Rg.od rfl rfl rfl (OpT.pickF rfl hb8 rfl ?_)
      refine Rg.nil ?_
      refine hK5 _ _ ?_
      rcases Bool.eq_false_or_eq_true (decide (20 < ((ls.length : Nat) : Int))) with hb10 | hb10
      · have hp10 := of_decide_eq_true hb10
        refine W.condTb rfl hb10 ?_
        refine W.seqK fun K11 hK11 => ?_
        refine W.region ?_
        refine Rg.od rfl rfl rfl (OpT.assign rfl ?_)
        refine Rg.nil ?_
        refine hK11 _ _ ?_
        refine W.ret ?_
        refine ⟨_, Res.one rfl rfl, ?_⟩
        exact ⟨congrArg (Value.int .i64) (by rw [deepF_mk, if_pos (by omega)]), x2⟩
      · have hp10 := of_decide_eq_false hb10
        refine W.condFb rfl hb10 ?_
        refine W.skip ?_
        refine hK4 _ _ ?_
        refine W.seqK fun K12 hK12 => ?_
        refine W.seqK fun K13 hK13 => ?_
        refine W.region ?_
        refine Rg.od rfl rfl rfl (OpT.assign rfl ?_)
        refine Rg.nil ?_
        refine hK13 _ _ ?_
        refine W.block ?_
        refine W.loop (σ := Nat) (fun q e w' => Sub [(0, .agg ([.int .u8 k, .int .i64 n, .string s, .slice la ls.length lc, .slice ta ts.length tc].toArray)), (1, .int .i64 (deepsF (ts.take q) (left - 1) (deep - 1))), (2, .int .i64 deep), (3, .pointer (some ⟨g2, 0, none⟩)), (6, .int .i64 0), (7, .int .i64 ((q : Nat) : Int)), (8, .int .i64 left), (9, .int .i64 (left - 1)), (10, .int .i64 (left - 1)), (11, .bool (decide ((left - 1) < 0))), (12, .bool (decide ((left - 1) < 0))), (13, .int .i64 deep), (14, .bool (decide (deep ≤ 0))), (15, .bool (decide (deep ≤ 0))), (16, .bool (decide (deep ≤ 0))), (17, .pointer (some ⟨g2, 3, none⟩)), (18, .slice la ls.length lc), (19, .int .i64 ((ls.length : Nat) : Int)), (20, .bool (decide (20 < ((ls.length : Nat) : Int)))), (21, .bool (decide (20 < ((ls.length : Nat) : Int))))] e ∧ Ext w2 w' ∧ q ≤ ts.length ∧ 0 ≤ (deepsF (ts.take q) (left - 1) (deep - 1)) ∧ (deepsF (ts.take q) (left - 1) (deep - 1)) ≤ left - 1) (fun q => ts.length - q) 0
          ⟨⟨rfl, by simp only [List.take_zero, deepsF]; rfl, rfl, rfl, rfl, rfl, rfl, rfl, rfl, rfl, rfl, rfl, rfl, rfl, rfl, rfl, rfl, rfl, rfl, rfl, trivial⟩, Mod.refl _ _, Nat.zero_le _, by simp only [List.take_zero, deepsF]; omega, by simp only [List.take_zero, deepsF]; omega⟩ ?_
        rintro s14 en14 w14 ⟨hs14, x14, hi14_0, hi14_1, hi14_2⟩
        refine W.sub hs14 ?_
        refine W.seqK fun K15 hK15 => ?_
        refine W.seqK fun K16 hK16 => ?_
        refine W.region ?_
        refine Rg.od rfl rfl rfl (OpT.move rfl ?_)
        refine Rg.od rfl rfl rfl (OpT.fieldAddrB (off := 4) Tryz.underlying33 rfl Tryz.sizeOf31 rfl rfl ?_)
        refine Rg.od rfl rfl rfl (OpT.loadB Tryz.isAgg31 rfl (b2.ext x14) rfl ?_)
        refine Rg.od rfl rfl rfl (OpT.lenS Tryz.underlying31 rfl ?_)
        refine Rg.od rfl rfl rfl (OpT.lss rfl rfl ?_)
        refine Rg.nil ?_
        refine hK16 _ _ ?_
        rcases Bool.eq_false_or_eq_true (decide (((s14 : Nat) : Int) < ((ts.length : Nat) : Int))) with hb17 | hb17
        · have hp17 := of_decide_eq_true hb17
          refine W.condTb rfl hb17 ?_
          refine W.skip ?_
          refine hK15 _ _ ?_
          refine W.seqK fun K18 hK18 => ?_
          refine W.block ?_
          refine W.seqK fun K19 hK19 => ?_
          refine W.region ?_
          refine Rg.od rfl rfl rfl (OpT.fieldAddrB (off := 4) Tryz.underlying33 rfl Tryz.sizeOf31 rfl rfl ?_)
          refine Rg.od rfl rfl rfl (OpT.loadB Tryz.isAgg31 rfl (b2.ext x14) rfl ?_)
          refine Rg.od rfl rfl rfl (OpT.move rfl ?_)
          obtain ⟨a20, cs20, ha20, hr20, hw20, hv20⟩ := hT.at (i := s14) (by first | omega | (unfold lenOk at *; omega))
          obtain ⟨k20, n20, s20, ls20, ts20, la20, lc20, ta20, tc20, et20, rfl, hk20, hn20, hs20, hl20, ht20, hL20, hT20⟩ := hv20.inv
          refine Rg.od rfl rfl rfl (OpT.indexAddr Tryz.underlying31 Tryz.sizeOf33 rfl rfl ha20 (by first | omega | (unfold lenOk at *; omega)) ?_)
          refine Rg.od rfl rfl rfl (OpT.loadA (cs := [.int .u8 k20, .int .i64 n20, .string s20, .slice la20 ls20.length lc20, .slice ta20 ts20.length tc20]) Tryz.isAgg33 Tryz.sizeOf33 rfl (hw20.ext (x2.trans x14)) ?_)
          refine Rg.od rfl rfl rfl (OpT.move rfl ?_)
          refine Rg.od rfl rfl rfl (OpT.move rfl ?_)
          refine Rg.od rfl rfl rfl (OpT.sub rfl rfl (by first | omega | (unfold lenOk at *; omega)) ?_)
          refine Rg.od rfl rfl rfl (OpT.call Tryz.call57 (.cons rfl (.cons rfl (.cons rfl .nil))) (Runs.mono (ih _ (List.getElem_mem _) _ _ _ _ _ (hv20.ext (x2.trans x14)) (by omega)) ?_))
          rintro _ w21 ⟨rfl, x21⟩
          refine Rg.od rfl rfl rfl (OpT.assign rfl ?_)
          refine Rg.nil ?_
          refine hK19 _ _ ?_
          refine W.seqK fun K22 hK22 => ?_
          refine W.region ?_
          refine Rg.od rfl rfl rfl (OpT.move rfl ?_)
          refine Rg.od rfl rfl rfl (OpT.lss rfl rfl ?_)
          refine Rg.nil ?_
          refine hK22 _ _ ?_
          rcases Bool.eq_false_or_eq_true (decide ((deepF (ts[s14]) (deepsF (ts.take s14) (left - 1) (deep - 1)) (deep - 1)) < 0)) with hb23 | hb23
          · have hp23 := of_decide_eq_true hb23
            refine W.condTb rfl hb23 ?_
            refine W.seqK fun K24 hK24 => ?_
            refine W.region ?_
            refine Rg.od rfl rfl rfl (OpT.assign rfl ?_)
            refine Rg.nil ?_
            refine hK24 _ _ ?_
            refine W.ret ?_
            refine ⟨_, Res.one rfl rfl, ?_⟩
            have hst := (deepsF_step ts s14 (by omega) (left - 1) (deep - 1) (by omega) (by omega)).2 (by omega)
            exact ⟨congrArg (Value.int .i64) (by rw [deepF_mk, if_neg (by omega), hst]), ((x2.trans x14).trans x21)⟩
          · have hp23 := of_decide_eq_false hb23
            refine W.condFb rfl hb23 ?_
            refine W.skip ?_
            refine hK18 _ _ ?_
            refine W.region ?_
            refine Rg.od rfl rfl rfl (OpT.move rfl ?_)
            refine Rg.od rfl rfl rfl (OpT.add rfl rfl (by first | omega | (unfold lenOk at *; omega)) ?_)
            refine Rg.od rfl rfl rfl (OpT.assign rfl ?_)
            refine Rg.nil ?_
            have hst := (deepsF_step ts s14 (by omega) (left - 1) (deep - 1) (by omega) (by omega)).1 (by omega)
            have hng := deepF_le ts[s14] (deepsF (ts.take s14) (left - 1) (deep - 1)) (deep - 1) (by omega)
            exact ⟨s14 + 1, ⟨⟨rfl, by rw [hst]; rfl, rfl, rfl, rfl, rfl, rfl, rfl, rfl, rfl, rfl, rfl, rfl, rfl, rfl, rfl, rfl, rfl, rfl, rfl, trivial⟩, (x14.trans x21), by omega, by omega, by omega⟩, by omega⟩
        · have hp17 := of_decide_eq_false hb17
          refine W.condFb rfl hb17 ?_
          refine W.exit ?_
          refine hK12 _ _ ?_
          refine W.seqK fun K25 hK25 => ?_
          refine W.region ?_
          refine Rg.od rfl rfl rfl (OpT.move rfl ?_)
          refine Rg.od rfl rfl rfl (OpT.assign rfl ?_)
          refine Rg.nil ?_
          refine hK25 _ _ ?_
          refine W.ret ?_
          refine ⟨_, Res.one rfl rfl, ?_⟩
          have hsz : s14 = ts.length := by omega
          exact ⟨congrArg (Value.int .i64) (by rw [deepF_mk, if_neg (by omega), hsz, List.take_length]), (x2.trans x14)⟩
set_option maxHeartbeats 1000000 in
set_option maxRecDepth 20000 in
theorem rDeep_runs (t : T) (cs : List Value) (w0 : World) (R : Nat → Prop) (hv : VT w0 R cs t) : Runs Tryz.prog 21 #[.agg cs.toArray] w0 fun v w' => v = .bool (isDeep t) ∧ Ext w0 w' := by
  obtain ⟨k, n, s, ls, ts, la, lc, ta, tc, rfl, rfl, hk, hn, hs, hl, ht, hL, hT⟩ := hv.inv
  refine Runs.of_W (vs := [_]) Tryz.func21 rfl rfl ?_
  refine W.seqK fun K1 hK1 => ?_
  refine W.region ?_
  refine Rg.od rfl rfl rfl (OpT.box rfl fun w2 g2 e2 x2 z2 b2 => ?_)
  replace b2 : Box w2 g2 [.int .u8 k, .int .i64 n, .string s, .slice la ls.length lc, .slice ta ts.length tc] := b2
  refine Rg.od rfl rfl rfl (OpT.assign rfl ?_)
  refine Rg.nil ?_
  refine hK1 _ _ ?_
  refine W.seqK fun K3 hK3 => ?_
  refine W.region ?_
  refine Rg.od rfl rfl rfl (OpT.loadAB Tryz.isAgg33 Tryz.sizeOf33 rfl b2 rfl ?_)
  refine Rg.od rfl rfl rfl (OpT.call Tryz.call57 (.cons rfl (.cons rfl (.cons rfl .nil))) (Runs.mono (rdeep_runs _ _ _ _ _ _ (hv.ext x2) (by omega)) ?_))
  rintro _ w4 ⟨rfl, x4⟩
  refine Rg.od rfl rfl rfl (OpT.lss rfl rfl ?_)
  refine Rg.od rfl rfl rfl (OpT.assign rfl ?_)
  refine Rg.nil ?_
  refine hK3 _ _ ?_
  refine W.ret ?_
  refine ⟨_, Res.one rfl rfl, ?_⟩
  exact ⟨rfl, (x2.trans x4)⟩
end Go.Proofs.YtfljbnhhkdaobaaGreat

/-
  The functions of terms: all stand in the parts before.
-/
