/-
  What functions of the program compute, step by step (printed by a program of this work), part 2.
-/
import Derived.Test.YtmmhamabkiffaaaFns1
namespace Go.Proofs.Ytmmhamabkiffaaa
open Go Go.RowKit Go.Proofs.Bw
set_option linter.unusedVariables false
set_option linter.unusedSimpArgs false

set_option maxHeartbeats 1000000 in
set_option maxRecDepth 20000 in
theorem rmayF_runs (t : T) : ∀ (cs : List Value) (left deep : Int) (w0 : World) (R : Nat → Prop) (hv : VT w0 R cs t) (hb : (-4611686018427387904 ≤ left ∧ left ≤ 4611686018427387904) ∧ -4611686018427387904 ≤ deep ∧ deep ≤ 4611686018427387904),
    Runs Try.prog 33 #[.agg cs.toArray, .int .i64 left, .int .i64 deep] w0 fun v w' => v = .int .i64 (mayF t left deep) ∧ Ext w0 w' := by
  induction t using T.ind with
  | h k n s ls ts ih =>
  intro cs left deep w0 R hv hb
  obtain ⟨k, n, s, ls, ts, la, lc, ta, tc, e1, rfl, hk, hn, hs, hl, ht, hL, hT⟩ := hv.inv
  cases e1
  refine Runs.of_W (vs := [_, _, _]) Try.func33 rfl rfl ?_
  refine W.seqK fun K1 hK1 => ?_
  refine W.region ?_
  refine Rg.od rfl rfl rfl (OpT.box rfl fun w2 g2 e2 x2 z2 b2 => ?_)
  replace b2 : Box w2 g2 [.int .u8 k, .int .i64 n, .string s, .slice la ls.length lc, .slice ta ts.length tc] := b2
  refine Rg.od rfl rfl rfl (OpT.assign rfl ?_)
  refine Rg.nil ?_
  refine hK1 _ _ ?_
  refine W.seqK fun K3 hK3 => ?_
  refine W.region ?_
  refine Rg.od rfl rfl rfl (OpT.move rfl ?_)
  refine Rg.od rfl rfl rfl (OpT.sub rfl rfl (by first | omega | (unfold lenOk at *; omega)) ?_)
  refine Rg.od rfl rfl rfl (OpT.assign rfl ?_)
  refine Rg.nil ?_
  refine hK3 _ _ ?_
  refine W.seqK fun K4 hK4 => ?_
  refine W.seqK fun K5 hK5 => ?_
  refine W.region ?_
  refine Rg.od rfl rfl rfl (OpT.move rfl ?_)
  refine Rg.od rfl rfl rfl (OpT.lss rfl rfl ?_)
  refine Rg.od rfl rfl rfl (OpT.move rfl ?_)
  rcases Bool.eq_false_or_eq_true (decide ((left - 1) < 0)) with hb6 | hb6
  · have hp6 := of_decide_eq_true hb6
    refine Rg.gn rfl rfl rfl rfl hb6 ?_
    refine Rg.gn rfl rfl rfl rfl hb6 ?_
    refine Rg.od rfl rfl rfl (OpT.pickT rfl hb6 rfl ?_)
    refine Rg.od rfl rfl rfl (OpT.move rfl ?_)
    refine Rg.gn rfl rfl rfl rfl rfl ?_
    refine Rg.gn rfl rfl rfl rfl rfl ?_
    refine Rg.gn rfl rfl rfl rfl rfl ?_
    refine Rg.od rfl rfl rfl (OpT.pickT rfl rfl rfl ?_)
    refine Rg.nil ?_
    refine hK5 _ _ ?_
    refine W.condTb rfl rfl ?_
    refine W.seqK fun K7 hK7 => ?_
    refine W.region ?_
    refine Rg.od rfl rfl rfl (OpT.assign rfl ?_)
    refine Rg.nil ?_
    refine hK7 _ _ ?_
    refine W.ret ?_
    refine ⟨_, Res.one rfl rfl, ?_⟩
    exact ⟨congrArg (Value.int .i64) (by rw [mayF_mk, if_pos (by first | exact .inl (by omega) | exact .inr (.inl (by omega)) | exact .inr (.inr (by simp_all)))]), x2⟩
  · have hp6 := of_decide_eq_false hb6
    refine Rg.gy rfl rfl rfl rfl hb6 (OpT.move rfl ?_)
    refine Rg.gy rfl rfl rfl rfl hb6 (OpT.leq rfl rfl ?_)
    refine Rg.od rfl rfl rfl (OpT.pickF rfl hb6 rfl ?_)
    refine Rg.od rfl rfl rfl (OpT.move rfl ?_)
    rcases Bool.eq_false_or_eq_true (decide (deep ≤ 0)) with hb8 | hb8
    · have hp8 := of_decide_eq_true hb8
      refine Rg.gn rfl rfl rfl rfl hb8 ?_
      refine Rg.gn rfl rfl rfl rfl hb8 ?_
      refine Rg.gn rfl rfl rfl rfl hb8 ?_
      refine Rg.od rfl rfl rfl (OpT.pickT rfl hb8 rfl ?_)
      refine Rg.nil ?_
      refine hK5 _ _ ?_
      refine W.condTb rfl rfl ?_
      refine W.seqK fun K9 hK9 => ?_
      refine W.region ?_
      refine Rg.od rfl rfl rfl (OpT.assign rfl ?_)
      refine Rg.nil ?_
      refine hK9 _ _ ?_
      refine W.ret ?_
      refine ⟨_, Res.one rfl rfl, ?_⟩
      exact ⟨congrArg (Value.int .i64) (by rw [mayF_mk, if_pos (by first | exact .inl (by omega) | exact .inr (.inl (by omega)) | exact .inr (.inr (by simp_all)))]), x2⟩
    · have hp8 := of_decide_eq_false hb8
      refine Rg.gy rfl rfl rfl rfl hb8 (OpT.loadAB Try.isAgg26 Try.sizeOf26 rfl b2 rfl ?_)
      refine Rg.gy rfl rfl rfl rfl hb8 (OpT.call Try.call47 (.cons rfl .nil) (Runs.mono (rnode_runs _ _ _ _ (hv.ext x2)) ?_))
      rintro _ w10 ⟨rfl, x10⟩
      refine Rg.gy rfl rfl rfl rfl hb8 (OpT.notB rfl ?_)
      refine Rg.od rfl rfl rfl (OpT.pickF rfl hb8 rfl ?_)
      refine Rg.nil ?_
      refine hK5 _ _ ?_
      rcases Bool.eq_false_or_eq_true (nodeB (T.mk k n s ls ts)) with hb11 | hb11
      · have hp11 := hb11
        refine W.condFb rfl (nT hb11) ?_
        refine W.skip ?_
        refine hK4 _ _ ?_
        refine W.seqK fun K12 hK12 => ?_
        refine W.seqK fun K13 hK13 => ?_
        refine W.region ?_
        refine Rg.od rfl rfl rfl (OpT.assign rfl ?_)
        refine Rg.nil ?_
        refine hK13 _ _ ?_
        refine W.block ?_
        refine W.loop (σ := Nat) (fun q e w' => Sub [(0, .agg ([.int .u8 k, .int .i64 n, .string s, .slice la ls.length lc, .slice ta ts.length tc].toArray)), (1, .int .i64 (maysF (ts.take q) (left - 1) (deep - 1))), (2, .int .i64 deep), (3, .pointer (some ⟨g2, 0, none⟩)), (6, .int .i64 0), (7, .int .i64 ((q : Nat) : Int)), (8, .int .i64 left), (9, .int .i64 (left - 1)), (10, .int .i64 (left - 1)), (11, .bool (decide ((left - 1) < 0))), (12, .bool (decide ((left - 1) < 0))), (13, .int .i64 deep), (14, .bool (decide (deep ≤ 0))), (15, .bool (decide (deep ≤ 0))), (16, .bool (decide (deep ≤ 0))), (17, .agg ([.int .u8 k, .int .i64 n, .string s, .slice la ls.length lc, .slice ta ts.length tc].toArray)), (18, .bool (nodeB (T.mk k n s ls ts))), (19, .bool (!(nodeB (T.mk k n s ls ts)))), (20, .bool (!(nodeB (T.mk k n s ls ts))))] e ∧ Ext w10 w' ∧ q ≤ ts.length ∧ 0 ≤ (maysF (ts.take q) (left - 1) (deep - 1)) ∧ (maysF (ts.take q) (left - 1) (deep - 1)) ≤ left - 1) (fun q => ts.length - q) 0
          ⟨⟨rfl, by simp only [List.take_zero, maysF]; rfl, rfl, rfl, rfl, rfl, rfl, rfl, rfl, rfl, rfl, rfl, rfl, rfl, rfl, rfl, rfl, rfl, rfl, trivial⟩, Mod.refl _ _, Nat.zero_le _, by simp only [List.take_zero, maysF]; omega, by simp only [List.take_zero, maysF]; omega⟩ ?_
        rintro s14 en14 w14 ⟨hs14, x14, hi14_0, hi14_1, hi14_2⟩
        refine W.sub hs14 ?_
        refine W.seqK fun K15 hK15 => ?_
        refine W.seqK fun K16 hK16 => ?_
        refine W.region ?_
        refine Rg.od rfl rfl rfl (OpT.move rfl ?_)
        refine Rg.od rfl rfl rfl (OpT.fieldAddrB (off := 4) Try.underlying26 rfl Try.sizeOf24 rfl rfl ?_)
        refine Rg.od rfl rfl rfl (OpT.loadB Try.isAgg24 rfl (b2.ext (x10.trans x14)) rfl ?_)
        refine Rg.od rfl rfl rfl (OpT.lenS Try.underlying24 rfl ?_)
        refine Rg.od rfl rfl rfl (OpT.lss rfl rfl ?_)
        refine Rg.nil ?_
        refine hK16 _ _ ?_
        rcases Bool.eq_false_or_eq_true (decide (((s14 : Nat) : Int) < ((ts.length : Nat) : Int))) with hb17 | hb17
        · have hp17 := of_decide_eq_true hb17
          refine W.condTb rfl hb17 ?_
          refine W.skip ?_
          refine hK15 _ _ ?_
          refine W.seqK fun K18 hK18 => ?_
          refine W.block ?_
          refine W.seqK fun K19 hK19 => ?_
          refine W.region ?_
          refine Rg.od rfl rfl rfl (OpT.fieldAddrB (off := 4) Try.underlying26 rfl Try.sizeOf24 rfl rfl ?_)
          refine Rg.od rfl rfl rfl (OpT.loadB Try.isAgg24 rfl (b2.ext (x10.trans x14)) rfl ?_)
          refine Rg.od rfl rfl rfl (OpT.move rfl ?_)
          obtain ⟨a20, cs20, ha20, hr20, hw20, hv20⟩ := hT.at (i := s14) (by first | omega | (unfold lenOk at *; omega))
          obtain ⟨k20, n20, s20, ls20, ts20, la20, lc20, ta20, tc20, et20, rfl, hk20, hn20, hs20, hl20, ht20, hL20, hT20⟩ := hv20.inv
          refine Rg.od rfl rfl rfl (OpT.indexAddr Try.underlying24 Try.sizeOf26 rfl rfl ha20 (by first | omega | (unfold lenOk at *; omega)) ?_)
          refine Rg.od rfl rfl rfl (OpT.loadA (cs := [.int .u8 k20, .int .i64 n20, .string s20, .slice la20 ls20.length lc20, .slice ta20 ts20.length tc20]) Try.isAgg26 Try.sizeOf26 rfl (hw20.ext ((x2.trans x10).trans x14)) ?_)
          refine Rg.od rfl rfl rfl (OpT.move rfl ?_)
          refine Rg.od rfl rfl rfl (OpT.move rfl ?_)
          refine Rg.od rfl rfl rfl (OpT.sub rfl rfl (by first | omega | (unfold lenOk at *; omega)) ?_)
          refine Rg.od rfl rfl rfl (OpT.call Try.call33 (.cons rfl (.cons rfl (.cons rfl .nil))) (Runs.mono (ih _ (List.getElem_mem _) _ _ _ _ _ (hv20.ext ((x2.trans x10).trans x14)) (by omega)) ?_))
          rintro _ w21 ⟨rfl, x21⟩
          refine Rg.od rfl rfl rfl (OpT.assign rfl ?_)
          refine Rg.nil ?_
          refine hK19 _ _ ?_
          refine W.seqK fun K22 hK22 => ?_
          refine W.region ?_
          refine Rg.od rfl rfl rfl (OpT.move rfl ?_)
          refine Rg.od rfl rfl rfl (OpT.lss rfl rfl ?_)
          refine Rg.nil ?_
          refine hK22 _ _ ?_
          rcases Bool.eq_false_or_eq_true (decide ((mayF (ts[s14]) (maysF (ts.take s14) (left - 1) (deep - 1)) (deep - 1)) < 0)) with hb23 | hb23
          · have hp23 := of_decide_eq_true hb23
            refine W.condTb rfl hb23 ?_
            refine W.seqK fun K24 hK24 => ?_
            refine W.region ?_
            refine Rg.od rfl rfl rfl (OpT.assign rfl ?_)
            refine Rg.nil ?_
            refine hK24 _ _ ?_
            refine W.ret ?_
            refine ⟨_, Res.one rfl rfl, ?_⟩
            have hst := (maysF_step ts s14 (by omega) (left - 1) (deep - 1) (by omega) (by omega)).2 (by omega)
            exact ⟨congrArg (Value.int .i64) (by rw [mayF_mk, if_neg (by rintro (h | h | h) <;> first | omega | simp_all), hst]), (((x2.trans x10).trans x14).trans x21)⟩
          · have hp23 := of_decide_eq_false hb23
            refine W.condFb rfl hb23 ?_
            refine W.skip ?_
            refine hK18 _ _ ?_
            refine W.region ?_
            refine Rg.od rfl rfl rfl (OpT.move rfl ?_)
            refine Rg.od rfl rfl rfl (OpT.add rfl rfl (by first | omega | (unfold lenOk at *; omega)) ?_)
            refine Rg.od rfl rfl rfl (OpT.assign rfl ?_)
            refine Rg.nil ?_
            have hst := (maysF_step ts s14 (by omega) (left - 1) (deep - 1) (by omega) (by omega)).1 (by omega)
            have hng := mayF_neg ts[s14] (maysF (ts.take s14) (left - 1) (deep - 1)) (deep - 1)
            exact ⟨s14 + 1, ⟨⟨rfl, by rw [hst]; rfl, rfl, rfl, rfl, rfl, rfl, rfl, rfl, rfl, rfl, rfl, rfl, rfl, rfl, rfl, rfl, rfl, rfl, trivial⟩, (x14.trans x21), by omega, by omega, by omega⟩, by omega⟩
        · have hp17 := of_decide_eq_false hb17
          refine W.condFb rfl hb17 ?_
          refine W.exit ?_
          refine hK12 _ _ ?_
          refine W.seqK fun K25 hK25 => ?_
          refine W.region ?_
          refine Rg.od rfl rfl rfl (OpT.move rfl ?_)
          refine Rg.od rfl rfl rfl (OpT.assign rfl ?_)
          refine Rg.nil ?_
          refine hK25 _ _ ?_
          refine W.ret ?_
          refine ⟨_, Res.one rfl rfl, ?_⟩
          have hsz : s14 = ts.length := by omega
          exact ⟨congrArg (Value.int .i64) (by rw [mayF_mk, if_neg (by rintro (h | h | h) <;> first | omega | simp_all), hsz, List.take_length]), ((x2.trans x10).trans x14)⟩
      · have hp11 := hb11
        refine W.condTb rfl (nF hb11) ?_
        refine W.seqK fun K26 hK26 => ?_
        refine W.region ?_
        refine Rg.od rfl rfl rfl (OpT.assign rfl ?_)
        refine Rg.nil ?_
        refine hK26 _ _ ?_
        refine W.ret ?_
        refine ⟨_, Res.one rfl rfl, ?_⟩
        exact ⟨congrArg (Value.int .i64) (by rw [mayF_mk, if_pos (by first | exact .inl (by omega) | exact .inr (.inl (by omega)) | exact .inr (.inr (by simp_all)))]), (x2.trans x10)⟩
set_option maxHeartbeats 1000000 in
set_option maxRecDepth 20000 in
theorem rMay_runs (t : T) (cs : List Value) (w0 : World) (R : Nat → Prop) (hv : VT w0 R cs t) : Runs Try.prog 16 #[.agg cs.toArray] w0 fun v w' => v = .bool (mayT t) ∧ Ext w0 w' := by
  obtain ⟨k, n, s, ls, ts, la, lc, ta, tc, rfl, rfl, hk, hn, hs, hl, ht, hL, hT⟩ := hv.inv
  refine Runs.of_W (vs := [_]) Try.func16 rfl rfl ?_
  refine W.seqK fun K1 hK1 => ?_
  refine W.region ?_
  refine Rg.od rfl rfl rfl (OpT.box rfl fun w2 g2 e2 x2 z2 b2 => ?_)
  replace b2 : Box w2 g2 [.int .u8 k, .int .i64 n, .string s, .slice la ls.length lc, .slice ta ts.length tc] := b2
  refine Rg.od rfl rfl rfl (OpT.assign rfl ?_)
  refine Rg.nil ?_
  refine hK1 _ _ ?_
  refine W.seqK fun K3 hK3 => ?_
  refine W.region ?_
  refine Rg.od rfl rfl rfl (OpT.loadAB Try.isAgg26 Try.sizeOf26 rfl b2 rfl ?_)
  refine Rg.od rfl rfl rfl (OpT.call Try.call33 (.cons rfl (.cons rfl (.cons rfl .nil))) (Runs.mono (rmayF_runs _ _ _ _ _ _ (hv.ext x2) (by omega)) ?_))
  rintro _ w4 ⟨rfl, x4⟩
  refine Rg.od rfl rfl rfl (OpT.geq rfl rfl ?_)
  refine Rg.od rfl rfl rfl (OpT.assign rfl ?_)
  refine Rg.nil ?_
  refine hK3 _ _ ?_
  refine W.ret ?_
  refine ⟨_, Res.one rfl rfl, ?_⟩
  exact ⟨congrArg Value.bool (mayF_T _), (x2.trans x4)⟩
set_option maxHeartbeats 1000000 in
set_option maxRecDepth 20000 in
theorem rSize_runs (t : T) : ∀ (cs : List Value) (w0 : World) (R : Nat → Prop) (hv : VT w0 R cs t) (hsz : size t < 4611686018427387904),
    Runs Try.prog 12 #[.agg cs.toArray] w0 fun v w' => v = .int .i64 ((size t : Nat) : Int) ∧ Ext w0 w' := by
  induction t using T.ind with
  | h k n s ls ts ih =>
  intro cs w0 R hv hsz
  obtain ⟨k, n, s, ls, ts, la, lc, ta, tc, e1, rfl, hk, hn, hs, hl, ht, hL, hT⟩ := hv.inv
  cases e1
  simp only [size] at hsz
  refine Runs.of_W (vs := [_]) Try.func12 rfl rfl ?_
  refine W.seqK fun K1 hK1 => ?_
  refine W.region ?_
  refine Rg.od rfl rfl rfl (OpT.box rfl fun w2 g2 e2 x2 z2 b2 => ?_)
  replace b2 : Box w2 g2 [.int .u8 k, .int .i64 n, .string s, .slice la ls.length lc, .slice ta ts.length tc] := b2
  refine Rg.od rfl rfl rfl (OpT.assign rfl ?_)
  refine Rg.nil ?_
  refine hK1 _ _ ?_
  refine W.seqK fun K3 hK3 => ?_
  refine W.region ?_
  refine Rg.od rfl rfl rfl (OpT.assign rfl ?_)
  refine Rg.nil ?_
  refine hK3 _ _ ?_
  refine W.seqK fun K4 hK4 => ?_
  refine W.seqK fun K5 hK5 => ?_
  refine W.region ?_
  refine Rg.od rfl rfl rfl (OpT.assign rfl ?_)
  refine Rg.nil ?_
  refine hK5 _ _ ?_
  refine W.block ?_
  refine W.loop (σ := Nat) (fun q e w' => Sub [(0, .agg ([.int .u8 k, .int .i64 n, .string s, .slice la ls.length lc, .slice ta ts.length tc].toArray)), (1, .pointer (some ⟨g2, 0, none⟩)), (2, .int .i64 0), (3, .int .i64 (((1 + sizes (ts.take q)) : Nat) : Int)), (4, .int .i64 ((q : Nat) : Int))] e ∧ Ext w2 w' ∧ q ≤ ts.length) (fun q => ts.length - q) 0
    ⟨⟨rfl, rfl, rfl, rfl, rfl, trivial⟩, Mod.refl _ _, Nat.zero_le _⟩ ?_
  rintro s6 en6 w6 ⟨hs6, x6, hi6_0⟩
  refine W.sub hs6 ?_
  refine W.seqK fun K7 hK7 => ?_
  refine W.seqK fun K8 hK8 => ?_
  refine W.region ?_
  refine Rg.od rfl rfl rfl (OpT.move rfl ?_)
  refine Rg.od rfl rfl rfl (OpT.fieldAddrB (off := 4) Try.underlying26 rfl Try.sizeOf24 rfl rfl ?_)
  refine Rg.od rfl rfl rfl (OpT.loadB Try.isAgg24 rfl (b2.ext x6) rfl ?_)
  refine Rg.od rfl rfl rfl (OpT.lenS Try.underlying24 rfl ?_)
  refine Rg.od rfl rfl rfl (OpT.lss rfl rfl ?_)
  refine Rg.nil ?_
  refine hK8 _ _ ?_
  rcases Bool.eq_false_or_eq_true (decide (((s6 : Nat) : Int) < ((ts.length : Nat) : Int))) with hb9 | hb9
  · have hp9 := of_decide_eq_true hb9
    refine W.condTb rfl hb9 ?_
    refine W.skip ?_
    refine hK7 _ _ ?_
    refine W.seqK fun K10 hK10 => ?_
    refine W.block ?_
    refine W.region ?_
    refine Rg.od rfl rfl rfl (OpT.move rfl ?_)
    refine Rg.od rfl rfl rfl (OpT.fieldAddrB (off := 4) Try.underlying26 rfl Try.sizeOf24 rfl rfl ?_)
    refine Rg.od rfl rfl rfl (OpT.loadB Try.isAgg24 rfl (b2.ext x6) rfl ?_)
    refine Rg.od rfl rfl rfl (OpT.move rfl ?_)
    obtain ⟨a11, cs11, ha11, hr11, hw11, hv11⟩ := hT.at (i := s6) (by first | omega | (unfold lenOk at *; omega))
    obtain ⟨k11, n11, s11, ls11, ts11, la11, lc11, ta11, tc11, et11, rfl, hk11, hn11, hs11, hl11, ht11, hL11, hT11⟩ := hv11.inv
    refine Rg.od rfl rfl rfl (OpT.indexAddr Try.underlying24 Try.sizeOf26 rfl rfl ha11 (by first | omega | (unfold lenOk at *; omega)) ?_)
    refine Rg.od rfl rfl rfl (OpT.loadA (cs := [.int .u8 k11, .int .i64 n11, .string s11, .slice la11 ls11.length lc11, .slice ta11 ts11.length tc11]) Try.isAgg26 Try.sizeOf26 rfl (hw11.ext (x2.trans x6)) ?_)
    refine Rg.od rfl rfl rfl (OpT.call Try.call12 (.cons rfl .nil) (Runs.mono (ih _ (List.getElem_mem _) _ _ _ (hv11.ext (x2.trans x6)) (by have := sizes_take_le ts (s6 + 1); have := sizes_take ts s6 (by omega); omega)) ?_))
    rintro _ w12 ⟨rfl, x12⟩
    have hst := sizes_take ts s6 (by omega)
    have hle := sizes_take_le ts (s6 + 1)
    refine Rg.od rfl rfl rfl (OpT.add rfl rfl (by first | omega | (unfold lenOk at *; omega)) ?_)
    refine Rg.od rfl rfl rfl (OpT.assign rfl ?_)
    refine Rg.nil ?_
    refine hK10 _ _ ?_
    refine W.region ?_
    refine Rg.od rfl rfl rfl (OpT.move rfl ?_)
    refine Rg.od rfl rfl rfl (OpT.add rfl rfl (by first | omega | (unfold lenOk at *; omega)) ?_)
    refine Rg.od rfl rfl rfl (OpT.assign rfl ?_)
    refine Rg.nil ?_
    exact ⟨s6 + 1, ⟨⟨rfl, rfl, rfl, intSlot (by rw [hst]; omega) rfl, rfl, trivial⟩, (x6.trans x12), by omega⟩, by omega⟩
  · have hp9 := of_decide_eq_false hb9
    refine W.condFb rfl hb9 ?_
    refine W.exit ?_
    refine hK4 _ _ ?_
    refine W.seqK fun K13 hK13 => ?_
    refine W.region ?_
    refine Rg.od rfl rfl rfl (OpT.move rfl ?_)
    refine Rg.od rfl rfl rfl (OpT.assign rfl ?_)
    refine Rg.nil ?_
    refine hK13 _ _ ?_
    refine W.ret ?_
    refine ⟨_, Res.one rfl rfl, ?_⟩
    have hsz : s6 = ts.length := by omega
    exact ⟨congrArg (Value.int .i64) (by rw [hsz, List.take_length]; rfl), (x2.trans x6)⟩
set_option maxHeartbeats 1000000 in
set_option maxRecDepth 20000 in
theorem may1_runs (t : T) : ∀ (cs : List Value) (deep : Int) (w0 : World) (R : Nat → Prop) (hv : VT w0 R cs t) (left : Int) (hb : (0 ≤ left ∧ left ≤ 65536) ∧ -4096 ≤ deep ∧ deep ≤ 4096) (gl gm : Nat)
    (bl : Box w0 gl [.int .i64 left]) (bm : Box w0 gm [.func (.func 24) #[] #[.pointer (some ⟨gl, 0, none⟩), .pointer (some ⟨gm, 0, none⟩)]]) (hne : gl ≠ gm) (off_gl : ¬ R gl) (off_gm : ¬ R gm),
    Runs Try.prog 24 #[.agg cs.toArray, .int .i64 deep, .pointer (some ⟨gl, 0, none⟩), .pointer (some ⟨gm, 0, none⟩)] w0 fun v w' => ∃ lf : Int, v = .bool (decide (0 ≤ mayF t left deep)) ∧ Box w' gl [.int .i64 lf] ∧ Upd gl w0 w' ∧
      (decide (0 ≤ mayF t left deep) = true → lf = mayF t left deep) ∧ -1 ≤ lf := by
  induction t using T.ind with
  | h k n s ls ts ih =>
  intro cs deep w0 R hv left hb gl gm bl bm hne off_gl off_gm
  obtain ⟨k, n, s, ls, ts, la, lc, ta, tc, e1, rfl, hk, hn, hs, hl, ht, hL, hT⟩ := hv.inv
  cases e1
  refine Runs.of_W (vs := [_, _, _, _]) Try.func24 rfl rfl ?_
  refine W.seqK fun K1 hK1 => ?_
  refine W.region ?_
  refine Rg.od rfl rfl rfl (OpT.box rfl fun w2 g2 e2 x2 z2 b2 => ?_)
  replace b2 : Box w2 g2 [.int .u8 k, .int .i64 n, .string s, .slice la ls.length lc, .slice ta ts.length tc] := b2
  refine Rg.od rfl rfl rfl (OpT.assign rfl ?_)
  refine Rg.nil ?_
  refine hK1 _ _ ?_
  refine W.seqK fun K3 hK3 => ?_
  refine W.seqK fun K4 hK4 => ?_
  refine W.region ?_
  refine Rg.od rfl rfl rfl (OpT.loadB Try.isAgg3 rfl (bl.ext x2) rfl ?_)
  refine Rg.od rfl rfl rfl (OpT.sub rfl rfl (by first | omega | (unfold lenOk at *; omega)) ?_)
  refine Rg.on rfl rfl (OpT.store Try.sizeOf3 rfl rfl rfl (bl.ext x2) rfl fun w5 m5 z5 b5 => ?_)
  replace b5 : Box w5 gl [.int .i64 (left - 1)] := b5
  refine Rg.nil ?_
  refine hK4 _ _ ?_
  refine W.seqK fun K6 hK6 => ?_
  refine W.region ?_
  refine Rg.od rfl rfl rfl (OpT.loadB Try.isAgg3 rfl b5 rfl ?_)
  refine Rg.od rfl rfl rfl (OpT.lss rfl rfl ?_)
  refine Rg.od rfl rfl rfl (OpT.move rfl ?_)
  rcases Bool.eq_false_or_eq_true (decide ((left - 1) < 0)) with hb7 | hb7
  · have hp7 := of_decide_eq_true hb7
    refine Rg.gn rfl rfl rfl rfl hb7 ?_
    refine Rg.gn rfl rfl rfl rfl hb7 ?_
    refine Rg.od rfl rfl rfl (OpT.pickT rfl hb7 rfl ?_)
    refine Rg.od rfl rfl rfl (OpT.move rfl ?_)
    refine Rg.gn rfl rfl rfl rfl rfl ?_
    refine Rg.gn rfl rfl rfl rfl rfl ?_
    refine Rg.gn rfl rfl rfl rfl rfl ?_
    refine Rg.od rfl rfl rfl (OpT.pickT rfl rfl rfl ?_)
    refine Rg.nil ?_
    refine hK6 _ _ ?_
    refine W.condTb rfl rfl ?_
    refine W.seqK fun K8 hK8 => ?_
    refine W.region ?_
    refine Rg.od rfl rfl rfl (OpT.assign rfl ?_)
    refine Rg.nil ?_
    refine hK8 _ _ ?_
    refine W.ret ?_
    refine ⟨_, Res.one rfl rfl, ?_⟩
    have hfin : mayF (.mk k n s ls ts) left deep = -1 := by rw [mayF_mk, if_pos (by first | exact .inl (by omega) | exact .inr (.inl (by omega)) | exact .inr (.inr (by simp_all)))]
    exact ⟨(left - 1), congrArg Value.bool (by rw [hfin]; rfl), b5, (x2.toUpd.trans m5), (fun h => by rw [hfin] at h; cases h), by omega⟩
  · have hp7 := of_decide_eq_false hb7
    refine Rg.gy rfl rfl rfl rfl hb7 (OpT.move rfl ?_)
    refine Rg.gy rfl rfl rfl rfl hb7 (OpT.leq rfl rfl ?_)
    refine Rg.od rfl rfl rfl (OpT.pickF rfl hb7 rfl ?_)
    refine Rg.od rfl rfl rfl (OpT.move rfl ?_)
    rcases Bool.eq_false_or_eq_true (decide (deep ≤ 0)) with hb9 | hb9
    · have hp9 := of_decide_eq_true hb9
      refine Rg.gn rfl rfl rfl rfl hb9 ?_
      refine Rg.gn rfl rfl rfl rfl hb9 ?_
      refine Rg.gn rfl rfl rfl rfl hb9 ?_
      refine Rg.od rfl rfl rfl (OpT.pickT rfl hb9 rfl ?_)
      refine Rg.nil ?_
      refine hK6 _ _ ?_
      refine W.condTb rfl rfl ?_
      refine W.seqK fun K10 hK10 => ?_
      refine W.region ?_
      refine Rg.od rfl rfl rfl (OpT.assign rfl ?_)
      refine Rg.nil ?_
      refine hK10 _ _ ?_
      refine W.ret ?_
      refine ⟨_, Res.one rfl rfl, ?_⟩
      have hfin : mayF (.mk k n s ls ts) left deep = -1 := by rw [mayF_mk, if_pos (by first | exact .inl (by omega) | exact .inr (.inl (by omega)) | exact .inr (.inr (by simp_all)))]
      exact ⟨(left - 1), congrArg Value.bool (by rw [hfin]; rfl), b5, (x2.toUpd.trans m5), (fun h => by rw [hfin] at h; cases h), by omega⟩
    · have hp9 := of_decide_eq_false hb9
      refine Rg.gy rfl rfl rfl rfl hb9 (OpT.loadAB Try.isAgg26 Try.sizeOf26 rfl (b2.upd m5 (by have h1 := Nat.le_refl w0.heap.size; have h2 := bl.lt; omega)) rfl ?_)
      refine Rg.gy rfl rfl rfl rfl hb9 (OpT.call Try.call25 (.cons rfl .nil) (Runs.mono (node_runs _ _ _ _ ((hv.ext x2).upd m5 off_gl)) ?_))
      rintro _ w11 ⟨rfl, x11⟩
      refine Rg.gy rfl rfl rfl rfl hb9 (OpT.notB rfl ?_)
      refine Rg.od rfl rfl rfl (OpT.pickF rfl hb9 rfl ?_)
      refine Rg.nil ?_
      refine hK6 _ _ ?_
      rcases Bool.eq_false_or_eq_true (nodeB (T.mk k n s ls ts)) with hb12 | hb12
      · have hp12 := hb12
        refine W.condFb rfl (nT hb12) ?_
        refine W.skip ?_
        refine hK3 _ _ ?_
        refine W.seqK fun K13 hK13 => ?_
        refine W.seqK fun K14 hK14 => ?_
        refine W.region ?_
        refine Rg.od rfl rfl rfl (OpT.fieldAddrB (off := 4) Try.underlying26 rfl Try.sizeOf24 rfl rfl ?_)
        refine Rg.od rfl rfl rfl (OpT.loadB Try.isAgg24 rfl ((b2.upd m5 (by have h1 := Nat.le_refl w0.heap.size; have h2 := bl.lt; omega)).ext x11) rfl ?_)
        refine Rg.od rfl rfl rfl (OpT.lenS Try.underlying24 rfl ?_)
        refine Rg.od rfl rfl rfl (OpT.move rfl ?_)
        refine Rg.nil ?_
        refine hK14 _ _ ?_
        refine W.block ?_
        refine W.loop (σ := Nat) (fun q e w' => Sub [(0, .agg ([.int .u8 k, .int .i64 n, .string s, .slice la ls.length lc, .slice ta ts.length tc].toArray)), (1, .int .i64 deep), (2, .pointer (some ⟨gl, 0, none⟩)), (3, .pointer (some ⟨gm, 0, none⟩)), (4, .pointer (some ⟨g2, 0, none⟩)), (6, .bool false), (9, .int .i64 left), (10, .int .i64 (left - 1)), (11, .int .i64 (left - 1)), (12, .bool (decide ((left - 1) < 0))), (13, .bool (decide ((left - 1) < 0))), (14, .int .i64 deep), (15, .bool (decide (deep ≤ 0))), (16, .bool (decide (deep ≤ 0))), (17, .bool (decide (deep ≤ 0))), (18, .agg ([.int .u8 k, .int .i64 n, .string s, .slice la ls.length lc, .slice ta ts.length tc].toArray)), (19, .bool (nodeB (T.mk k n s ls ts))), (20, .bool (!(nodeB (T.mk k n s ls ts)))), (21, .bool (!(nodeB (T.mk k n s ls ts)))), (22, .pointer (some ⟨g2, 4, none⟩)), (23, .slice ta ts.length tc), (24, .int .i64 ((ts.length : Nat) : Int)), (25, .int .i64 ((q : Nat) : Int))] e ∧ Upd gl w11 w' ∧ Box w' gl [.int .i64 (maysF (ts.take q) (left - 1) (deep - 1))] ∧ q ≤ ts.length ∧ 0 ≤ (maysF (ts.take q) (left - 1) (deep - 1)) ∧ (maysF (ts.take q) (left - 1) (deep - 1)) ≤ left - 1) (fun q => ts.length - q) 0
          ⟨⟨rfl, rfl, rfl, rfl, rfl, rfl, rfl, rfl, rfl, rfl, rfl, rfl, rfl, rfl, rfl, rfl, rfl, rfl, rfl, rfl, rfl, rfl, rfl, trivial⟩, Mod.refl _ _, (by rw [show (maysF (ts.take 0) (left - 1) (deep - 1)) = left - 1 by rw [List.take_zero, maysF_nil]]; exact (b5.ext x11)), Nat.zero_le _, by rw [List.take_zero, maysF_nil]; omega, by rw [List.take_zero, maysF_nil]; omega⟩ ?_
        rintro s15 en15 w15 ⟨hs15, x15, b15, hi15_0, hi15_1, hi15_2⟩
        refine W.sub hs15 ?_
        refine W.seqK fun K16 hK16 => ?_
        refine W.region ?_
        refine Rg.od rfl rfl rfl (OpT.lss rfl rfl ?_)
        refine Rg.nil ?_
        refine hK16 _ _ ?_
        refine W.seqK fun K17 hK17 => ?_
        rcases Bool.eq_false_or_eq_true (decide (((s15 : Nat) : Int) < ((ts.length : Nat) : Int))) with hb18 | hb18
        · have hp18 := of_decide_eq_true hb18
          refine W.condTb rfl hb18 ?_
          refine W.skip ?_
          refine hK17 _ _ ?_
          refine W.seqK fun K19 hK19 => ?_
          refine W.block ?_
          refine W.seqK fun K20 hK20 => ?_
          refine W.region ?_
          obtain ⟨a21, cs21, ha21, hr21, hw21, hv21⟩ := hT.at (i := s15) (by first | omega | (unfold lenOk at *; omega))
          obtain ⟨k21, n21, s21, ls21, ts21, la21, lc21, ta21, tc21, et21, rfl, hk21, hn21, hs21, hl21, ht21, hL21, hT21⟩ := hv21.inv
          refine Rg.od rfl rfl rfl (OpT.indexAddr Try.underlying24 Try.sizeOf26 rfl rfl ha21 (by first | omega | (unfold lenOk at *; omega)) ?_)
          refine Rg.od rfl rfl rfl (OpT.loadA (cs := [.int .u8 k21, .int .i64 n21, .string s21, .slice la21 ls21.length lc21, .slice ta21 ts21.length tc21]) Try.isAgg26 Try.sizeOf26 rfl ((((hw21.ext x2).upd m5 (fun h => off_gl (h ▸ (by rw [block_add]; exact hr21)))).ext x11).upd x15 (fun h => off_gl (h ▸ (by rw [block_add]; exact hr21)))) ?_)
          refine Rg.od rfl rfl rfl (OpT.alloc Try.zeroValue26 fun w22 g22 e22 x22 z22 b22 => ?_)
          replace b22 : Box w22 g22 [.int .u8 0, .int .i64 0, .string (⟨#[]⟩ : ByteArray), .slice none 0 0, .slice none 0 0] := b22
          refine Rg.on rfl rfl (OpT.storeA Try.sizeOf26 rfl rfl rfl rfl b22 rfl fun w23 m23 z23 b23 => ?_)
          replace b23 : Box w23 g22 [.int .u8 k21, .int .i64 n21, .string s21, .slice la21 ls21.length lc21, .slice ta21 ts21.length tc21] := b23
          refine Rg.nil ?_
          refine hK20 _ _ ?_
          refine W.seqK fun K24 hK24 => ?_
          refine W.region ?_
          refine Rg.od rfl rfl rfl (OpT.loadB Try.isAgg48 rfl ((((((bm.ext x2).upd m5 hne.symm).ext x11).upd x15 hne.symm).ext x22).upd m23 (by have h1 := Nat.le_trans (Nat.le_trans (Nat.le_trans (Nat.le_trans (Nat.le_refl w0.heap.size) x2.size) m5.size) x11.size) x15.size; have h2 := bm.lt; omega)) rfl ?_)
          refine Rg.od rfl rfl rfl (OpT.loadAB Try.isAgg26 Try.sizeOf26 rfl b23 rfl ?_)
          refine Rg.od rfl rfl rfl (OpT.move rfl ?_)
          refine Rg.od rfl rfl rfl (OpT.sub rfl rfl (by first | omega | (unfold lenOk at *; omega)) ?_)
          refine Rg.od rfl rfl rfl (OpT.callV Try.call24 rfl (.cons rfl (.cons rfl .nil)) (Runs.mono (ih _ (List.getElem_mem _) _ _ _ _ (((((hv21.ext x2).upd m5 off_gl).ext x11).upd x15 off_gl).ext (x22.upd m23 (by omega))) _ (by omega) gl gm ((b15.ext x22).upd m23 (by have h1 := Nat.le_trans (Nat.le_trans (Nat.le_trans (Nat.le_trans (Nat.le_refl w0.heap.size) x2.size) m5.size) x11.size) x15.size; have h2 := bl.lt; omega)) ((((((bm.ext x2).upd m5 hne.symm).ext x11).upd x15 hne.symm).ext x22).upd m23 (by have h1 := Nat.le_trans (Nat.le_trans (Nat.le_trans (Nat.le_trans (Nat.le_refl w0.heap.size) x2.size) m5.size) x11.size) x15.size; have h2 := bm.lt; omega)) hne off_gl off_gm) ?_))
          rintro _ w25 ⟨lf25, rfl, b25, x25, hlf25, hle25⟩
          refine Rg.od rfl rfl rfl (OpT.notB rfl ?_)
          refine Rg.nil ?_
          refine hK24 _ _ ?_
          rcases Bool.eq_false_or_eq_true (decide (0 ≤ mayF (ts[s15]) (maysF (ts.take s15) (left - 1) (deep - 1)) (deep - 1))) with hb26 | hb26
          · have hp26 := of_decide_eq_true hb26
            refine W.condFb rfl (nT hb26) ?_
            refine W.skip ?_
            refine hK19 _ _ ?_
            refine W.region ?_
            refine Rg.od rfl rfl rfl (OpT.add rfl rfl (by first | omega | (unfold lenOk at *; omega)) ?_)
            refine Rg.od rfl rfl rfl (OpT.move rfl ?_)
            refine Rg.nil ?_
            have hst := (maysF_step ts s15 (by omega) (left - 1) (deep - 1) (by omega) (by omega)).1 (by omega)
            have hng := mayF_neg ts[s15] (maysF (ts.take s15) (left - 1) (deep - 1)) (deep - 1)
            have hlf := hlf25 (decide_eq_true (by omega))
            exact ⟨s15 + 1, ⟨⟨rfl, rfl, rfl, rfl, rfl, rfl, rfl, rfl, rfl, rfl, rfl, rfl, rfl, rfl, rfl, rfl, rfl, rfl, rfl, rfl, rfl, rfl, rfl, trivial⟩, ((x15.ext (x22.upd m23 (by omega))).trans x25), (by rw [hst, ← hlf]; exact b25), by omega, by omega, by omega⟩, by omega⟩
          · have hp26 := of_decide_eq_false hb26
            refine W.condTb rfl (nF hb26) ?_
            refine W.seqK fun K27 hK27 => ?_
            refine W.region ?_
            refine Rg.od rfl rfl rfl (OpT.assign rfl ?_)
            refine Rg.nil ?_
            refine hK27 _ _ ?_
            refine W.ret ?_
            refine ⟨_, Res.one rfl rfl, ?_⟩
            have hst := (maysF_step ts s15 (by omega) (left - 1) (deep - 1) (by omega) (by omega)).2 (by omega)
            have hfin : mayF (.mk k n s ls ts) left deep = -1 := by rw [mayF_mk, if_neg (by rintro (h | h | h) <;> first | omega | simp_all), hst]
            exact ⟨lf25, congrArg Value.bool (by rw [hfin]; rfl), b25, (((((x2.toUpd.trans m5).ext x11).trans x15).ext (x22.upd m23 (by omega))).trans x25), (fun h => by rw [hfin] at h; cases h), by omega⟩
        · have hp18 := of_decide_eq_false hb18
          refine W.condFb rfl hb18 ?_
          refine W.exit ?_
          refine hK13 _ _ ?_
          refine W.seqK fun K28 hK28 => ?_
          refine W.region ?_
          refine Rg.od rfl rfl rfl (OpT.assign rfl ?_)
          refine Rg.nil ?_
          refine hK28 _ _ ?_
          refine W.ret ?_
          refine ⟨_, Res.one rfl rfl, ?_⟩
          have hsz : s15 = ts.length := by omega
          have hfin : mayF (.mk k n s ls ts) left deep = (maysF (ts.take s15) (left - 1) (deep - 1)) := by rw [mayF_mk, if_neg (by rintro (h | h | h) <;> first | omega | simp_all), hsz, List.take_length]
          exact ⟨(maysF (ts.take s15) (left - 1) (deep - 1)), congrArg Value.bool (by rw [hfin]; exact (decide_eq_true (by omega)).symm), b15, (((x2.toUpd.trans m5).ext x11).trans x15), fun _ => hfin.symm, by omega⟩
      · have hp12 := hb12
        refine W.condTb rfl (nF hb12) ?_
        refine W.seqK fun K29 hK29 => ?_
        refine W.region ?_
        refine Rg.od rfl rfl rfl (OpT.assign rfl ?_)
        refine Rg.nil ?_
        refine hK29 _ _ ?_
        refine W.ret ?_
        refine ⟨_, Res.one rfl rfl, ?_⟩
        have hfin : mayF (.mk k n s ls ts) left deep = -1 := by rw [mayF_mk, if_pos (by first | exact .inl (by omega) | exact .inr (.inl (by omega)) | exact .inr (.inr (by simp_all)))]
        exact ⟨(left - 1), congrArg Value.bool (by rw [hfin]; rfl), (b5.ext x11), ((x2.toUpd.trans m5).ext x11), (fun h => by rw [hfin] at h; cases h), by omega⟩
set_option maxHeartbeats 1000000 in
set_option maxRecDepth 20000 in
theorem rZero_runs (w0 : World) : Runs Try.prog 23 #[] w0 fun v w' => v = .agg lZero.cells.toArray ∧ Ext w0 w' := by
  refine Runs.of_W (vs := []) Try.func23 rfl rfl ?_
  refine W.seqK fun K1 hK1 => ?_
  refine W.region ?_
  refine Rg.od rfl rfl rfl (OpT.alloc Try.zeroValue46 fun w2 g2 e2 x2 z2 b2 => ?_)
  replace b2 : Box w2 g2 [.int .i64 0, .int .i64 0, .int .i64 0, .int .i64 0, .int .i64 0] := b2
  refine Rg.nil ?_
  refine hK1 _ _ ?_
  refine W.seqK fun K3 hK3 => ?_
  refine W.region ?_
  refine Rg.od rfl rfl rfl (OpT.buildArr (cs := #[.int .i64 (-1), .int .i64 (-1), .int .i64 (-1), .int .i64 (-1)]) (.cons rfl (.cons rfl (.cons rfl (.cons rfl .nil)))) Try.zeroValue44 Try.underlying44 Try.sizeOf3 (by kernel_rfl) ?_)
  refine Rg.od rfl rfl rfl (OpT.build (cs := #[.int .i64 0, .int .i64 (-1), .int .i64 (-1), .int .i64 (-1), .int .i64 (-1)]) (.cons rfl .nil) Try.zeroValue46 places46.choose_spec.1 places46.choose_spec.2 (by kernel_rfl) ?_)
  refine Rg.on rfl rfl (OpT.storeA Try.sizeOf46 rfl rfl rfl rfl b2 rfl fun w4 m4 z4 b4 => ?_)
  replace b4 : Box w4 g2 [.int .i64 0, .int .i64 (-1), .int .i64 (-1), .int .i64 (-1), .int .i64 (-1)] := b4
  refine Rg.nil ?_
  refine hK3 _ _ ?_
  refine W.ret ?_
  refine ⟨_, Res.cellA rfl rfl Try.isAgg46 Try.sizeOf46 rfl b4, ?_⟩
  exact ⟨rfl, (x2.upd m4 (by omega))⟩
set_option maxHeartbeats 1000000 in
set_option maxRecDepth 20000 in
theorem lS_runs (w0 : World) (R : Nat → Prop) (hR : ∀ k, w0.heap.size ≤ k → R k) : Runs Try.prog 6 #[] w0 fun v w' => ∃ cs, v = .agg cs.toArray ∧ VT w' R cs (tS) ∧ Ext w0 w' := by
  refine Runs.of_W (vs := []) Try.func6 rfl rfl ?_
  refine W.seqK fun K1 hK1 => ?_
  refine W.region ?_
  refine Rg.od rfl rfl rfl (OpT.alloc Try.zeroValue26 fun w2 g2 e2 x2 z2 b2 => ?_)
  replace b2 : Box w2 g2 [.int .u8 0, .int .i64 0, .string (⟨#[]⟩ : ByteArray), .slice none 0 0, .slice none 0 0] := b2
  refine Rg.nil ?_
  refine hK1 _ _ ?_
  refine W.seqK fun K3 hK3 => ?_
  refine W.region ?_
  refine Rg.od rfl rfl rfl (OpT.call Try.call23 .nil (Runs.mono (rZero_runs _) ?_))
  rintro _ w4 ⟨rfl, x4⟩
  refine Rg.od rfl rfl rfl (OpT.buildSlice (cs := #[.int .i64 lZero.c, .int .i64 lZero.p0, .int .i64 lZero.p1, .int .i64 lZero.p2, .int .i64 lZero.p3]) (.cons rfl .nil) Try.underlying23 Try.sizeOf46 Try.zeroValue46 rfl (by kernel_rfl) fun w5 g5 e5 x5 z5 b5 => ?_)
  replace b5 : Box w5 g5 [.int .i64 lZero.c, .int .i64 lZero.p0, .int .i64 lZero.p1, .int .i64 lZero.p2, .int .i64 lZero.p3] := b5
  refine Rg.od rfl rfl rfl (OpT.build (cs := #[.int .u8 1, .int .i64 0, .string (⟨#[]⟩ : ByteArray), .slice (some ⟨g5, 0, none⟩) 1 1, .slice none 0 0]) (.cons rfl (.cons rfl .nil)) Try.zeroValue26 places26.choose_spec.1 places26.choose_spec.2 (by kernel_rfl) ?_)
  refine Rg.on rfl rfl (OpT.storeA Try.sizeOf26 rfl rfl rfl rfl (b2.ext (x4.trans x5)) rfl fun w6 m6 z6 b6 => ?_)
  replace b6 : Box w6 g2 [.int .u8 1, .int .i64 0, .string (⟨#[]⟩ : ByteArray), .slice (some ⟨g5, 0, none⟩) 1 1, .slice none 0 0] := b6
  refine Rg.nil ?_
  refine hK3 _ _ ?_
  refine W.ret ?_
  refine ⟨_, Res.cellA rfl rfl Try.isAgg26 Try.sizeOf26 rfl b6, ?_⟩
  exact ⟨_, rfl, VT.intro (w := w6) (R := R) (k := 1) (n := 0) (s := (⟨#[]⟩ : ByteArray)) (la := (some ⟨g5, 0, none⟩)) (lc := 1) (ta := none) (tc := 0) (ls := [lZero]) (ts := []) (by omega) (by unfold i64ok at *; omega) (by first | assumption | decide) (by unfold lenOk at *; simp only [List.length_cons, List.length_nil]; omega) ⟨Nat.le_refl 0, by decide⟩ (SlL.box1 (l := lZero) (b5.upd m6 (by have h1 := Nat.le_trans (Nat.le_refl w2.heap.size) x4.size; omega)) (hR _ (by have h1 := Nat.le_trans (Nat.le_trans (Nat.le_refl w0.heap.size) x2.size) x4.size; omega)) lZero_wf) (SlT.nil _ _ _), (((x2.trans x4).trans x5).upd m6 (by omega))⟩
set_option maxHeartbeats 1000000 in
set_option maxRecDepth 20000 in
theorem lV_runs (n : Int) (w0 : World) : Runs Try.prog 10 #[.int .i64 n] w0 fun v w' => v = .agg ([.int .u8 2, .int .i64 n, .string (⟨#[]⟩ : ByteArray), .slice none 0 0, .slice none 0 0].toArray) ∧ Ext w0 w' := by
  refine Runs.of_W (vs := [_]) Try.func10 rfl rfl ?_
  refine W.seqK fun K1 hK1 => ?_
  refine W.region ?_
  refine Rg.od rfl rfl rfl (OpT.alloc Try.zeroValue26 fun w2 g2 e2 x2 z2 b2 => ?_)
  replace b2 : Box w2 g2 [.int .u8 0, .int .i64 0, .string (⟨#[]⟩ : ByteArray), .slice none 0 0, .slice none 0 0] := b2
  refine Rg.nil ?_
  refine hK1 _ _ ?_
  refine W.seqK fun K3 hK3 => ?_
  refine W.region ?_
  refine Rg.od rfl rfl rfl (OpT.move rfl ?_)
  refine Rg.od rfl rfl rfl (OpT.build (cs := #[.int .u8 2, .int .i64 n, .string (⟨#[]⟩ : ByteArray), .slice none 0 0, .slice none 0 0]) (.cons rfl (.cons rfl .nil)) Try.zeroValue26 places26.choose_spec.1 places26.choose_spec.2 (by kernel_rfl) ?_)
  refine Rg.on rfl rfl (OpT.storeA Try.sizeOf26 rfl rfl rfl rfl b2 rfl fun w4 m4 z4 b4 => ?_)
  replace b4 : Box w4 g2 [.int .u8 2, .int .i64 n, .string (⟨#[]⟩ : ByteArray), .slice none 0 0, .slice none 0 0] := b4
  refine Rg.nil ?_
  refine hK3 _ _ ?_
  refine W.ret ?_
  refine ⟨_, Res.cellA rfl rfl Try.isAgg26 Try.sizeOf26 rfl b4, ?_⟩
  exact ⟨rfl, (x2.upd m4 (by omega))⟩
set_option maxHeartbeats 1000000 in
set_option maxRecDepth 20000 in
theorem lC_runs (s : ByteArray) (w0 : World) : Runs Try.prog 26 #[.string s] w0 fun v w' => v = .agg ([.int .u8 3, .int .i64 0, .string s, .slice none 0 0, .slice none 0 0].toArray) ∧ Ext w0 w' := by
  refine Runs.of_W (vs := [_]) Try.func26 rfl rfl ?_
  refine W.seqK fun K1 hK1 => ?_
  refine W.region ?_
  refine Rg.od rfl rfl rfl (OpT.alloc Try.zeroValue26 fun w2 g2 e2 x2 z2 b2 => ?_)
  replace b2 : Box w2 g2 [.int .u8 0, .int .i64 0, .string (⟨#[]⟩ : ByteArray), .slice none 0 0, .slice none 0 0] := b2
  refine Rg.nil ?_
  refine hK1 _ _ ?_
  refine W.seqK fun K3 hK3 => ?_
  refine W.region ?_
  refine Rg.od rfl rfl rfl (OpT.move rfl ?_)
  refine Rg.od rfl rfl rfl (OpT.build (cs := #[.int .u8 3, .int .i64 0, .string s, .slice none 0 0, .slice none 0 0]) (.cons rfl (.cons rfl .nil)) Try.zeroValue26 places26.choose_spec.1 places26.choose_spec.2 (by kernel_rfl) ?_)
  refine Rg.on rfl rfl (OpT.storeA Try.sizeOf26 rfl rfl rfl rfl b2 rfl fun w4 m4 z4 b4 => ?_)
  replace b4 : Box w4 g2 [.int .u8 3, .int .i64 0, .string s, .slice none 0 0, .slice none 0 0] := b4
  refine Rg.nil ?_
  refine hK3 _ _ ?_
  refine W.ret ?_
  refine ⟨_, Res.cellA rfl rfl Try.isAgg26 Try.sizeOf26 rfl b4, ?_⟩
  exact ⟨rfl, (x2.upd m4 (by omega))⟩
set_option maxHeartbeats 1000000 in
set_option maxRecDepth 20000 in
theorem lA_runs (f x : T) (cf cx : List Value) (w0 : World) (R : Nat → Prop) (hR : ∀ k, w0.heap.size ≤ k → R k) (hf : VT w0 R cf f) (hx : VT w0 R cx x) : Runs Try.prog 11 #[.agg cf.toArray, .agg cx.toArray] w0 fun v w' => ∃ cs, v = .agg cs.toArray ∧ VT w' R cs (tA f x) ∧ Ext w0 w' := by
  obtain ⟨kf, nf, sf, lsf, tsf, laf, lcf, taf, tcf, etf, rfl, hkf, hnf, hsf, hlf, htf, hLf, hTf⟩ := hf.inv
  obtain ⟨kx, nx, sx, lsx, tsx, lax, lcx, tax, tcx, etx, rfl, hkx, hnx, hsx, hlx, htx, hLx, hTx⟩ := hx.inv
  refine Runs.of_W (vs := [_, _]) Try.func11 rfl rfl ?_
  refine W.seqK fun K1 hK1 => ?_
  refine W.region ?_
  refine Rg.od rfl rfl rfl (OpT.box rfl fun w2 g2 e2 x2 z2 b2 => ?_)
  replace b2 : Box w2 g2 [.int .u8 kf, .int .i64 nf, .string sf, .slice laf lsf.length lcf, .slice taf tsf.length tcf] := b2
  refine Rg.od rfl rfl rfl (OpT.box rfl fun w3 g3 e3 x3 z3 b3 => ?_)
  replace b3 : Box w3 g3 [.int .u8 kx, .int .i64 nx, .string sx, .slice lax lsx.length lcx, .slice tax tsx.length tcx] := b3
  refine Rg.od rfl rfl rfl (OpT.alloc Try.zeroValue26 fun w4 g4 e4 x4 z4 b4 => ?_)
  replace b4 : Box w4 g4 [.int .u8 0, .int .i64 0, .string (⟨#[]⟩ : ByteArray), .slice none 0 0, .slice none 0 0] := b4
  refine Rg.nil ?_
  refine hK1 _ _ ?_
  refine W.seqK fun K5 hK5 => ?_
  refine W.region ?_
  refine Rg.od rfl rfl rfl (OpT.loadAB Try.isAgg26 Try.sizeOf26 rfl (b2.ext (x3.trans x4)) rfl ?_)
  refine Rg.od rfl rfl rfl (OpT.loadAB Try.isAgg26 Try.sizeOf26 rfl (b3.ext x4) rfl ?_)
  refine Rg.od rfl rfl rfl (OpT.buildSlice (cs := #[.int .u8 kf, .int .i64 nf, .string sf, .slice laf lsf.length lcf, .slice taf tsf.length tcf, .int .u8 kx, .int .i64 nx, .string sx, .slice lax lsx.length lcx, .slice tax tsx.length tcx]) (.cons rfl (.cons rfl .nil)) Try.underlying24 Try.sizeOf26 Try.zeroValue26 rfl (by kernel_rfl) fun w6 g6 e6 x6 z6 b6 => ?_)
  replace b6 : Box w6 g6 [.int .u8 kf, .int .i64 nf, .string sf, .slice laf lsf.length lcf, .slice taf tsf.length tcf, .int .u8 kx, .int .i64 nx, .string sx, .slice lax lsx.length lcx, .slice tax tsx.length tcx] := b6
  refine Rg.od rfl rfl rfl (OpT.build (cs := #[.int .u8 4, .int .i64 0, .string (⟨#[]⟩ : ByteArray), .slice none 0 0, .slice (some ⟨g6, 0, none⟩) 2 2]) (.cons rfl (.cons rfl .nil)) Try.zeroValue26 places26.choose_spec.1 places26.choose_spec.2 (by kernel_rfl) ?_)
  refine Rg.on rfl rfl (OpT.storeA Try.sizeOf26 rfl rfl rfl rfl (b4.ext x6) rfl fun w7 m7 z7 b7 => ?_)
  replace b7 : Box w7 g4 [.int .u8 4, .int .i64 0, .string (⟨#[]⟩ : ByteArray), .slice none 0 0, .slice (some ⟨g6, 0, none⟩) 2 2] := b7
  refine Rg.nil ?_
  refine hK5 _ _ ?_
  refine W.ret ?_
  refine ⟨_, Res.cellA rfl rfl Try.isAgg26 Try.sizeOf26 rfl b7, ?_⟩
  exact ⟨_, rfl, VT.intro (w := w7) (R := R) (k := 4) (n := 0) (s := (⟨#[]⟩ : ByteArray)) (la := none) (lc := 0) (ta := (some ⟨g6, 0, none⟩)) (tc := 2) (ls := []) (ts := [f, x]) (by omega) (by unfold i64ok at *; omega) (by first | assumption | decide) ⟨Nat.le_refl 0, by decide⟩ (by unfold lenOk at *; simp only [List.length_cons, List.length_nil]; omega) (SlL.nil _ _ _) (SlT.box2 (c1 := [.int .u8 kf, .int .i64 nf, .string sf, .slice laf lsf.length lcf, .slice taf tsf.length tcf]) (c2 := [.int .u8 kx, .int .i64 nx, .string sx, .slice lax lsx.length lcx, .slice tax tsx.length tcx]) (b6.upd m7 (by have h1 := Nat.le_refl w4.heap.size; omega)) (hR _ (by have h1 := Nat.le_trans (Nat.le_trans (Nat.le_trans (Nat.le_refl w0.heap.size) x2.size) x3.size) x4.size; omega)) (hf.ext ((((x2.trans x3).trans x4).trans x6).upd m7 (by have h1 := (x2.trans x3).size; omega))) (hx.ext ((((x2.trans x3).trans x4).trans x6).upd m7 (by have h1 := (x2.trans x3).size; omega)))), ((((x2.trans x3).trans x4).trans x6).upd m7 (by have h1 := (x2.trans x3).size; omega))⟩
set_option maxHeartbeats 1000000 in
set_option maxRecDepth 20000 in
theorem lL_runs (f x : T) (cf cx : List Value) (w0 : World) (R : Nat → Prop) (hR : ∀ k, w0.heap.size ≤ k → R k) (hf : VT w0 R cf f) (hx : VT w0 R cx x) : Runs Try.prog 7 #[.agg cf.toArray, .agg cx.toArray] w0 fun v w' => ∃ cs, v = .agg cs.toArray ∧ VT w' R cs (tL f x) ∧ Ext w0 w' := by
  obtain ⟨kf, nf, sf, lsf, tsf, laf, lcf, taf, tcf, etf, rfl, hkf, hnf, hsf, hlf, htf, hLf, hTf⟩ := hf.inv
  obtain ⟨kx, nx, sx, lsx, tsx, lax, lcx, tax, tcx, etx, rfl, hkx, hnx, hsx, hlx, htx, hLx, hTx⟩ := hx.inv
  refine Runs.of_W (vs := [_, _]) Try.func7 rfl rfl ?_
  refine W.seqK fun K1 hK1 => ?_
  refine W.region ?_
  refine Rg.od rfl rfl rfl (OpT.box rfl fun w2 g2 e2 x2 z2 b2 => ?_)
  replace b2 : Box w2 g2 [.int .u8 kf, .int .i64 nf, .string sf, .slice laf lsf.length lcf, .slice taf tsf.length tcf] := b2
  refine Rg.od rfl rfl rfl (OpT.box rfl fun w3 g3 e3 x3 z3 b3 => ?_)
  replace b3 : Box w3 g3 [.int .u8 kx, .int .i64 nx, .string sx, .slice lax lsx.length lcx, .slice tax tsx.length tcx] := b3
  refine Rg.od rfl rfl rfl (OpT.alloc Try.zeroValue26 fun w4 g4 e4 x4 z4 b4 => ?_)
  replace b4 : Box w4 g4 [.int .u8 0, .int .i64 0, .string (⟨#[]⟩ : ByteArray), .slice none 0 0, .slice none 0 0] := b4
  refine Rg.nil ?_
  refine hK1 _ _ ?_
  refine W.seqK fun K5 hK5 => ?_
  refine W.region ?_
  refine Rg.od rfl rfl rfl (OpT.loadAB Try.isAgg26 Try.sizeOf26 rfl (b2.ext (x3.trans x4)) rfl ?_)
  refine Rg.od rfl rfl rfl (OpT.loadAB Try.isAgg26 Try.sizeOf26 rfl (b3.ext x4) rfl ?_)
  refine Rg.od rfl rfl rfl (OpT.buildSlice (cs := #[.int .u8 kf, .int .i64 nf, .string sf, .slice laf lsf.length lcf, .slice taf tsf.length tcf, .int .u8 kx, .int .i64 nx, .string sx, .slice lax lsx.length lcx, .slice tax tsx.length tcx]) (.cons rfl (.cons rfl .nil)) Try.underlying24 Try.sizeOf26 Try.zeroValue26 rfl (by kernel_rfl) fun w6 g6 e6 x6 z6 b6 => ?_)
  replace b6 : Box w6 g6 [.int .u8 kf, .int .i64 nf, .string sf, .slice laf lsf.length lcf, .slice taf tsf.length tcf, .int .u8 kx, .int .i64 nx, .string sx, .slice lax lsx.length lcx, .slice tax tsx.length tcx] := b6
  refine Rg.od rfl rfl rfl (OpT.build (cs := #[.int .u8 5, .int .i64 0, .string (⟨#[]⟩ : ByteArray), .slice none 0 0, .slice (some ⟨g6, 0, none⟩) 2 2]) (.cons rfl (.cons rfl .nil)) Try.zeroValue26 places26.choose_spec.1 places26.choose_spec.2 (by kernel_rfl) ?_)
  refine Rg.on rfl rfl (OpT.storeA Try.sizeOf26 rfl rfl rfl rfl (b4.ext x6) rfl fun w7 m7 z7 b7 => ?_)
  replace b7 : Box w7 g4 [.int .u8 5, .int .i64 0, .string (⟨#[]⟩ : ByteArray), .slice none 0 0, .slice (some ⟨g6, 0, none⟩) 2 2] := b7
  refine Rg.nil ?_
  refine hK5 _ _ ?_
  refine W.ret ?_
  refine ⟨_, Res.cellA rfl rfl Try.isAgg26 Try.sizeOf26 rfl b7, ?_⟩
  exact ⟨_, rfl, VT.intro (w := w7) (R := R) (k := 5) (n := 0) (s := (⟨#[]⟩ : ByteArray)) (la := none) (lc := 0) (ta := (some ⟨g6, 0, none⟩)) (tc := 2) (ls := []) (ts := [f, x]) (by omega) (by unfold i64ok at *; omega) (by first | assumption | decide) ⟨Nat.le_refl 0, by decide⟩ (by unfold lenOk at *; simp only [List.length_cons, List.length_nil]; omega) (SlL.nil _ _ _) (SlT.box2 (c1 := [.int .u8 kf, .int .i64 nf, .string sf, .slice laf lsf.length lcf, .slice taf tsf.length tcf]) (c2 := [.int .u8 kx, .int .i64 nx, .string sx, .slice lax lsx.length lcx, .slice tax tsx.length tcx]) (b6.upd m7 (by have h1 := Nat.le_refl w4.heap.size; omega)) (hR _ (by have h1 := Nat.le_trans (Nat.le_trans (Nat.le_trans (Nat.le_refl w0.heap.size) x2.size) x3.size) x4.size; omega)) (hf.ext ((((x2.trans x3).trans x4).trans x6).upd m7 (by have h1 := (x2.trans x3).size; omega))) (hx.ext ((((x2.trans x3).trans x4).trans x6).upd m7 (by have h1 := (x2.trans x3).size; omega)))), ((((x2.trans x3).trans x4).trans x6).upd m7 (by have h1 := (x2.trans x3).size; omega))⟩
set_option maxHeartbeats 1000000 in
set_option maxRecDepth 20000 in
theorem lP_runs (f x : T) (cf cx : List Value) (w0 : World) (R : Nat → Prop) (hR : ∀ k, w0.heap.size ≤ k → R k) (hf : VT w0 R cf f) (hx : VT w0 R cx x) : Runs Try.prog 20 #[.agg cf.toArray, .agg cx.toArray] w0 fun v w' => ∃ cs, v = .agg cs.toArray ∧ VT w' R cs (tP f x) ∧ Ext w0 w' := by
  obtain ⟨kf, nf, sf, lsf, tsf, laf, lcf, taf, tcf, etf, rfl, hkf, hnf, hsf, hlf, htf, hLf, hTf⟩ := hf.inv
  obtain ⟨kx, nx, sx, lsx, tsx, lax, lcx, tax, tcx, etx, rfl, hkx, hnx, hsx, hlx, htx, hLx, hTx⟩ := hx.inv
  refine Runs.of_W (vs := [_, _]) Try.func20 rfl rfl ?_
  refine W.seqK fun K1 hK1 => ?_
  refine W.region ?_
  refine Rg.od rfl rfl rfl (OpT.box rfl fun w2 g2 e2 x2 z2 b2 => ?_)
  replace b2 : Box w2 g2 [.int .u8 kf, .int .i64 nf, .string sf, .slice laf lsf.length lcf, .slice taf tsf.length tcf] := b2
  refine Rg.od rfl rfl rfl (OpT.box rfl fun w3 g3 e3 x3 z3 b3 => ?_)
  replace b3 : Box w3 g3 [.int .u8 kx, .int .i64 nx, .string sx, .slice lax lsx.length lcx, .slice tax tsx.length tcx] := b3
  refine Rg.od rfl rfl rfl (OpT.alloc Try.zeroValue26 fun w4 g4 e4 x4 z4 b4 => ?_)
  replace b4 : Box w4 g4 [.int .u8 0, .int .i64 0, .string (⟨#[]⟩ : ByteArray), .slice none 0 0, .slice none 0 0] := b4
  refine Rg.nil ?_
  refine hK1 _ _ ?_
  refine W.seqK fun K5 hK5 => ?_
  refine W.region ?_
  refine Rg.od rfl rfl rfl (OpT.loadAB Try.isAgg26 Try.sizeOf26 rfl (b2.ext (x3.trans x4)) rfl ?_)
  refine Rg.od rfl rfl rfl (OpT.loadAB Try.isAgg26 Try.sizeOf26 rfl (b3.ext x4) rfl ?_)
  refine Rg.od rfl rfl rfl (OpT.buildSlice (cs := #[.int .u8 kf, .int .i64 nf, .string sf, .slice laf lsf.length lcf, .slice taf tsf.length tcf, .int .u8 kx, .int .i64 nx, .string sx, .slice lax lsx.length lcx, .slice tax tsx.length tcx]) (.cons rfl (.cons rfl .nil)) Try.underlying24 Try.sizeOf26 Try.zeroValue26 rfl (by kernel_rfl) fun w6 g6 e6 x6 z6 b6 => ?_)
  replace b6 : Box w6 g6 [.int .u8 kf, .int .i64 nf, .string sf, .slice laf lsf.length lcf, .slice taf tsf.length tcf, .int .u8 kx, .int .i64 nx, .string sx, .slice lax lsx.length lcx, .slice tax tsx.length tcx] := b6
  refine Rg.od rfl rfl rfl (OpT.build (cs := #[.int .u8 6, .int .i64 0, .string (⟨#[]⟩ : ByteArray), .slice none 0 0, .slice (some ⟨g6, 0, none⟩) 2 2]) (.cons rfl (.cons rfl .nil)) Try.zeroValue26 places26.choose_spec.1 places26.choose_spec.2 (by kernel_rfl) ?_)
  refine Rg.on rfl rfl (OpT.storeA Try.sizeOf26 rfl rfl rfl rfl (b4.ext x6) rfl fun w7 m7 z7 b7 => ?_)
  replace b7 : Box w7 g4 [.int .u8 6, .int .i64 0, .string (⟨#[]⟩ : ByteArray), .slice none 0 0, .slice (some ⟨g6, 0, none⟩) 2 2] := b7
  refine Rg.nil ?_
  refine hK5 _ _ ?_
  refine W.ret ?_
  refine ⟨_, Res.cellA rfl rfl Try.isAgg26 Try.sizeOf26 rfl b7, ?_⟩
  exact ⟨_, rfl, VT.intro (w := w7) (R := R) (k := 6) (n := 0) (s := (⟨#[]⟩ : ByteArray)) (la := none) (lc := 0) (ta := (some ⟨g6, 0, none⟩)) (tc := 2) (ls := []) (ts := [f, x]) (by omega) (by unfold i64ok at *; omega) (by first | assumption | decide) ⟨Nat.le_refl 0, by decide⟩ (by unfold lenOk at *; simp only [List.length_cons, List.length_nil]; omega) (SlL.nil _ _ _) (SlT.box2 (c1 := [.int .u8 kf, .int .i64 nf, .string sf, .slice laf lsf.length lcf, .slice taf tsf.length tcf]) (c2 := [.int .u8 kx, .int .i64 nx, .string sx, .slice lax lsx.length lcx, .slice tax tsx.length tcx]) (b6.upd m7 (by have h1 := Nat.le_refl w4.heap.size; omega)) (hR _ (by have h1 := Nat.le_trans (Nat.le_trans (Nat.le_trans (Nat.le_refl w0.heap.size) x2.size) x3.size) x4.size; omega)) (hf.ext ((((x2.trans x3).trans x4).trans x6).upd m7 (by have h1 := (x2.trans x3).size; omega))) (hx.ext ((((x2.trans x3).trans x4).trans x6).upd m7 (by have h1 := (x2.trans x3).size; omega)))), ((((x2.trans x3).trans x4).trans x6).upd m7 (by have h1 := (x2.trans x3).size; omega))⟩
set_option maxHeartbeats 1000000 in
set_option maxRecDepth 20000 in
theorem rApp_runs (f x : T) (cf cx : List Value) (w0 : World) (R : Nat → Prop) (hR : ∀ k, w0.heap.size ≤ k → R k) (hf : VT w0 R cf f) (hx : VT w0 R cx x) : Runs Try.prog 32 #[.agg cf.toArray, .agg cx.toArray] w0 fun v w' => ∃ cs, v = .agg cs.toArray ∧ VT w' R cs (tA f x) ∧ Ext w0 w' := by
  obtain ⟨kf, nf, sf, lsf, tsf, laf, lcf, taf, tcf, etf, rfl, hkf, hnf, hsf, hlf, htf, hLf, hTf⟩ := hf.inv
  obtain ⟨kx, nx, sx, lsx, tsx, lax, lcx, tax, tcx, etx, rfl, hkx, hnx, hsx, hlx, htx, hLx, hTx⟩ := hx.inv
  refine Runs.of_W (vs := [_, _]) Try.func32 rfl rfl ?_
  refine W.seqK fun K1 hK1 => ?_
  refine W.region ?_
  refine Rg.od rfl rfl rfl (OpT.box rfl fun w2 g2 e2 x2 z2 b2 => ?_)
  replace b2 : Box w2 g2 [.int .u8 kf, .int .i64 nf, .string sf, .slice laf lsf.length lcf, .slice taf tsf.length tcf] := b2
  refine Rg.od rfl rfl rfl (OpT.box rfl fun w3 g3 e3 x3 z3 b3 => ?_)
  replace b3 : Box w3 g3 [.int .u8 kx, .int .i64 nx, .string sx, .slice lax lsx.length lcx, .slice tax tsx.length tcx] := b3
  refine Rg.od rfl rfl rfl (OpT.alloc Try.zeroValue26 fun w4 g4 e4 x4 z4 b4 => ?_)
  replace b4 : Box w4 g4 [.int .u8 0, .int .i64 0, .string (⟨#[]⟩ : ByteArray), .slice none 0 0, .slice none 0 0] := b4
  refine Rg.nil ?_
  refine hK1 _ _ ?_
  refine W.seqK fun K5 hK5 => ?_
  refine W.region ?_
  refine Rg.od rfl rfl rfl (OpT.loadAB Try.isAgg26 Try.sizeOf26 rfl (b2.ext (x3.trans x4)) rfl ?_)
  refine Rg.od rfl rfl rfl (OpT.loadAB Try.isAgg26 Try.sizeOf26 rfl (b3.ext x4) rfl ?_)
  refine Rg.od rfl rfl rfl (OpT.buildSlice (cs := #[.int .u8 kf, .int .i64 nf, .string sf, .slice laf lsf.length lcf, .slice taf tsf.length tcf, .int .u8 kx, .int .i64 nx, .string sx, .slice lax lsx.length lcx, .slice tax tsx.length tcx]) (.cons rfl (.cons rfl .nil)) Try.underlying24 Try.sizeOf26 Try.zeroValue26 rfl (by kernel_rfl) fun w6 g6 e6 x6 z6 b6 => ?_)
  replace b6 : Box w6 g6 [.int .u8 kf, .int .i64 nf, .string sf, .slice laf lsf.length lcf, .slice taf tsf.length tcf, .int .u8 kx, .int .i64 nx, .string sx, .slice lax lsx.length lcx, .slice tax tsx.length tcx] := b6
  refine Rg.od rfl rfl rfl (OpT.build (cs := #[.int .u8 4, .int .i64 0, .string (⟨#[]⟩ : ByteArray), .slice none 0 0, .slice (some ⟨g6, 0, none⟩) 2 2]) (.cons rfl (.cons rfl .nil)) Try.zeroValue26 places26.choose_spec.1 places26.choose_spec.2 (by kernel_rfl) ?_)
  refine Rg.on rfl rfl (OpT.storeA Try.sizeOf26 rfl rfl rfl rfl (b4.ext x6) rfl fun w7 m7 z7 b7 => ?_)
  replace b7 : Box w7 g4 [.int .u8 4, .int .i64 0, .string (⟨#[]⟩ : ByteArray), .slice none 0 0, .slice (some ⟨g6, 0, none⟩) 2 2] := b7
  refine Rg.nil ?_
  refine hK5 _ _ ?_
  refine W.ret ?_
  refine ⟨_, Res.cellA rfl rfl Try.isAgg26 Try.sizeOf26 rfl b7, ?_⟩
  exact ⟨_, rfl, VT.intro (w := w7) (R := R) (k := 4) (n := 0) (s := (⟨#[]⟩ : ByteArray)) (la := none) (lc := 0) (ta := (some ⟨g6, 0, none⟩)) (tc := 2) (ls := []) (ts := [f, x]) (by omega) (by unfold i64ok at *; omega) (by first | assumption | decide) ⟨Nat.le_refl 0, by decide⟩ (by unfold lenOk at *; simp only [List.length_cons, List.length_nil]; omega) (SlL.nil _ _ _) (SlT.box2 (c1 := [.int .u8 kf, .int .i64 nf, .string sf, .slice laf lsf.length lcf, .slice taf tsf.length tcf]) (c2 := [.int .u8 kx, .int .i64 nx, .string sx, .slice lax lsx.length lcx, .slice tax tsx.length tcx]) (b6.upd m7 (by have h1 := Nat.le_refl w4.heap.size; omega)) (hR _ (by have h1 := Nat.le_trans (Nat.le_trans (Nat.le_trans (Nat.le_refl w0.heap.size) x2.size) x3.size) x4.size; omega)) (hf.ext ((((x2.trans x3).trans x4).trans x6).upd m7 (by have h1 := (x2.trans x3).size; omega))) (hx.ext ((((x2.trans x3).trans x4).trans x6).upd m7 (by have h1 := (x2.trans x3).size; omega)))), ((((x2.trans x3).trans x4).trans x6).upd m7 (by have h1 := (x2.trans x3).size; omega))⟩
set_option maxHeartbeats 1000000 in
set_option maxRecDepth 20000 in
theorem may_runs (t : T) (cs : List Value) (w0 : World) (R : Nat → Prop) (hv : VT w0 R cs t) : Runs Try.prog 8 #[.agg cs.toArray] w0 fun v w' => v = .bool (mayT t) ∧ Ext w0 w' := by
  obtain ⟨k, n, s, ls, ts, la, lc, ta, tc, rfl, rfl, hk, hn, hs, hl, ht, hL, hT⟩ := hv.inv
  have hvs := hv.small
  refine Runs.of_W (vs := [_]) Try.func8 rfl rfl ?_
  refine W.seqK fun K1 hK1 => ?_
  refine W.region ?_
  refine Rg.od rfl rfl rfl (OpT.box rfl fun w2 g2 e2 x2 z2 b2 => ?_)
  replace b2 : Box w2 g2 [.int .u8 k, .int .i64 n, .string s, .slice la ls.length lc, .slice ta ts.length tc] := b2
  refine Rg.od rfl rfl rfl (OpT.assign rfl ?_)
  refine Rg.nil ?_
  refine hK1 _ _ ?_
  refine W.seqK fun K3 hK3 => ?_
  refine W.region ?_
  refine Rg.od rfl rfl rfl (OpT.alloc Try.zeroValue3 fun w4 g4 e4 x4 z4 b4 => ?_)
  replace b4 : Box w4 g4 [.int .i64 0] := b4
  refine Rg.on rfl rfl (OpT.store Try.sizeOf3 rfl rfl rfl b4 rfl fun w5 m5 z5 b5 => ?_)
  replace b5 : Box w5 g4 [.int .i64 65536] := b5
  refine Rg.nil ?_
  refine hK3 _ _ ?_
  refine W.seqK fun K6 hK6 => ?_
  refine W.region ?_
  refine Rg.od rfl rfl rfl (OpT.alloc Try.zeroValue48 fun w7 g7 e7 x7 z7 b7 => ?_)
  replace b7 : Box w7 g7 [.nilFunc] := b7
  refine Rg.nil ?_
  refine hK6 _ _ ?_
  refine W.seqK fun K8 hK8 => ?_
  refine W.region ?_
  refine Rg.od rfl rfl rfl (OpT.makeFunc .nil (.cons rfl (.cons rfl .nil)) ?_)
  refine Rg.on rfl rfl (OpT.store Try.sizeOf48 rfl rfl rfl b7 rfl fun w9 m9 z9 b9 => ?_)
  replace b9 : Box w9 g7 [.func (.func 24) #[] #[.pointer (some ⟨g4, 0, none⟩), .pointer (some ⟨g7, 0, none⟩)]] := b9
  refine Rg.nil ?_
  refine hK8 _ _ ?_
  refine W.seqK fun K10 hK10 => ?_
  refine W.region ?_
  refine Rg.od rfl rfl rfl (OpT.loadB Try.isAgg48 rfl b9 rfl ?_)
  refine Rg.od rfl rfl rfl (OpT.loadAB Try.isAgg26 Try.sizeOf26 rfl ((((b2.ext x4).upd m5 (by have h1 := Nat.le_refl w2.heap.size; omega)).ext x7).upd m9 (by have h1 := Nat.le_trans (Nat.le_trans (Nat.le_refl w2.heap.size) x4.size) m5.size; omega)) rfl ?_)
  refine Rg.od rfl rfl rfl (OpT.callV Try.call24 rfl (.cons rfl (.cons rfl .nil)) (Runs.mono (may1_runs _ _ _ _ _ (hvs.ext ((((x2.trans x4).upd m5 (by have h1 := x2.size; omega)).trans x7).upd m9 (by have h1 := ((x2.trans x4).upd m5 (by have h1 := x2.size; omega)).size; omega))) _ (by omega) g4 g7 ((b5.ext x7).upd m9 (by have h1 := Nat.le_trans (Nat.le_refl w4.heap.size) m5.size; omega)) b9 (by have h1 := Nat.le_trans (Nat.le_refl w4.heap.size) m5.size; omega) (fun h => by have h2 := h.2; have h1 := Nat.le_trans (Nat.le_refl w0.heap.size) x2.size; omega) (fun h => by have h2 := h.2; have h1 := Nat.le_trans (Nat.le_trans (Nat.le_trans (Nat.le_refl w0.heap.size) x2.size) x4.size) m5.size; omega)) ?_))
  rintro _ w11 ⟨lf11, rfl, b11, x11, _, _⟩
  refine Rg.od rfl rfl rfl (OpT.assign rfl ?_)
  refine Rg.nil ?_
  refine hK10 _ _ ?_
  refine W.ret ?_
  refine ⟨_, Res.one rfl rfl, ?_⟩
  exact ⟨congrArg Value.bool (mayF_T _), (((((x2.trans x4).upd m5 (by have h1 := x2.size; omega)).trans x7).upd m9 (by have h1 := ((x2.trans x4).upd m5 (by have h1 := x2.size; omega)).size; omega)).upd x11 (by have h1 := x2.size; omega))⟩
set_option maxHeartbeats 1000000 in
set_option maxRecDepth 20000 in
theorem binds_runs (k n : Int) (s : ByteArray) (ls : List L) (ts : List T) (i : Nat) (cs : List Value) (w0 : World) (R : Nat → Prop) (hv : VT w0 R cs (.mk k n s ls ts)) : Runs Try.prog 48 #[.agg cs.toArray, .int .i64 ((i : Nat) : Int)] w0 fun v w' => v = .int .i64 (binds k i) ∧ Ext w0 w' := by
  obtain ⟨k', n', s', ls', ts', la, lc, ta, tc, e1, rfl, hk, hn, hs, hl, ht, hL, hT⟩ := hv.inv
  cases e1
  refine Runs.of_W (vs := [_, _]) Try.func48 rfl rfl ?_
  refine W.seqK fun K1 hK1 => ?_
  refine W.region ?_
  refine Rg.od rfl rfl rfl (OpT.box rfl fun w2 g2 e2 x2 z2 b2 => ?_)
  replace b2 : Box w2 g2 [.int .u8 k, .int .i64 n, .string s, .slice la ls.length lc, .slice ta ts.length tc] := b2
  refine Rg.od rfl rfl rfl (OpT.assign rfl ?_)
  refine Rg.nil ?_
  refine hK1 _ _ ?_
  refine W.seqK fun K3 hK3 => ?_
  refine W.block ?_
  refine W.seqK fun K4 hK4 => ?_
  refine W.seqK fun K5 hK5 => ?_
  refine W.region ?_
  refine Rg.od rfl rfl rfl (OpT.fieldAddrB (off := 0) Try.underlying26 rfl Try.sizeOf5 rfl rfl ?_)
  refine Rg.od rfl rfl rfl (OpT.loadB Try.isAgg5 rfl b2 rfl ?_)
  refine Rg.od rfl rfl rfl (OpT.eqlI rfl rfl ?_)
  refine Rg.od rfl rfl rfl (OpT.move rfl ?_)
  rcases Bool.eq_false_or_eq_true (decide (k = 5)) with hb6 | hb6
  · have hp6 := of_decide_eq_true hb6
    refine Rg.gn rfl rfl rfl rfl hb6 ?_
    refine Rg.gn rfl rfl rfl rfl hb6 ?_
    refine Rg.gn rfl rfl rfl rfl hb6 ?_
    refine Rg.od rfl rfl rfl (OpT.pickT rfl hb6 rfl ?_)
    refine Rg.od rfl rfl rfl (OpT.move rfl ?_)
    refine Rg.gy rfl rfl rfl rfl rfl (OpT.move rfl ?_)
    refine Rg.gy rfl rfl rfl rfl rfl (OpT.eqlI rfl rfl ?_)
    refine Rg.od rfl rfl rfl (OpT.pickT rfl rfl rfl ?_)
    refine Rg.od rfl rfl rfl (OpT.assign rfl ?_)
    refine Rg.nil ?_
    refine hK5 _ _ ?_
    rcases Bool.eq_false_or_eq_true (decide (((i : Nat) : Int) = 1)) with hb7 | hb7
    · have hp7 := of_decide_eq_true hb7
      refine W.condTb rfl hb7 ?_
      refine W.skip ?_
      refine hK4 _ _ ?_
      refine W.condTb rfl hb7 ?_
      refine W.seqK fun K8 hK8 => ?_
      refine W.region ?_
      refine Rg.od rfl rfl rfl (OpT.assign rfl ?_)
      refine Rg.nil ?_
      refine hK8 _ _ ?_
      refine W.ret ?_
      refine ⟨_, Res.one rfl rfl, ?_⟩
      refine ⟨congrArg (Value.int .i64) ?_, x2⟩
      clear hv hL hT hl ht hs hn
      unfold binds
      (repeat' split) <;> first | rfl | (exfalso; omega)
    · have hp7 := of_decide_eq_false hb7
      refine W.condFb rfl hb7 ?_
      refine W.region ?_
      refine Rg.od rfl rfl rfl (OpT.fieldAddrB (off := 0) Try.underlying26 rfl Try.sizeOf5 rfl rfl ?_)
      refine Rg.od rfl rfl rfl (OpT.loadB Try.isAgg5 rfl b2 rfl ?_)
      refine Rg.od rfl rfl rfl (OpT.eqlI rfl rfl ?_)
      refine Rg.od rfl rfl rfl (OpT.move rfl ?_)
      rcases Bool.eq_false_or_eq_true (decide (k = 7)) with hb9 | hb9
      · have hp9 := of_decide_eq_true hb9
        refine Rg.gy rfl rfl rfl rfl hb9 (OpT.move rfl ?_)
        refine Rg.gy rfl rfl rfl rfl hb9 (OpT.eqlI rfl rfl ?_)
        refine Rg.od rfl rfl rfl (OpT.pickT rfl hb9 rfl ?_)
        refine Rg.od rfl rfl rfl (OpT.assign rfl ?_)
        refine Rg.nil ?_
        refine hK4 _ _ ?_
        rcases Bool.eq_false_or_eq_true (decide (((i : Nat) : Int) = 2)) with hb10 | hb10
        · have hp10 := of_decide_eq_true hb10
          refine W.condTb rfl hb10 ?_
          refine W.seqK fun K11 hK11 => ?_
          refine W.region ?_
          refine Rg.od rfl rfl rfl (OpT.assign rfl ?_)
          refine Rg.nil ?_
          refine hK11 _ _ ?_
          refine W.ret ?_
          refine ⟨_, Res.one rfl rfl, ?_⟩
          refine ⟨congrArg (Value.int .i64) ?_, x2⟩
          clear hv hL hT hl ht hs hn
          unfold binds
          (repeat' split) <;> first | rfl | (exfalso; omega)
        · have hp10 := of_decide_eq_false hb10
          refine W.condFb rfl hb10 ?_
          refine W.skip ?_
          refine hK3 _ _ ?_
          refine W.seqK fun K12 hK12 => ?_
          refine W.region ?_
          refine Rg.od rfl rfl rfl (OpT.assign rfl ?_)
          refine Rg.nil ?_
          refine hK12 _ _ ?_
          refine W.ret ?_
          refine ⟨_, Res.one rfl rfl, ?_⟩
          refine ⟨congrArg (Value.int .i64) ?_, x2⟩
          clear hv hL hT hl ht hs hn
          unfold binds
          (repeat' split) <;> first | rfl | (exfalso; omega)
      · have hp9 := of_decide_eq_false hb9
        refine Rg.gn rfl rfl rfl rfl hb9 ?_
        refine Rg.gn rfl rfl rfl rfl hb9 ?_
        refine Rg.od rfl rfl rfl (OpT.pickF rfl hb9 rfl ?_)
        refine Rg.od rfl rfl rfl (OpT.assign rfl ?_)
        refine Rg.nil ?_
        refine hK4 _ _ ?_
        refine W.condFb rfl rfl ?_
        refine W.skip ?_
        refine hK3 _ _ ?_
        refine W.seqK fun K13 hK13 => ?_
        refine W.region ?_
        refine Rg.od rfl rfl rfl (OpT.assign rfl ?_)
        refine Rg.nil ?_
        refine hK13 _ _ ?_
        refine W.ret ?_
        refine ⟨_, Res.one rfl rfl, ?_⟩
        refine ⟨congrArg (Value.int .i64) ?_, x2⟩
        clear hv hL hT hl ht hs hn
        unfold binds
        (repeat' split) <;> first | rfl | (exfalso; omega)
  · have hp6 := of_decide_eq_false hb6
    refine Rg.gy rfl rfl rfl rfl hb6 (OpT.fieldAddrB (off := 0) Try.underlying26 rfl Try.sizeOf5 rfl rfl ?_)
    refine Rg.gy rfl rfl rfl rfl hb6 (OpT.loadB Try.isAgg5 rfl b2 rfl ?_)
    refine Rg.gy rfl rfl rfl rfl hb6 (OpT.eqlI rfl rfl ?_)
    refine Rg.od rfl rfl rfl (OpT.pickF rfl hb6 rfl ?_)
    refine Rg.od rfl rfl rfl (OpT.move rfl ?_)
    rcases Bool.eq_false_or_eq_true (decide (k = 6)) with hb14 | hb14
    · have hp14 := of_decide_eq_true hb14
      refine Rg.gy rfl rfl rfl rfl hb14 (OpT.move rfl ?_)
      refine Rg.gy rfl rfl rfl rfl hb14 (OpT.eqlI rfl rfl ?_)
      refine Rg.od rfl rfl rfl (OpT.pickT rfl hb14 rfl ?_)
      refine Rg.od rfl rfl rfl (OpT.assign rfl ?_)
      refine Rg.nil ?_
      refine hK5 _ _ ?_
      rcases Bool.eq_false_or_eq_true (decide (((i : Nat) : Int) = 1)) with hb15 | hb15
      · have hp15 := of_decide_eq_true hb15
        refine W.condTb rfl hb15 ?_
        refine W.skip ?_
        refine hK4 _ _ ?_
        refine W.condTb rfl hb15 ?_
        refine W.seqK fun K16 hK16 => ?_
        refine W.region ?_
        refine Rg.od rfl rfl rfl (OpT.assign rfl ?_)
        refine Rg.nil ?_
        refine hK16 _ _ ?_
        refine W.ret ?_
        refine ⟨_, Res.one rfl rfl, ?_⟩
        refine ⟨congrArg (Value.int .i64) ?_, x2⟩
        clear hv hL hT hl ht hs hn
        unfold binds
        (repeat' split) <;> first | rfl | (exfalso; omega)
      · have hp15 := of_decide_eq_false hb15
        refine W.condFb rfl hb15 ?_
        refine W.region ?_
        refine Rg.od rfl rfl rfl (OpT.fieldAddrB (off := 0) Try.underlying26 rfl Try.sizeOf5 rfl rfl ?_)
        refine Rg.od rfl rfl rfl (OpT.loadB Try.isAgg5 rfl b2 rfl ?_)
        refine Rg.od rfl rfl rfl (OpT.eqlI rfl rfl ?_)
        refine Rg.od rfl rfl rfl (OpT.move rfl ?_)
        rcases Bool.eq_false_or_eq_true (decide (k = 7)) with hb17 | hb17
        · have hp17 := of_decide_eq_true hb17
          refine Rg.gy rfl rfl rfl rfl hb17 (OpT.move rfl ?_)
          refine Rg.gy rfl rfl rfl rfl hb17 (OpT.eqlI rfl rfl ?_)
          refine Rg.od rfl rfl rfl (OpT.pickT rfl hb17 rfl ?_)
          refine Rg.od rfl rfl rfl (OpT.assign rfl ?_)
          refine Rg.nil ?_
          refine hK4 _ _ ?_
          rcases Bool.eq_false_or_eq_true (decide (((i : Nat) : Int) = 2)) with hb18 | hb18
          · have hp18 := of_decide_eq_true hb18
            refine W.condTb rfl hb18 ?_
            refine W.seqK fun K19 hK19 => ?_
            refine W.region ?_
            refine Rg.od rfl rfl rfl (OpT.assign rfl ?_)
            refine Rg.nil ?_
            refine hK19 _ _ ?_
            refine W.ret ?_
            refine ⟨_, Res.one rfl rfl, ?_⟩
            refine ⟨congrArg (Value.int .i64) ?_, x2⟩
            clear hv hL hT hl ht hs hn
            unfold binds
            (repeat' split) <;> first | rfl | (exfalso; omega)
          · have hp18 := of_decide_eq_false hb18
            refine W.condFb rfl hb18 ?_
            refine W.skip ?_
            refine hK3 _ _ ?_
            refine W.seqK fun K20 hK20 => ?_
            refine W.region ?_
            refine Rg.od rfl rfl rfl (OpT.assign rfl ?_)
            refine Rg.nil ?_
            refine hK20 _ _ ?_
            refine W.ret ?_
            refine ⟨_, Res.one rfl rfl, ?_⟩
            refine ⟨congrArg (Value.int .i64) ?_, x2⟩
            clear hv hL hT hl ht hs hn
            unfold binds
            (repeat' split) <;> first | rfl | (exfalso; omega)
        · have hp17 := of_decide_eq_false hb17
          refine Rg.gn rfl rfl rfl rfl hb17 ?_
          refine Rg.gn rfl rfl rfl rfl hb17 ?_
          refine Rg.od rfl rfl rfl (OpT.pickF rfl hb17 rfl ?_)
          refine Rg.od rfl rfl rfl (OpT.assign rfl ?_)
          refine Rg.nil ?_
          refine hK4 _ _ ?_
          refine W.condFb rfl rfl ?_
          refine W.skip ?_
          refine hK3 _ _ ?_
          refine W.seqK fun K21 hK21 => ?_
          refine W.region ?_
          refine Rg.od rfl rfl rfl (OpT.assign rfl ?_)
          refine Rg.nil ?_
          refine hK21 _ _ ?_
          refine W.ret ?_
          refine ⟨_, Res.one rfl rfl, ?_⟩
          refine ⟨congrArg (Value.int .i64) ?_, x2⟩
          clear hv hL hT hl ht hs hn
          unfold binds
          (repeat' split) <;> first | rfl | (exfalso; omega)
    · have hp14 := of_decide_eq_false hb14
      refine Rg.gn rfl rfl rfl rfl hb14 ?_
      refine Rg.gn rfl rfl rfl rfl hb14 ?_
      refine Rg.od rfl rfl rfl (OpT.pickF rfl hb14 rfl ?_)
      refine Rg.od rfl rfl rfl (OpT.assign rfl ?_)
      refine Rg.nil ?_
      refine hK5 _ _ ?_
      refine W.condFb rfl rfl ?_
      refine W.region ?_
      refine Rg.od rfl rfl rfl (OpT.fieldAddrB (off := 0) Try.underlying26 rfl Try.sizeOf5 rfl rfl ?_)
      refine Rg.od rfl rfl rfl (OpT.loadB Try.isAgg5 rfl b2 rfl ?_)
      refine Rg.od rfl rfl rfl (OpT.eqlI rfl rfl ?_)
      refine Rg.od rfl rfl rfl (OpT.move rfl ?_)
      rcases Bool.eq_false_or_eq_true (decide (k = 7)) with hb22 | hb22
      · have hp22 := of_decide_eq_true hb22
        refine Rg.gy rfl rfl rfl rfl hb22 (OpT.move rfl ?_)
        refine Rg.gy rfl rfl rfl rfl hb22 (OpT.eqlI rfl rfl ?_)
        refine Rg.od rfl rfl rfl (OpT.pickT rfl hb22 rfl ?_)
        refine Rg.od rfl rfl rfl (OpT.assign rfl ?_)
        refine Rg.nil ?_
        refine hK4 _ _ ?_
        rcases Bool.eq_false_or_eq_true (decide (((i : Nat) : Int) = 2)) with hb23 | hb23
        · have hp23 := of_decide_eq_true hb23
          refine W.condTb rfl hb23 ?_
          refine W.seqK fun K24 hK24 => ?_
          refine W.region ?_
          refine Rg.od rfl rfl rfl (OpT.assign rfl ?_)
          refine Rg.nil ?_
          refine hK24 _ _ ?_
          refine W.ret ?_
          refine ⟨_, Res.one rfl rfl, ?_⟩
          refine ⟨congrArg (Value.int .i64) ?_, x2⟩
          clear hv hL hT hl ht hs hn
          unfold binds
          (repeat' split) <;> first | rfl | (exfalso; omega)
        · have hp23 := of_decide_eq_false hb23
          refine W.condFb rfl hb23 ?_
          refine W.skip ?_
          refine hK3 _ _ ?_
          refine W.seqK fun K25 hK25 => ?_
          refine W.region ?_
          refine Rg.od rfl rfl rfl (OpT.assign rfl ?_)
          refine Rg.nil ?_
          refine hK25 _ _ ?_
          refine W.ret ?_
          refine ⟨_, Res.one rfl rfl, ?_⟩
          refine ⟨congrArg (Value.int .i64) ?_, x2⟩
          clear hv hL hT hl ht hs hn
          unfold binds
          (repeat' split) <;> first | rfl | (exfalso; omega)
      · have hp22 := of_decide_eq_false hb22
        refine Rg.gn rfl rfl rfl rfl hb22 ?_
        refine Rg.gn rfl rfl rfl rfl hb22 ?_
        refine Rg.od rfl rfl rfl (OpT.pickF rfl hb22 rfl ?_)
        refine Rg.od rfl rfl rfl (OpT.assign rfl ?_)
        refine Rg.nil ?_
        refine hK4 _ _ ?_
        refine W.condFb rfl rfl ?_
        refine W.skip ?_
        refine hK3 _ _ ?_
        refine W.seqK fun K26 hK26 => ?_
        refine W.region ?_
        refine Rg.od rfl rfl rfl (OpT.assign rfl ?_)
        refine Rg.nil ?_
        refine hK26 _ _ ?_
        refine W.ret ?_
        refine ⟨_, Res.one rfl rfl, ?_⟩
        refine ⟨congrArg (Value.int .i64) ?_, x2⟩
        clear hv hL hT hl ht hs hn
        unfold binds
        (repeat' split) <;> first | rfl | (exfalso; omega)
set_option maxHeartbeats 1000000 in
set_option maxRecDepth 20000 in
theorem each_runs {σ : Type} (f : Nat) (hf : EntersAt Try.prog f) (cap : Array Value) (g : Nat) (I : σ → World → Prop) (step : T → Int → σ → σ × Bool) (hI : ∀ st w w', Ext w w' → I st w → I st w') (hlt : ∀ st w, I st w → g < w.heap.size)
    (hdo : ∀ (t : T) (cs : List Value) (around : Int) (st : σ) (w : World) (R : Nat → Prop), VT w R cs t → ¬ R g → nodeB t = true → 0 ≤ around → around ≤ 1099511627776 → I st w →
      Runs Try.prog f (#[.agg cs.toArray, .int .i64 around] ++ cap) w fun v w' => v = .bool (step t around st).2 ∧ I (step t around st).1 w' ∧ Upd g w w') (t : T) : ∀ (cs : List Value) (around : Int) (st : σ) (w0 : World) (R : Nat → Prop) (hv : VT w0 R cs t) (off_g : ¬ R g) (hno : nodes t = true) (hb : 0 ≤ around ∧ around + depth t ≤ 1099511627776) (hI0 : I st w0),
    Runs Try.prog 35 #[.agg cs.toArray, .int .i64 around, .func (.func f) #[] cap] w0 fun v w' => v = .bool (eachF step t around st).2 ∧ I (eachF step t around st).1 w' ∧ Upd g w0 w' := by
  induction t using T.ind with
  | h k n s ls ts ih =>
  intro cs around st w0 R hv off_g hno hb hI0
  obtain ⟨k, n, s, ls, ts, la, lc, ta, tc, e1, rfl, hk, hn, hs, hl, ht, hL, hT⟩ := hv.inv
  cases e1
  replace hno := nodes_mk hno
  simp only [depth] at hb
  refine Runs.of_W (vs := [_, _, _]) Try.func35 rfl rfl ?_
  refine W.seqK fun K1 hK1 => ?_
  refine W.region ?_
  refine Rg.od rfl rfl rfl (OpT.box rfl fun w2 g2 e2 x2 z2 b2 => ?_)
  replace b2 : Box w2 g2 [.int .u8 k, .int .i64 n, .string s, .slice la ls.length lc, .slice ta ts.length tc] := b2
  refine Rg.od rfl rfl rfl (OpT.assign rfl ?_)
  refine Rg.nil ?_
  refine hK1 _ _ ?_
  refine W.seqK fun K3 hK3 => ?_
  refine W.seqK fun K4 hK4 => ?_
  refine W.region ?_
  refine Rg.od rfl rfl rfl (OpT.move rfl ?_)
  refine Rg.od rfl rfl rfl (OpT.loadAB Try.isAgg26 Try.sizeOf26 rfl b2 rfl ?_)
  refine Rg.od rfl rfl rfl (OpT.move rfl ?_)
  refine Rg.od rfl rfl rfl (OpT.callV hf rfl (.cons rfl (.cons rfl .nil)) (Runs.mono (hdo (T.mk k n s ls ts) _ around st _ _ (hv.ext x2) off_g hno.1 hb.1 (by omega) (hI _ _ _ x2 hI0)) ?_))
  rintro _ w5 ⟨rfl, hI5, x5⟩
  refine Rg.od rfl rfl rfl (OpT.notB rfl ?_)
  refine Rg.nil ?_
  refine hK4 _ _ ?_
  rcases Bool.eq_false_or_eq_true ((step (T.mk k n s ls ts) around st).2) with hb6 | hb6
  · have hp6 := hb6
    refine W.condFb rfl (nT hb6) ?_
    refine W.skip ?_
    refine hK3 _ _ ?_
    refine W.seqK fun K7 hK7 => ?_
    refine W.seqK fun K8 hK8 => ?_
    refine W.region ?_
    refine Rg.od rfl rfl rfl (OpT.fieldAddrB (off := 4) Try.underlying26 rfl Try.sizeOf24 rfl rfl ?_)
    refine Rg.od rfl rfl rfl (OpT.loadB Try.isAgg24 rfl (b2.upd x5 (by have h1 := Nat.le_refl w0.heap.size; have h2 := hlt _ _ hI0; omega)) rfl ?_)
    refine Rg.od rfl rfl rfl (OpT.lenS Try.underlying24 rfl ?_)
    refine Rg.od rfl rfl rfl (OpT.move rfl ?_)
    refine Rg.nil ?_
    refine hK8 _ _ ?_
    refine W.block ?_
    refine W.loop (σ := Nat) (fun q e w' => Sub [(0, .agg ([.int .u8 k, .int .i64 n, .string s, .slice la ls.length lc, .slice ta ts.length tc].toArray)), (1, .int .i64 around), (2, .func (.func f) #[] cap), (3, .pointer (some ⟨g2, 0, none⟩)), (6, .bool false), (9, .func (.func f) #[] cap), (10, .agg ([.int .u8 k, .int .i64 n, .string s, .slice la ls.length lc, .slice ta ts.length tc].toArray)), (11, .int .i64 around), (12, .bool ((step (T.mk k n s ls ts) around st).2)), (13, .bool (!((step (T.mk k n s ls ts) around st).2))), (14, .pointer (some ⟨g2, 4, none⟩)), (15, .slice ta ts.length tc), (16, .int .i64 ((ts.length : Nat) : Int)), (17, .int .i64 ((q : Nat) : Int))] e ∧ Upd g w5 w' ∧ q ≤ ts.length ∧ (eachsF step k (ts.take q) 0 around (step (T.mk k n s ls ts) around st).1).2 = true ∧ I (eachsF step k (ts.take q) 0 around (step (T.mk k n s ls ts) around st).1).1 w') (fun q => ts.length - q) 0
      ⟨⟨rfl, rfl, rfl, rfl, rfl, rfl, rfl, rfl, rfl, rfl, rfl, rfl, rfl, rfl, trivial⟩, Mod.refl _ _, Nat.zero_le _, by rw [List.take_zero, eachsF], by rw [List.take_zero, eachsF]; exact hI5⟩ ?_
    rintro s9 en9 w9 ⟨hs9, x9, hi9_0, hi9_1, hi9_2⟩
    refine W.sub hs9 ?_
    refine W.seqK fun K10 hK10 => ?_
    refine W.region ?_
    refine Rg.od rfl rfl rfl (OpT.lss rfl rfl ?_)
    refine Rg.nil ?_
    refine hK10 _ _ ?_
    refine W.seqK fun K11 hK11 => ?_
    rcases Bool.eq_false_or_eq_true (decide (((s9 : Nat) : Int) < ((ts.length : Nat) : Int))) with hb12 | hb12
    · have hp12 := of_decide_eq_true hb12
      refine W.condTb rfl hb12 ?_
      refine W.skip ?_
      refine hK11 _ _ ?_
      refine W.seqK fun K13 hK13 => ?_
      refine W.block ?_
      refine W.seqK fun K14 hK14 => ?_
      refine W.region ?_
      refine Rg.od rfl rfl rfl (OpT.move rfl ?_)
      obtain ⟨a15, cs15, ha15, hr15, hw15, hv15⟩ := hT.at (i := s9) (by first | omega | (have h2 := binds_le k s9; omega) | (unfold lenOk at *; omega))
      obtain ⟨k15, n15, s15, ls15, ts15, la15, lc15, ta15, tc15, et15, rfl, hk15, hn15, hs15, hl15, ht15, hL15, hT15⟩ := hv15.inv
      refine Rg.od rfl rfl rfl (OpT.indexAddr Try.underlying24 Try.sizeOf26 rfl rfl ha15 (by first | omega | (have h2 := binds_le k s9; omega) | (unfold lenOk at *; omega)) ?_)
      refine Rg.od rfl rfl rfl (OpT.loadA (cs := [.int .u8 k15, .int .i64 n15, .string s15, .slice la15 ls15.length lc15, .slice ta15 ts15.length tc15]) Try.isAgg26 Try.sizeOf26 rfl (((hw15.ext x2).upd x5 (fun h => off_g (h ▸ (by rw [block_add]; exact hr15)))).upd x9 (fun h => off_g (h ▸ (by rw [block_add]; exact hr15)))) ?_)
      refine Rg.od rfl rfl rfl (OpT.alloc Try.zeroValue26 fun w16 g16 e16 x16 z16 b16 => ?_)
      replace b16 : Box w16 g16 [.int .u8 0, .int .i64 0, .string (⟨#[]⟩ : ByteArray), .slice none 0 0, .slice none 0 0] := b16
      refine Rg.od rfl rfl rfl (OpT.assign rfl ?_)
      refine Rg.on rfl rfl (OpT.storeA Try.sizeOf26 rfl rfl rfl rfl b16 rfl fun w17 m17 z17 b17 => ?_)
      replace b17 : Box w17 g16 [.int .u8 k15, .int .i64 n15, .string s15, .slice la15 ls15.length lc15, .slice ta15 ts15.length tc15] := b17
      refine Rg.nil ?_
      refine hK14 _ _ ?_
      refine W.seqK fun K18 hK18 => ?_
      refine W.drawE 7 [.ex (.agg ([.int .u8 k15, .int .i64 n15, .string s15, .slice la15 ls15.length lc15, .slice ta15 ts15.length tc15].toArray)), .ex (.int .i64 around), .ex (.agg ([.int .u8 k, .int .i64 n, .string s, .slice la ls.length lc, .slice ta ts.length tc].toArray)), .ex (.int .i64 ((s9 : Nat) : Int)), .ex (.int .i64 (binds k s9)), .ex (.int .i64 (around + (binds k s9))), .ex (.func (.func f) #[] cap)] mixed rfl rfl rfl ⟨trivial, trivial, trivial, trivial, trivial, trivial, trivial, trivial⟩ ?_ ?_
      · refine ⟨?_, ?_, ?_, ?_, ?_, ?_, ?_, trivial⟩
        · intro w' hx _
          exact OpT.loadAB Try.isAgg26 Try.sizeOf26 rfl (b17.ext hx) rfl VS.ok
        · intro w' hx _
          exact OpT.move rfl VS.ok
        · intro w' hx _
          exact OpT.loadAB Try.isAgg26 Try.sizeOf26 rfl (((((b2.upd x5 (by have h1 := Nat.le_refl w0.heap.size; have h2 := hlt _ _ hI0; omega)).upd x9 (by have h1 := Nat.le_refl w0.heap.size; have h2 := hlt _ _ hI0; omega)).ext x16).upd m17 (by have h1 := Nat.le_trans (Nat.le_trans (Nat.le_refl w2.heap.size) x5.size) x9.size; omega)).ext hx) rfl VS.ok
        · intro w' hx _
          exact OpT.move rfl VS.ok
        · intro w' hx _
          exact OpT.call Try.call48 (.cons rfl (.cons rfl .nil)) (Runs.mono (binds_runs _ _ _ _ _ _ _ _ _ ((((hv.ext x2).upd x5 off_g).upd x9 off_g).ext ((x16.upd m17 (by omega)).trans hx))) fun v w h => VS.okx h.1 h.2)
        · intro w' hx _
          exact OpT.add rfl rfl (by first | omega | (have h2 := binds_le k s9; omega) | (unfold lenOk at *; omega)) VS.ok
        · intro w' hx _
          exact OpT.move rfl VS.ok
      · intro w19 x19
        refine ⟨rfl, rfl, OpT.call Try.call35 (.cons rfl (.cons rfl (.cons rfl .nil))) (Runs.mono (ih _ (List.getElem_mem (by omega)) _ _ _ _ _ ((((hv15.ext x2).upd x5 off_g).upd x9 off_g).ext ((x16.upd m17 (by omega)).trans x19)) off_g (nodess_at hno.2 s9 (by omega)) (by have h1 := depths_le ts s9 (by omega); have h2 := binds_le k s9; omega) (hI _ _ _ ((x16.upd m17 (by omega)).trans x19) hi9_2)) ?_)⟩
        rintro _ w27 ⟨rfl, hI27, x27⟩
        have hst27 := eachsF_take step k ts s9 (by omega) around (step (T.mk k n s ls ts) around st).1 hi9_1
        refine ⟨rfl, rfl, OpT.notB rfl ?_⟩
        refine hK18 _ _ ?_
        rcases Bool.eq_false_or_eq_true ((eachF step ts[s9] (around + binds k s9) (eachsF step k (ts.take s9) 0 around (step (T.mk k n s ls ts) around st).1).1).2) with hb28 | hb28
        · have hp28 := hb28
          refine W.condFb rfl (nT hb28) ?_
          refine W.skip ?_
          refine hK13 _ _ ?_
          refine W.region ?_
          refine Rg.od rfl rfl rfl (OpT.add rfl rfl (by first | omega | (have h2 := binds_le k s9; omega) | (unfold lenOk at *; omega)) ?_)
          refine Rg.od rfl rfl rfl (OpT.move rfl ?_)
          refine Rg.nil ?_
          exact ⟨s9 + 1, ⟨⟨rfl, rfl, rfl, rfl, rfl, rfl, rfl, rfl, rfl, rfl, rfl, rfl, rfl, rfl, trivial⟩, ((x9.ext ((x16.upd m17 (by omega)).trans x19)).trans x27), by omega, by rw [hst27]; exact hb28, by rw [hst27]; exact hI27⟩, by omega⟩
        · have hp28 := hb28
          refine W.condTb rfl (nF hb28) ?_
          refine W.seqK fun K29 hK29 => ?_
          refine W.region ?_
          refine Rg.od rfl rfl rfl (OpT.assign rfl ?_)
          refine Rg.nil ?_
          refine hK29 _ _ ?_
          refine W.ret ?_
          refine ⟨_, Res.one rfl rfl, ?_⟩
          rw [eachF_mk]
          rw [if_pos hb6]
          have hfin := eachsF_stop step k ts (s9 + 1) around (step (T.mk k n s ls ts) around st).1 (by rw [hst27]; exact hb28)
          rw [hfin, hst27]
          exact ⟨congrArg Value.bool hb28.symm, hI27, ((((x2.toUpd.trans x5).trans x9).ext ((x16.upd m17 (by omega)).trans x19)).trans x27)⟩
    · have hp12 := of_decide_eq_false hb12
      refine W.condFb rfl hb12 ?_
      refine W.exit ?_
      refine hK7 _ _ ?_
      refine W.seqK fun K30 hK30 => ?_
      refine W.region ?_
      refine Rg.od rfl rfl rfl (OpT.assign rfl ?_)
      refine Rg.nil ?_
      refine hK30 _ _ ?_
      refine W.ret ?_
      refine ⟨_, Res.one rfl rfl, ?_⟩
      rw [eachF_mk]
      have hq : s9 = ts.length := by omega
      have hE := hi9_2
      have hh := hi9_1
      rw [hq, List.take_length] at hE hh
      rw [if_pos hb6]
      exact ⟨congrArg Value.bool hh.symm, hE, ((x2.toUpd.trans x5).trans x9)⟩
  · have hp6 := hb6
    refine W.condTb rfl (nF hb6) ?_
    refine W.seqK fun K31 hK31 => ?_
    refine W.region ?_
    refine Rg.od rfl rfl rfl (OpT.assign rfl ?_)
    refine Rg.nil ?_
    refine hK31 _ _ ?_
    refine W.ret ?_
    refine ⟨_, Res.one rfl rfl, ?_⟩
    rw [eachF_mk]
    rw [if_neg (by rw [hb6]; decide)]
    exact ⟨rfl, hI5, (x2.toUpd.trans x5)⟩
set_option maxHeartbeats 1000000 in
set_option maxRecDepth 20000 in
theorem size1_runs (cs : List Value) (t : T) (around : Int) (g : Nat) (st : Int) (w0 : World) (R : Nat → Prop) (hv : VT w0 R cs t) (bg : Box w0 g [.int .i64 st]) : Runs Try.prog 43 #[.agg cs.toArray, .int .i64 around, .pointer (some ⟨g, 0, none⟩)] w0
    fun v w' => v = .bool (sizeStep t around st).2 ∧ Box w' g [.int .i64 (sizeStep t around st).1] ∧ Upd g w0 w' := by
  obtain ⟨k, n, s, ls, ts, la, lc, ta, tc, rfl, rfl, hk, hn, hs, hl, ht, hL, hT⟩ := hv.inv
  refine Runs.of_W (vs := [_, _, _]) Try.func43 rfl rfl ?_
  refine W.seqK fun K1 hK1 => ?_
  refine W.region ?_
  refine Rg.od rfl rfl rfl (OpT.box rfl fun w2 g2 e2 x2 z2 b2 => ?_)
  replace b2 : Box w2 g2 [.int .u8 k, .int .i64 n, .string s, .slice la ls.length lc, .slice ta ts.length tc] := b2
  refine Rg.od rfl rfl rfl (OpT.assign rfl ?_)
  refine Rg.nil ?_
  refine hK1 _ _ ?_
  refine W.seqK fun K3 hK3 => ?_
  refine W.region ?_
  refine Rg.od rfl rfl rfl (OpT.loadB Try.isAgg3 rfl (bg.ext x2) rfl ?_)
  refine Rg.od rfl rfl rfl (OpT.addW rfl rfl ?_)
  refine Rg.on rfl rfl (OpT.store Try.sizeOf3 rfl rfl rfl (bg.ext x2) rfl fun w4 m4 z4 b4 => ?_)
  replace b4 : Box w4 g [.int .i64 (IntKind.i64.wrap (st + 1))] := b4
  refine Rg.nil ?_
  refine hK3 _ _ ?_
  refine W.seqK fun K5 hK5 => ?_
  refine W.region ?_
  refine Rg.od rfl rfl rfl (OpT.assign rfl ?_)
  refine Rg.nil ?_
  refine hK5 _ _ ?_
  refine W.ret ?_
  refine ⟨_, Res.one rfl rfl, ?_⟩
  exact ⟨rfl, b4, (x2.toUpd.trans m4)⟩
set_option maxHeartbeats 1000000 in
set_option maxRecDepth 20000 in
theorem free1_runs (cs : List Value) (t : T) (around : Int) (g : Nat) (st : Int) (w0 : World) (R : Nat → Prop) (hv : VT w0 R cs t) (hnb : nodeB t = true) (hb : 0 ≤ around ∧ around ≤ 1099511627776) (bg : Box w0 g [.int .i64 st]) : Runs Try.prog 44 #[.agg cs.toArray, .int .i64 around, .pointer (some ⟨g, 0, none⟩)] w0
    fun v w' => v = .bool (freeStep t around st).2 ∧ Box w' g [.int .i64 (freeStep t around st).1] ∧ Upd g w0 w' := by
  obtain ⟨k, n, s, ls, ts, la, lc, ta, tc, rfl, rfl, hk, hn, hs, hl, ht, hL, hT⟩ := hv.inv
  refine Runs.of_W (vs := [_, _, _]) Try.func44 rfl rfl ?_
  refine W.seqK fun K1 hK1 => ?_
  refine W.region ?_
  refine Rg.od rfl rfl rfl (OpT.box rfl fun w2 g2 e2 x2 z2 b2 => ?_)
  replace b2 : Box w2 g2 [.int .u8 k, .int .i64 n, .string s, .slice la ls.length lc, .slice ta ts.length tc] := b2
  refine Rg.od rfl rfl rfl (OpT.assign rfl ?_)
  refine Rg.nil ?_
  refine hK1 _ _ ?_
  refine W.seqK fun K3 hK3 => ?_
  refine W.seqK fun K4 hK4 => ?_
  refine W.region ?_
  refine Rg.od rfl rfl rfl (OpT.fieldAddrB (off := 0) Try.underlying26 rfl Try.sizeOf5 rfl rfl ?_)
  refine Rg.od rfl rfl rfl (OpT.loadB Try.isAgg5 rfl b2 rfl ?_)
  refine Rg.od rfl rfl rfl (OpT.eqlI rfl rfl ?_)
  refine Rg.nil ?_
  refine hK4 _ _ ?_
  rcases Bool.eq_false_or_eq_true (decide (k = 2)) with hb5 | hb5
  · have hp5 := of_decide_eq_true hb5
    refine W.condTb rfl hb5 ?_
    refine W.region ?_
    refine Rg.od rfl rfl rfl (OpT.loadB Try.isAgg3 rfl (bg.ext x2) rfl ?_)
    refine Rg.od rfl rfl rfl (OpT.fieldAddrB (off := 1) Try.underlying26 rfl Try.sizeOf3 rfl rfl ?_)
    refine Rg.od rfl rfl rfl (OpT.loadB Try.isAgg3 rfl b2 rfl ?_)
    refine Rg.od rfl rfl rfl (OpT.add rfl rfl (by (have h9 := node_varN hnb (by omega); omega)) ?_)
    refine Rg.od rfl rfl rfl (OpT.move rfl ?_)
    refine Rg.od rfl rfl rfl (OpT.sub rfl rfl (by (have h9 := node_varN hnb (by omega); omega)) ?_)
    refine Rg.od rfl rfl rfl (OpT.maxI rfl rfl ?_)
    refine Rg.on rfl rfl (OpT.store Try.sizeOf3 rfl rfl rfl (bg.ext x2) rfl fun w6 m6 z6 b6 => ?_)
    replace b6 : Box w6 g [.int .i64 (if ((n + 1) - around) > st then ((n + 1) - around) else st)] := b6
    refine Rg.nil ?_
    refine hK3 _ _ ?_
    refine W.seqK fun K7 hK7 => ?_
    refine W.region ?_
    refine Rg.od rfl rfl rfl (OpT.assign rfl ?_)
    refine Rg.nil ?_
    refine hK7 _ _ ?_
    refine W.ret ?_
    refine ⟨_, Res.one rfl rfl, ?_⟩
    refine ⟨rfl, ?_, (x2.toUpd.trans m6)⟩
    simp only [freeStep]
    first | (rw [if_pos (by omega)]; exact b6) | (rw [if_neg (by omega)]; exact b6)
  · have hp5 := of_decide_eq_false hb5
    refine W.condFb rfl hb5 ?_
    refine W.skip ?_
    refine hK3 _ _ ?_
    refine W.seqK fun K8 hK8 => ?_
    refine W.region ?_
    refine Rg.od rfl rfl rfl (OpT.assign rfl ?_)
    refine Rg.nil ?_
    refine hK8 _ _ ?_
    refine W.ret ?_
    refine ⟨_, Res.one rfl rfl, ?_⟩
    refine ⟨rfl, ?_, x2.toUpd⟩
    simp only [freeStep]
    first | (rw [if_pos (by omega)]; exact (bg.ext x2)) | (rw [if_neg (by omega)]; exact (bg.ext x2))
set_option maxHeartbeats 1000000 in
set_option maxRecDepth 20000 in
theorem has1_runs (kk : Int) (cs : List Value) (t : T) (around : Int) (g : Nat) (w0 : World) (R : Nat → Prop) (hv : VT w0 R cs t) (hb : (0 ≤ around ∧ around ≤ 1099511627776) ∧ 0 ≤ kk ∧ kk ≤ 1099511627776) (bg : Box w0 g [.int .i64 kk]) :
    Runs Try.prog 45 #[.agg cs.toArray, .int .i64 around, .pointer (some ⟨g, 0, none⟩)] w0 fun v w' => v = .bool (hasStep kk t around ()).2 ∧ Ext w0 w' := by
  obtain ⟨k, n, s, ls, ts, la, lc, ta, tc, rfl, rfl, hk, hn, hs, hl, ht, hL, hT⟩ := hv.inv
  refine Runs.of_W (vs := [_, _, _]) Try.func45 rfl rfl ?_
  refine W.seqK fun K1 hK1 => ?_
  refine W.region ?_
  refine Rg.od rfl rfl rfl (OpT.box rfl fun w2 g2 e2 x2 z2 b2 => ?_)
  replace b2 : Box w2 g2 [.int .u8 k, .int .i64 n, .string s, .slice la ls.length lc, .slice ta ts.length tc] := b2
  refine Rg.od rfl rfl rfl (OpT.assign rfl ?_)
  refine Rg.nil ?_
  refine hK1 _ _ ?_
  refine W.seqK fun K3 hK3 => ?_
  refine W.region ?_
  refine Rg.od rfl rfl rfl (OpT.fieldAddrB (off := 0) Try.underlying26 rfl Try.sizeOf5 rfl rfl ?_)
  refine Rg.od rfl rfl rfl (OpT.loadB Try.isAgg5 rfl b2 rfl ?_)
  refine Rg.od rfl rfl rfl (OpT.neqI rfl rfl ?_)
  refine Rg.od rfl rfl rfl (OpT.move rfl ?_)
  rcases Bool.eq_false_or_eq_true (decide (k = 2)) with hb4 | hb4
  · have hp4 := of_decide_eq_true hb4
    refine Rg.gy rfl rfl rfl rfl (nT hb4) (OpT.fieldAddrB (off := 1) Try.underlying26 rfl Try.sizeOf3 rfl rfl ?_)
    refine Rg.gy rfl rfl rfl rfl (nT hb4) (OpT.loadB Try.isAgg3 rfl b2 rfl ?_)
    refine Rg.gy rfl rfl rfl rfl (nT hb4) (OpT.loadB Try.isAgg3 rfl (bg.ext x2) rfl ?_)
    refine Rg.gy rfl rfl rfl rfl (nT hb4) (OpT.move rfl ?_)
    refine Rg.gy rfl rfl rfl rfl (nT hb4) (OpT.add rfl rfl (by omega) ?_)
    refine Rg.gy rfl rfl rfl rfl (nT hb4) (OpT.neqI rfl rfl ?_)
    refine Rg.od rfl rfl rfl (OpT.pickF rfl (nT hb4) rfl ?_)
    refine Rg.od rfl rfl rfl (OpT.assign rfl ?_)
    refine Rg.nil ?_
    refine hK3 _ _ ?_
    refine W.ret ?_
    refine ⟨_, Res.one rfl rfl, ?_⟩
    refine ⟨congrArg Value.bool ?_, x2⟩
    simp only [hasStep]
    clear hv hL hT hl ht hs hn
    grind
  · have hp4 := of_decide_eq_false hb4
    refine Rg.gn rfl rfl rfl rfl (nF hb4) ?_
    refine Rg.gn rfl rfl rfl rfl (nF hb4) ?_
    refine Rg.gn rfl rfl rfl rfl (nF hb4) ?_
    refine Rg.gn rfl rfl rfl rfl (nF hb4) ?_
    refine Rg.gn rfl rfl rfl rfl (nF hb4) ?_
    refine Rg.gn rfl rfl rfl rfl (nF hb4) ?_
    refine Rg.od rfl rfl rfl (OpT.pickT rfl (nF hb4) rfl ?_)
    refine Rg.od rfl rfl rfl (OpT.assign rfl ?_)
    refine Rg.nil ?_
    refine hK3 _ _ ?_
    refine W.ret ?_
    refine ⟨_, Res.one rfl rfl, ?_⟩
    refine ⟨congrArg Value.bool ?_, x2⟩
    simp only [hasStep]
    clear hv hL hT hl ht hs hn
    grind
set_option maxHeartbeats 1000000 in
set_option maxRecDepth 20000 in
theorem size_runs (t : T) (cs : List Value) (w0 : World) (R : Nat → Prop) (hv : VT w0 R cs t) : Runs Try.prog 27 #[.agg cs.toArray] w0 fun v w' => v = .int .i64 (bif mayT t then ((size t : Nat) : Int) else 0) ∧ Ext w0 w' := by
  obtain ⟨k, n, s, ls, ts, la, lc, ta, tc, rfl, rfl, hk, hn, hs, hl, ht, hL, hT⟩ := hv.inv
  have hvs := hv.small
  refine Runs.of_W (vs := [_]) Try.func27 rfl rfl ?_
  refine W.seqK fun K1 hK1 => ?_
  refine W.region ?_
  refine Rg.od rfl rfl rfl (OpT.box rfl fun w2 g2 e2 x2 z2 b2 => ?_)
  replace b2 : Box w2 g2 [.int .u8 k, .int .i64 n, .string s, .slice la ls.length lc, .slice ta ts.length tc] := b2
  refine Rg.od rfl rfl rfl (OpT.alloc Try.zeroValue3 fun w3 g3 e3 x3 z3 b3 => ?_)
  replace b3 : Box w3 g3 [.int .i64 0] := b3
  refine Rg.nil ?_
  refine hK1 _ _ ?_
  refine W.seqK fun K4 hK4 => ?_
  refine W.seqK fun K5 hK5 => ?_
  refine W.region ?_
  refine Rg.od rfl rfl rfl (OpT.loadAB Try.isAgg26 Try.sizeOf26 rfl (b2.ext x3) rfl ?_)
  refine Rg.od rfl rfl rfl (OpT.call Try.call8 (.cons rfl .nil) (Runs.mono (may_runs _ _ _ _ (hv.ext (x2.trans x3))) ?_))
  rintro _ w6 ⟨rfl, x6⟩
  refine Rg.od rfl rfl rfl (OpT.notB rfl ?_)
  refine Rg.nil ?_
  refine hK5 _ _ ?_
  rcases Bool.eq_false_or_eq_true (mayT (T.mk k n s ls ts)) with hb7 | hb7
  · have hp7 := hb7
    refine W.condFb rfl (nT hb7) ?_
    refine W.skip ?_
    refine hK4 _ _ ?_
    refine W.seqK fun K8 hK8 => ?_
    refine W.region ?_
    refine Rg.od rfl rfl rfl (OpT.loadAB Try.isAgg26 Try.sizeOf26 rfl (b2.ext (x3.trans x6)) rfl ?_)
    refine Rg.od rfl rfl rfl (OpT.makeFunc .nil (.cons rfl .nil) ?_)
    have hmy : mayT (T.mk k n s ls ts) = true := hb7
    refine Rg.od rfl rfl rfl (OpT.call Try.call35 (.cons rfl (.cons rfl (.cons rfl .nil))) (Runs.mono (each_runs 43 Try.call43 #[.pointer (some ⟨g3, 0, none⟩)] g3 (fun (st : Int) w => Box w g3 [.int .i64 st]) (sizeStep) (fun _ _ _ h b => b.ext h) (fun _ _ b => b.lt) (fun t cs a st w R hv _ _ _ _ b => size1_runs _ _ _ _ _ _ _ hv b) _ _ _ (0) _ _ (hvs.ext ((x2.trans x3).trans x6)) (fun h => by have h2 := h.2; have h1 := Nat.le_trans (Nat.le_refl w0.heap.size) x2.size; omega) (may_nodes hmy) (by have := may_depth hmy; omega) (b3.ext x6)) ?_))
    rw [each_size _ _ _ (by omega) (by have := may_size hmy; omega)]
    rintro _ w9 ⟨rfl, b9, x9⟩
    replace b9 : Box w9 g3 [.int .i64 (0 + ((size (T.mk k n s ls ts) : Nat) : Int))] := b9
    refine Rg.nil ?_
    refine hK8 _ _ ?_
    refine W.seqK fun K10 hK10 => ?_
    refine W.region ?_
    refine Rg.od rfl rfl rfl (OpT.loadB Try.isAgg3 rfl b9 rfl ?_)
    refine Rg.on rfl rfl (OpT.store Try.sizeOf3 rfl rfl rfl b9 rfl fun w11 m11 z11 b11 => ?_)
    replace b11 : Box w11 g3 [.int .i64 (0 + ((size (T.mk k n s ls ts) : Nat) : Int))] := b11
    refine Rg.nil ?_
    refine hK10 _ _ ?_
    refine W.ret ?_
    refine ⟨_, Res.cell1 rfl rfl Try.isAgg3 b11, ?_⟩
    exact ⟨congrArg (Value.int .i64) (by rw [hb7]; simp), ((((x2.trans x3).trans x6).upd x9 (by have h1 := x2.size; omega)).upd m11 (by have h1 := x2.size; omega))⟩
  · have hp7 := hb7
    refine W.condTb rfl (nF hb7) ?_
    refine W.seqK fun K12 hK12 => ?_
    refine W.region ?_
    refine Rg.on rfl rfl (OpT.store Try.sizeOf3 rfl rfl rfl (b3.ext x6) rfl fun w13 m13 z13 b13 => ?_)
    replace b13 : Box w13 g3 [.int .i64 0] := b13
    refine Rg.nil ?_
    refine hK12 _ _ ?_
    refine W.ret ?_
    refine ⟨_, Res.cell1 rfl rfl Try.isAgg3 b13, ?_⟩
    exact ⟨congrArg (Value.int .i64) (by rw [hb7]; simp), (((x2.trans x3).trans x6).upd m13 (by have h1 := x2.size; omega))⟩
set_option maxHeartbeats 1000000 in
set_option maxRecDepth 20000 in
theorem free_runs (t : T) (cs : List Value) (w0 : World) (R : Nat → Prop) (hv : VT w0 R cs t) : Runs Try.prog 28 #[.agg cs.toArray] w0 fun v w' => v = .int .i64 (bif mayT t then max 0 (free t 0) else 0) ∧ Ext w0 w' := by
  obtain ⟨k, n, s, ls, ts, la, lc, ta, tc, rfl, rfl, hk, hn, hs, hl, ht, hL, hT⟩ := hv.inv
  have hvs := hv.small
  refine Runs.of_W (vs := [_]) Try.func28 rfl rfl ?_
  refine W.seqK fun K1 hK1 => ?_
  refine W.region ?_
  refine Rg.od rfl rfl rfl (OpT.box rfl fun w2 g2 e2 x2 z2 b2 => ?_)
  replace b2 : Box w2 g2 [.int .u8 k, .int .i64 n, .string s, .slice la ls.length lc, .slice ta ts.length tc] := b2
  refine Rg.od rfl rfl rfl (OpT.alloc Try.zeroValue3 fun w3 g3 e3 x3 z3 b3 => ?_)
  replace b3 : Box w3 g3 [.int .i64 0] := b3
  refine Rg.nil ?_
  refine hK1 _ _ ?_
  refine W.seqK fun K4 hK4 => ?_
  refine W.seqK fun K5 hK5 => ?_
  refine W.region ?_
  refine Rg.od rfl rfl rfl (OpT.loadAB Try.isAgg26 Try.sizeOf26 rfl (b2.ext x3) rfl ?_)
  refine Rg.od rfl rfl rfl (OpT.call Try.call8 (.cons rfl .nil) (Runs.mono (may_runs _ _ _ _ (hv.ext (x2.trans x3))) ?_))
  rintro _ w6 ⟨rfl, x6⟩
  refine Rg.od rfl rfl rfl (OpT.notB rfl ?_)
  refine Rg.nil ?_
  refine hK5 _ _ ?_
  rcases Bool.eq_false_or_eq_true (mayT (T.mk k n s ls ts)) with hb7 | hb7
  · have hp7 := hb7
    refine W.condFb rfl (nT hb7) ?_
    refine W.skip ?_
    refine hK4 _ _ ?_
    refine W.seqK fun K8 hK8 => ?_
    refine W.region ?_
    refine Rg.od rfl rfl rfl (OpT.loadAB Try.isAgg26 Try.sizeOf26 rfl (b2.ext (x3.trans x6)) rfl ?_)
    refine Rg.od rfl rfl rfl (OpT.makeFunc .nil (.cons rfl .nil) ?_)
    have hmy : mayT (T.mk k n s ls ts) = true := hb7
    refine Rg.od rfl rfl rfl (OpT.call Try.call35 (.cons rfl (.cons rfl (.cons rfl .nil))) (Runs.mono (each_runs 44 Try.call44 #[.pointer (some ⟨g3, 0, none⟩)] g3 (fun (st : Int) w => Box w g3 [.int .i64 st]) (freeStep) (fun _ _ _ h b => b.ext h) (fun _ _ b => b.lt) (fun t cs a st w R hv _ hn h1 h2 b => free1_runs _ _ _ _ _ _ _ hv hn ⟨h1, h2⟩ b) _ _ _ (0) _ _ (hvs.ext ((x2.trans x3).trans x6)) (fun h => by have h2 := h.2; have h1 := Nat.le_trans (Nat.le_refl w0.heap.size) x2.size; omega) (may_nodes hmy) (by have := may_depth hmy; omega) (b3.ext x6)) ?_))
    rw [each_free _ _ _ (by omega) (may_nodes hmy)]
    rintro _ w9 ⟨rfl, b9, x9⟩
    replace b9 : Box w9 g3 [.int .i64 (max 0 (free (T.mk k n s ls ts) 0))] := b9
    refine Rg.nil ?_
    refine hK8 _ _ ?_
    refine W.seqK fun K10 hK10 => ?_
    refine W.region ?_
    refine Rg.od rfl rfl rfl (OpT.loadB Try.isAgg3 rfl b9 rfl ?_)
    refine Rg.on rfl rfl (OpT.store Try.sizeOf3 rfl rfl rfl b9 rfl fun w11 m11 z11 b11 => ?_)
    replace b11 : Box w11 g3 [.int .i64 (max 0 (free (T.mk k n s ls ts) 0))] := b11
    refine Rg.nil ?_
    refine hK10 _ _ ?_
    refine W.ret ?_
    refine ⟨_, Res.cell1 rfl rfl Try.isAgg3 b11, ?_⟩
    exact ⟨congrArg (Value.int .i64) (by rw [hb7]; simp), ((((x2.trans x3).trans x6).upd x9 (by have h1 := x2.size; omega)).upd m11 (by have h1 := x2.size; omega))⟩
  · have hp7 := hb7
    refine W.condTb rfl (nF hb7) ?_
    refine W.seqK fun K12 hK12 => ?_
    refine W.region ?_
    refine Rg.on rfl rfl (OpT.store Try.sizeOf3 rfl rfl rfl (b3.ext x6) rfl fun w13 m13 z13 b13 => ?_)
    replace b13 : Box w13 g3 [.int .i64 0] := b13
    refine Rg.nil ?_
    refine hK12 _ _ ?_
    refine W.ret ?_
    refine ⟨_, Res.cell1 rfl rfl Try.isAgg3 b13, ?_⟩
    exact ⟨congrArg (Value.int .i64) (by rw [hb7]; simp), (((x2.trans x3).trans x6).upd m13 (by have h1 := x2.size; omega))⟩
set_option maxHeartbeats 1000000 in
set_option maxRecDepth 20000 in
theorem has_runs (t : T) (cs : List Value) (kk : Int) (hkk : kk ≤ 1099511627776) (w0 : World) (R : Nat → Prop) (hv : VT w0 R cs t) : Runs Try.prog 29 #[.agg cs.toArray, .int .i64 kk] w0 fun v w' => v = .bool (decide (0 ≤ kk) && mayT t && has t kk) ∧ Ext w0 w' := by
  obtain ⟨k, n, s, ls, ts, la, lc, ta, tc, rfl, rfl, hk, hn, hs, hl, ht, hL, hT⟩ := hv.inv
  have hvs := hv.small
  refine Runs.of_W (vs := [_, _]) Try.func29 rfl rfl ?_
  refine W.seqK fun K1 hK1 => ?_
  refine W.region ?_
  refine Rg.od rfl rfl rfl (OpT.box rfl fun w2 g2 e2 x2 z2 b2 => ?_)
  replace b2 : Box w2 g2 [.int .u8 k, .int .i64 n, .string s, .slice la ls.length lc, .slice ta ts.length tc] := b2
  refine Rg.od rfl rfl rfl (OpT.box rfl fun w3 g3 e3 x3 z3 b3 => ?_)
  replace b3 : Box w3 g3 [.int .i64 kk] := b3
  refine Rg.od rfl rfl rfl (OpT.assign rfl ?_)
  refine Rg.nil ?_
  refine hK1 _ _ ?_
  refine W.seqK fun K4 hK4 => ?_
  refine W.seqK fun K5 hK5 => ?_
  refine W.region ?_
  refine Rg.od rfl rfl rfl (OpT.loadB Try.isAgg3 rfl b3 rfl ?_)
  refine Rg.od rfl rfl rfl (OpT.lss rfl rfl ?_)
  refine Rg.od rfl rfl rfl (OpT.move rfl ?_)
  rcases Bool.eq_false_or_eq_true (decide (kk < 0)) with hb6 | hb6
  · have hp6 := of_decide_eq_true hb6
    refine Rg.gn rfl rfl rfl rfl hb6 ?_
    refine Rg.gn rfl rfl rfl rfl hb6 ?_
    refine Rg.gn rfl rfl rfl rfl hb6 ?_
    refine Rg.od rfl rfl rfl (OpT.pickT rfl hb6 rfl ?_)
    refine Rg.nil ?_
    refine hK5 _ _ ?_
    refine W.condTb rfl rfl ?_
    refine W.seqK fun K7 hK7 => ?_
    refine W.region ?_
    refine Rg.od rfl rfl rfl (OpT.assign rfl ?_)
    refine Rg.nil ?_
    refine hK7 _ _ ?_
    refine W.ret ?_
    refine ⟨_, Res.one rfl rfl, ?_⟩
    exact ⟨congrArg Value.bool (by rw [decide_eq_false (show ¬ 0 ≤ kk by omega)]; simp), (x2.trans x3)⟩
  · have hp6 := of_decide_eq_false hb6
    refine Rg.gy rfl rfl rfl rfl hb6 (OpT.loadAB Try.isAgg26 Try.sizeOf26 rfl (b2.ext x3) rfl ?_)
    refine Rg.gy rfl rfl rfl rfl hb6 (OpT.call Try.call8 (.cons rfl .nil) (Runs.mono (may_runs _ _ _ _ (hv.ext (x2.trans x3))) ?_))
    rintro _ w8 ⟨rfl, x8⟩
    refine Rg.gy rfl rfl rfl rfl hb6 (OpT.notB rfl ?_)
    refine Rg.od rfl rfl rfl (OpT.pickF rfl hb6 rfl ?_)
    refine Rg.nil ?_
    refine hK5 _ _ ?_
    rcases Bool.eq_false_or_eq_true (mayT (T.mk k n s ls ts)) with hb9 | hb9
    · have hp9 := hb9
      refine W.condFb rfl (nT hb9) ?_
      refine W.skip ?_
      refine hK4 _ _ ?_
      refine W.seqK fun K10 hK10 => ?_
      refine W.region ?_
      refine Rg.od rfl rfl rfl (OpT.loadAB Try.isAgg26 Try.sizeOf26 rfl (b2.ext (x3.trans x8)) rfl ?_)
      refine Rg.od rfl rfl rfl (OpT.makeFunc .nil (.cons rfl .nil) ?_)
      have hmy : mayT (T.mk k n s ls ts) = true := hb9
      refine Rg.od rfl rfl rfl (OpT.call Try.call35 (.cons rfl (.cons rfl (.cons rfl .nil))) (Runs.mono (each_runs 45 Try.call45 #[.pointer (some ⟨g3, 0, none⟩)] g3 (fun (_ : Unit) w => Box w g3 [.int .i64 kk]) (hasStep kk) (fun _ _ _ h b => b.ext h) (fun _ _ b => b.lt) (fun t cs a st w R hv _ hn h1 h2 b => Runs.mono (has1_runs _ _ _ _ _ _ _ hv ⟨⟨h1, h2⟩, by omega⟩ b) fun v w' h => ⟨h.1, b.ext h.2, h.2.toUpd⟩) _ _ _ (()) _ _ (hvs.ext ((x2.trans x3).trans x8)) (fun h => by have h2 := h.2; have h1 := Nat.le_trans (Nat.le_refl w0.heap.size) x2.size; omega) (may_nodes hmy) (by have := may_depth hmy; omega) (b3.ext x8)) ?_))
      rw [each_has _ _ _ (may_nodes hmy)]
      rintro _ w11 ⟨rfl, b11, x11⟩
      refine Rg.od rfl rfl rfl (OpT.notB rfl ?_)
      refine Rg.od rfl rfl rfl (OpT.assign rfl ?_)
      refine Rg.nil ?_
      refine hK10 _ _ ?_
      refine W.ret ?_
      refine ⟨_, Res.one rfl rfl, ?_⟩
      exact ⟨congrArg Value.bool (by rw [hb9, decide_eq_true (show 0 ≤ kk by omega)]; simp), (((x2.trans x3).trans x8).upd x11 (by have h1 := x2.size; omega))⟩
    · have hp9 := hb9
      refine W.condTb rfl (nF hb9) ?_
      refine W.seqK fun K12 hK12 => ?_
      refine W.region ?_
      refine Rg.od rfl rfl rfl (OpT.assign rfl ?_)
      refine Rg.nil ?_
      refine hK12 _ _ ?_
      refine W.ret ?_
      refine ⟨_, Res.one rfl rfl, ?_⟩
      exact ⟨congrArg Value.bool (by rw [hb9]; simp), ((x2.trans x3).trans x8)⟩
set_option maxHeartbeats 1000000 in
set_option maxRecDepth 20000 in
theorem eqL_runs (la ua : Option Addr) (lc uc : Nat) (ls us : List L) (w0 : World) (R R' : Nat → Prop) (hL : SlL w0 R la ls) (hU : SlL w0 R' ua us) (hl : lenOk ls.length lc) (hu : lenOk us.length uc) :
    Runs Try.prog 53 #[.slice la ls.length lc, .slice ua us.length uc] w0 fun v w' => v = .bool (lsSame ls us) ∧ Ext w0 w' := by
  refine Runs.of_W (vs := [_, _]) Try.func53 rfl rfl ?_
  refine W.seqK fun K1 hK1 => ?_
  refine W.region ?_
  refine Rg.od rfl rfl rfl (OpT.assign rfl ?_)
  refine Rg.nil ?_
  refine hK1 _ _ ?_
  refine W.seqK fun K2 hK2 => ?_
  refine W.seqK fun K3 hK3 => ?_
  refine W.region ?_
  refine Rg.od rfl rfl rfl (OpT.move rfl ?_)
  refine Rg.od rfl rfl rfl (OpT.lenS Try.underlying23 rfl ?_)
  refine Rg.od rfl rfl rfl (OpT.move rfl ?_)
  refine Rg.od rfl rfl rfl (OpT.lenS Try.underlying23 rfl ?_)
  refine Rg.od rfl rfl rfl (OpT.neqI rfl rfl ?_)
  refine Rg.nil ?_
  refine hK3 _ _ ?_
  rcases Bool.eq_false_or_eq_true (decide (((ls.length : Nat) : Int) = ((us.length : Nat) : Int))) with hb4 | hb4
  · have hp4 := of_decide_eq_true hb4
    refine W.condFb rfl (nT hb4) ?_
    refine W.skip ?_
    refine hK2 _ _ ?_
    refine W.seqK fun K5 hK5 => ?_
    refine W.seqK fun K6 hK6 => ?_
    refine W.region ?_
    refine Rg.od rfl rfl rfl (OpT.move rfl ?_)
    refine Rg.od rfl rfl rfl (OpT.lenS Try.underlying23 rfl ?_)
    refine Rg.od rfl rfl rfl (OpT.move rfl ?_)
    refine Rg.nil ?_
    refine hK6 _ _ ?_
    refine W.block ?_
    refine W.loop (σ := Nat) (fun q e w' => Sub [(0, .slice la ls.length lc), (1, .slice ua us.length uc), (4, .bool false), (6, .slice la ls.length lc), (7, .int .i64 ((ls.length : Nat) : Int)), (8, .slice ua us.length uc), (9, .int .i64 ((us.length : Nat) : Int)), (10, .bool (!decide (((ls.length : Nat) : Int) = ((us.length : Nat) : Int)))), (11, .slice la ls.length lc), (12, .int .i64 ((ls.length : Nat) : Int)), (13, .int .i64 ((q : Nat) : Int))] e ∧ Ext w0 w' ∧ q ≤ ls.length ∧ ls.take q = us.take q) (fun q => ls.length - q) 0
      ⟨⟨rfl, rfl, rfl, rfl, rfl, rfl, rfl, rfl, rfl, rfl, rfl, trivial⟩, Mod.refl _ _, Nat.zero_le _, rfl⟩ ?_
    rintro s7 en7 w7 ⟨hs7, x7, hi7_0, hi7_1⟩
    refine W.sub hs7 ?_
    refine W.seqK fun K8 hK8 => ?_
    refine W.region ?_
    refine Rg.od rfl rfl rfl (OpT.lss rfl rfl ?_)
    refine Rg.nil ?_
    refine hK8 _ _ ?_
    refine W.seqK fun K9 hK9 => ?_
    rcases Bool.eq_false_or_eq_true (decide (((s7 : Nat) : Int) < ((ls.length : Nat) : Int))) with hb10 | hb10
    · have hp10 := of_decide_eq_true hb10
      refine W.condTb rfl hb10 ?_
      refine W.skip ?_
      refine hK9 _ _ ?_
      refine W.seqK fun K11 hK11 => ?_
      refine W.block ?_
      refine W.seqK fun K12 hK12 => ?_
      refine W.region ?_
      refine Rg.od rfl rfl rfl (OpT.move rfl ?_)
      refine Rg.od rfl rfl rfl (OpT.assign rfl ?_)
      refine Rg.nil ?_
      refine hK12 _ _ ?_
      refine W.seqK fun K13 hK13 => ?_
      obtain ⟨a20, ha20, hr20, hw20, hv20⟩ := hL.at (i := s7) (by first | omega | (unfold lenOk at *; omega))
      obtain ⟨a25, ha25, hr25, hw25, hv25⟩ := hU.at (i := s7) (by first | omega | (unfold lenOk at *; omega))
      refine W.drawE 9 [.ex (.slice la ls.length lc), .ex (.int .i64 ((s7 : Nat) : Int)), .ex (.pointer (some (a20.add (s7 * 5)))), .ex (.agg ([.int .i64 (ls[s7].c), .int .i64 (ls[s7].p0), .int .i64 (ls[s7].p1), .int .i64 (ls[s7].p2), .int .i64 (ls[s7].p3)].toArray)), .ex (.slice ua us.length uc), .ex (.int .i64 ((s7 : Nat) : Int)), .ex (.pointer (some (a25.add (s7 * 5)))), .ex (.agg ([.int .i64 (us[s7].c), .int .i64 (us[s7].p0), .int .i64 (us[s7].p1), .int .i64 (us[s7].p2), .int .i64 (us[s7].p3)].toArray)), .ex (.bool (!((ls[s7]).same (us[s7]))))] mixed rfl rfl rfl ⟨trivial, trivial, trivial, trivial, trivial, trivial, trivial, trivial, trivial, trivial⟩ ?_ ?_
      · refine ⟨?_, ?_, ?_, ?_, ?_, ?_, ?_, ?_, ?_, trivial⟩
        · intro w' hx _
          exact OpT.move rfl VS.ok
        · intro w' hx _
          exact OpT.move rfl VS.ok
        · intro w' hx _
          exact OpT.indexAddr Try.underlying23 Try.sizeOf46 rfl rfl ha20 (by first | omega | (unfold lenOk at *; omega)) VS.ok
        · intro w' hx _
          exact OpT.loadA (cs := [.int .i64 (ls[s7].c), .int .i64 (ls[s7].p0), .int .i64 (ls[s7].p1), .int .i64 (ls[s7].p2), .int .i64 (ls[s7].p3)]) Try.isAgg46 Try.sizeOf46 rfl (hw20.ext (x7.trans hx)) VS.ok
        · intro w' hx _
          exact OpT.move rfl VS.ok
        · intro w' hx _
          exact OpT.move rfl VS.ok
        · intro w' hx _
          exact OpT.indexAddr Try.underlying23 Try.sizeOf46 rfl rfl ha25 (by first | omega | (unfold lenOk at *; omega)) VS.ok
        · intro w' hx _
          exact OpT.loadA (cs := [.int .i64 (us[s7].c), .int .i64 (us[s7].p0), .int .i64 (us[s7].p1), .int .i64 (us[s7].p2), .int .i64 (us[s7].p3)]) Try.isAgg46 Try.sizeOf46 rfl (hw25.ext (x7.trans hx)) VS.ok
        · intro w' hx _
          exact OpT.neqL (a := ls[s7]) (b := us[s7]) rfl rfl VS.ok
      · intro w16 x16
        refine hK13 _ _ ?_
        rcases Bool.eq_false_or_eq_true ((ls[s7]).same (us[s7])) with hb28 | hb28
        · have hp28 := hb28
          refine W.condFb rfl (nT hb28) ?_
          refine W.skip ?_
          refine hK11 _ _ ?_
          refine W.region ?_
          refine Rg.od rfl rfl rfl (OpT.add rfl rfl (by first | omega | (unfold lenOk at *; omega)) ?_)
          refine Rg.od rfl rfl rfl (OpT.move rfl ?_)
          refine Rg.nil ?_
          exact ⟨s7 + 1, ⟨⟨rfl, rfl, rfl, rfl, rfl, rfl, rfl, rfl, rfl, rfl, rfl, trivial⟩, (x7.trans x16), by omega, take_eq_succ hi7_1 (by omega) (by omega) ((L.same_iff _ _).1 (hb28))⟩, by omega⟩
        · have hp28 := hb28
          refine W.condTb rfl (nF hb28) ?_
          refine W.seqK fun K29 hK29 => ?_
          refine W.region ?_
          refine Rg.od rfl rfl rfl (OpT.assign rfl ?_)
          refine Rg.nil ?_
          refine hK29 _ _ ?_
          refine W.ret ?_
          refine ⟨_, Res.one rfl rfl, ?_⟩
          exact ⟨congrArg Value.bool (no_of_iff (lsSame_iff _ _) (ne_at (q := s7) (by omega) (by omega) (L.same_no hb28))), (x7.trans x16)⟩
    · have hp10 := of_decide_eq_false hb10
      refine W.condFb rfl hb10 ?_
      refine W.exit ?_
      refine hK5 _ _ ?_
      refine W.seqK fun K30 hK30 => ?_
      refine W.region ?_
      refine Rg.od rfl rfl rfl (OpT.assign rfl ?_)
      refine Rg.nil ?_
      refine hK30 _ _ ?_
      refine W.ret ?_
      refine ⟨_, Res.one rfl rfl, ?_⟩
      exact ⟨congrArg Value.bool ((lsSame_iff _ _).2 (take_all hi7_1 (by omega) (by omega))).symm, x7⟩
  · have hp4 := of_decide_eq_false hb4
    refine W.condTb rfl (nF hb4) ?_
    refine W.seqK fun K31 hK31 => ?_
    refine W.region ?_
    refine Rg.od rfl rfl rfl (OpT.assign rfl ?_)
    refine Rg.nil ?_
    refine hK31 _ _ ?_
    refine W.ret ?_
    refine ⟨_, Res.one rfl rfl, ?_⟩
    exact ⟨congrArg Value.bool (no_of_iff (lsSame_iff _ _) (fun e => by subst e; omega)), (Ext.refl _)⟩
set_option maxHeartbeats 1000000 in
set_option maxRecDepth 20000 in
theorem eqfT_runs (ta ua : Option Addr) (tc uc : Nat) (ls us : List T) (w0 : World) (R R' : Nat → Prop) (ih : ∀ x ∈ ls, ∀ (y : T) (cs cs' : List Value) (w : World) (R R' : Nat → Prop), VT w R cs x → VT w R' cs' y → Runs Try.prog 46 #[.agg cs.toArray, .agg cs'.toArray] w fun v w' => v = .bool (sameB x y) ∧ Ext w w')
    (hT : SlT w0 R ta ls) (hU : SlT w0 R' ua us) (hl : lenOk ls.length tc) (hu : lenOk us.length uc) :
    Runs Try.prog 54 #[.slice ta ls.length tc, .slice ua us.length uc, .func (.func 46) #[] #[]] w0 fun v w' => v = .bool (sameBs ls us) ∧ Ext w0 w' := by
  refine Runs.of_W (vs := [_, _, _]) Try.func54 rfl rfl ?_
  refine W.seqK fun K1 hK1 => ?_
  refine W.region ?_
  refine Rg.od rfl rfl rfl (OpT.assign rfl ?_)
  refine Rg.nil ?_
  refine hK1 _ _ ?_
  refine W.seqK fun K2 hK2 => ?_
  refine W.seqK fun K3 hK3 => ?_
  refine W.region ?_
  refine Rg.od rfl rfl rfl (OpT.move rfl ?_)
  refine Rg.od rfl rfl rfl (OpT.lenS Try.underlying24 rfl ?_)
  refine Rg.od rfl rfl rfl (OpT.move rfl ?_)
  refine Rg.od rfl rfl rfl (OpT.lenS Try.underlying24 rfl ?_)
  refine Rg.od rfl rfl rfl (OpT.neqI rfl rfl ?_)
  refine Rg.nil ?_
  refine hK3 _ _ ?_
  rcases Bool.eq_false_or_eq_true (decide (((ls.length : Nat) : Int) = ((us.length : Nat) : Int))) with hb4 | hb4
  · have hp4 := of_decide_eq_true hb4
    refine W.condFb rfl (nT hb4) ?_
    refine W.skip ?_
    refine hK2 _ _ ?_
    refine W.seqK fun K5 hK5 => ?_
    refine W.seqK fun K6 hK6 => ?_
    refine W.region ?_
    refine Rg.od rfl rfl rfl (OpT.move rfl ?_)
    refine Rg.od rfl rfl rfl (OpT.lenS Try.underlying24 rfl ?_)
    refine Rg.od rfl rfl rfl (OpT.move rfl ?_)
    refine Rg.nil ?_
    refine hK6 _ _ ?_
    refine W.block ?_
    refine W.loop (σ := Nat) (fun q e w' => Sub [(0, .slice ta ls.length tc), (1, .slice ua us.length uc), (2, .func (.func 46) #[] #[]), (6, .bool false), (10, .slice ta ls.length tc), (11, .int .i64 ((ls.length : Nat) : Int)), (12, .slice ua us.length uc), (13, .int .i64 ((us.length : Nat) : Int)), (14, .bool (!decide (((ls.length : Nat) : Int) = ((us.length : Nat) : Int)))), (15, .slice ta ls.length tc), (16, .int .i64 ((ls.length : Nat) : Int)), (17, .int .i64 ((q : Nat) : Int))] e ∧ Ext w0 w' ∧ q ≤ ls.length ∧ ls.take q = us.take q) (fun q => ls.length - q) 0
      ⟨⟨rfl, rfl, rfl, rfl, rfl, rfl, rfl, rfl, rfl, rfl, rfl, rfl, trivial⟩, Mod.refl _ _, Nat.zero_le _, rfl⟩ ?_
    rintro s7 en7 w7 ⟨hs7, x7, hi7_0, hi7_1⟩
    refine W.sub hs7 ?_
    refine W.seqK fun K8 hK8 => ?_
    refine W.region ?_
    refine Rg.od rfl rfl rfl (OpT.lss rfl rfl ?_)
    refine Rg.nil ?_
    refine hK8 _ _ ?_
    refine W.seqK fun K9 hK9 => ?_
    rcases Bool.eq_false_or_eq_true (decide (((s7 : Nat) : Int) < ((ls.length : Nat) : Int))) with hb10 | hb10
    · have hp10 := of_decide_eq_true hb10
      refine W.condTb rfl hb10 ?_
      refine W.skip ?_
      refine hK9 _ _ ?_
      refine W.seqK fun K11 hK11 => ?_
      refine W.block ?_
      refine W.seqK fun K12 hK12 => ?_
      refine W.region ?_
      refine Rg.od rfl rfl rfl (OpT.move rfl ?_)
      obtain ⟨a13, cs13, ha13, hr13, hw13, hv13⟩ := hT.at (i := s7) (by first | omega | (unfold lenOk at *; omega))
      obtain ⟨k13, n13, s13, ls13, ts13, la13, lc13, ta13, tc13, et13, rfl, hk13, hn13, hs13, hl13, ht13, hL13, hT13⟩ := hv13.inv
      refine Rg.od rfl rfl rfl (OpT.indexAddr Try.underlying24 Try.sizeOf26 rfl rfl ha13 (by first | omega | (unfold lenOk at *; omega)) ?_)
      refine Rg.od rfl rfl rfl (OpT.loadA (cs := [.int .u8 k13, .int .i64 n13, .string s13, .slice la13 ls13.length lc13, .slice ta13 ts13.length tc13]) Try.isAgg26 Try.sizeOf26 rfl (hw13.ext x7) ?_)
      refine Rg.od rfl rfl rfl (OpT.alloc Try.zeroValue26 fun w14 g14 e14 x14 z14 b14 => ?_)
      replace b14 : Box w14 g14 [.int .u8 0, .int .i64 0, .string (⟨#[]⟩ : ByteArray), .slice none 0 0, .slice none 0 0] := b14
      refine Rg.od rfl rfl rfl (OpT.assign rfl ?_)
      refine Rg.on rfl rfl (OpT.storeA Try.sizeOf26 rfl rfl rfl rfl b14 rfl fun w15 m15 z15 b15 => ?_)
      replace b15 : Box w15 g14 [.int .u8 k13, .int .i64 n13, .string s13, .slice la13 ls13.length lc13, .slice ta13 ts13.length tc13] := b15
      refine Rg.nil ?_
      refine hK12 _ _ ?_
      refine W.seqK fun K16 hK16 => ?_
      refine W.region ?_
      refine Rg.od rfl rfl rfl (OpT.move rfl ?_)
      refine Rg.od rfl rfl rfl (OpT.move rfl ?_)
      obtain ⟨a17, cs17, ha17, hr17, hw17, hv17⟩ := hU.at (i := s7) (by first | omega | (unfold lenOk at *; omega))
      obtain ⟨k17, n17, s17, ls17, ts17, la17, lc17, ta17, tc17, et17, rfl, hk17, hn17, hs17, hl17, ht17, hL17, hT17⟩ := hv17.inv
      refine Rg.od rfl rfl rfl (OpT.indexAddr Try.underlying24 Try.sizeOf26 rfl rfl ha17 (by first | omega | (unfold lenOk at *; omega)) ?_)
      refine Rg.od rfl rfl rfl (OpT.loadA (cs := [.int .u8 k17, .int .i64 n17, .string s17, .slice la17 ls17.length lc17, .slice ta17 ts17.length tc17]) Try.isAgg26 Try.sizeOf26 rfl (hw17.ext ((x7.trans x14).upd m15 (by have h1 := x7.size; omega))) ?_)
      refine Rg.od rfl rfl rfl (OpT.alloc Try.zeroValue26 fun w18 g18 e18 x18 z18 b18 => ?_)
      replace b18 : Box w18 g18 [.int .u8 0, .int .i64 0, .string (⟨#[]⟩ : ByteArray), .slice none 0 0, .slice none 0 0] := b18
      refine Rg.on rfl rfl (OpT.storeA Try.sizeOf26 rfl rfl rfl rfl b18 rfl fun w19 m19 z19 b19 => ?_)
      replace b19 : Box w19 g18 [.int .u8 k17, .int .i64 n17, .string s17, .slice la17 ls17.length lc17, .slice ta17 ts17.length tc17] := b19
      refine Rg.nil ?_
      refine hK16 _ _ ?_
      refine W.seqK fun K20 hK20 => ?_
      refine W.region ?_
      refine Rg.od rfl rfl rfl (OpT.move rfl ?_)
      refine Rg.od rfl rfl rfl (OpT.loadAB Try.isAgg26 Try.sizeOf26 rfl ((b15.ext x18).upd m19 (by have h1 := Nat.le_trans (Nat.le_refl w14.heap.size) m15.size; omega)) rfl ?_)
      refine Rg.od rfl rfl rfl (OpT.loadAB Try.isAgg26 Try.sizeOf26 rfl b19 rfl ?_)
      refine Rg.od rfl rfl rfl (OpT.callV Try.call46 rfl (.cons rfl (.cons rfl .nil)) (Runs.mono (ih _ (List.getElem_mem (by omega)) _ _ _ _ _ _ (hv13.ext ((((x7.trans x14).upd m15 (by have h1 := x7.size; omega)).trans x18).upd m19 (by have h1 := ((x7.trans x14).upd m15 (by have h1 := x7.size; omega)).size; omega))) (hv17.ext ((((x7.trans x14).upd m15 (by have h1 := x7.size; omega)).trans x18).upd m19 (by have h1 := ((x7.trans x14).upd m15 (by have h1 := x7.size; omega)).size; omega)))) ?_))
      rintro _ w21 ⟨rfl, x21⟩
      refine Rg.od rfl rfl rfl (OpT.notB rfl ?_)
      refine Rg.nil ?_
      refine hK20 _ _ ?_
      rcases Bool.eq_false_or_eq_true (sameB (ls[s7]) (us[s7])) with hb22 | hb22
      · have hp22 := hb22
        refine W.condFb rfl (nT hb22) ?_
        refine W.skip ?_
        refine hK11 _ _ ?_
        refine W.region ?_
        refine Rg.od rfl rfl rfl (OpT.add rfl rfl (by first | omega | (unfold lenOk at *; omega)) ?_)
        refine Rg.od rfl rfl rfl (OpT.move rfl ?_)
        refine Rg.nil ?_
        exact ⟨s7 + 1, ⟨⟨rfl, rfl, rfl, rfl, rfl, rfl, rfl, rfl, rfl, rfl, rfl, rfl, trivial⟩, (((((x7.trans x14).upd m15 (by have h1 := x7.size; omega)).trans x18).upd m19 (by have h1 := ((x7.trans x14).upd m15 (by have h1 := x7.size; omega)).size; omega)).trans x21), by omega, take_eq_succ hi7_1 (by omega) (by omega) ((sameB_iff _ _).1 (hb22))⟩, by omega⟩
      · have hp22 := hb22
        refine W.condTb rfl (nF hb22) ?_
        refine W.seqK fun K23 hK23 => ?_
        refine W.region ?_
        refine Rg.od rfl rfl rfl (OpT.assign rfl ?_)
        refine Rg.nil ?_
        refine hK23 _ _ ?_
        refine W.ret ?_
        refine ⟨_, Res.one rfl rfl, ?_⟩
        exact ⟨congrArg Value.bool (no_of_iff (sameBs_iff _ _) (ne_at (q := s7) (by omega) (by omega) (T.same_no hb22))), (((((x7.trans x14).upd m15 (by have h1 := x7.size; omega)).trans x18).upd m19 (by have h1 := ((x7.trans x14).upd m15 (by have h1 := x7.size; omega)).size; omega)).trans x21)⟩
    · have hp10 := of_decide_eq_false hb10
      refine W.condFb rfl hb10 ?_
      refine W.exit ?_
      refine hK5 _ _ ?_
      refine W.seqK fun K24 hK24 => ?_
      refine W.region ?_
      refine Rg.od rfl rfl rfl (OpT.assign rfl ?_)
      refine Rg.nil ?_
      refine hK24 _ _ ?_
      refine W.ret ?_
      refine ⟨_, Res.one rfl rfl, ?_⟩
      exact ⟨congrArg Value.bool ((sameBs_iff _ _).2 (take_all hi7_1 (by omega) (by omega))).symm, x7⟩
  · have hp4 := of_decide_eq_false hb4
    refine W.condTb rfl (nF hb4) ?_
    refine W.seqK fun K25 hK25 => ?_
    refine W.region ?_
    refine Rg.od rfl rfl rfl (OpT.assign rfl ?_)
    refine Rg.nil ?_
    refine hK25 _ _ ?_
    refine W.ret ?_
    refine ⟨_, Res.one rfl rfl, ?_⟩
    exact ⟨congrArg Value.bool (no_of_iff (sameBs_iff _ _) (fun e => by subst e; omega)), (Ext.refl _)⟩
set_option maxHeartbeats 1000000 in
set_option maxRecDepth 20000 in
theorem same_runs (x : T) : ∀ (y : T) (cs cs' : List Value) (w : World) (R R' : Nat → Prop) (hx : VT w R cs x) (hy : VT w R' cs' y), Runs Try.prog 46 #[.agg cs.toArray, .agg cs'.toArray] w fun v w' => v = .bool (sameB x y) ∧ Ext w w' := by
  induction x using T.ind with
  | h ka na sa lsa tsa ih =>
  intro y cs cs' w0 R R' hx hy
  obtain ⟨ka1, na1, sa1, lsa1, tsa1, laa, lca, taa, tca, e1, rfl, hka, hna, hsa, hla, hta, hLa, hTa⟩ := hx.inv
  obtain ⟨kb, nb, sb, lsb, tsb, lab, lcb, tab, tcb, e2, rfl, hkb, hnb, hsb, hlb, htb, hLb, hTb⟩ := hy.inv
  cases e1
  cases e2
  refine Runs.of_W (vs := [_, _]) Try.func46 rfl rfl ?_
  refine W.seqK fun K1 hK1 => ?_
  refine W.region ?_
  refine Rg.od rfl rfl rfl (OpT.box rfl fun w2 g2 e2 x2 z2 b2 => ?_)
  replace b2 : Box w2 g2 [.int .u8 ka, .int .i64 na, .string sa, .slice laa lsa.length lca, .slice taa tsa.length tca] := b2
  refine Rg.od rfl rfl rfl (OpT.box rfl fun w3 g3 e3 x3 z3 b3 => ?_)
  replace b3 : Box w3 g3 [.int .u8 kb, .int .i64 nb, .string sb, .slice lab lsb.length lcb, .slice tab tsb.length tcb] := b3
  refine Rg.od rfl rfl rfl (OpT.assign rfl ?_)
  refine Rg.nil ?_
  refine hK1 _ _ ?_
  refine W.seqK fun K4 hK4 => ?_
  refine W.region ?_
  refine Rg.od rfl rfl rfl (OpT.fieldAddrB (off := 0) Try.underlying26 rfl Try.sizeOf5 rfl rfl ?_)
  refine Rg.od rfl rfl rfl (OpT.loadB Try.isAgg5 rfl (b2.ext x3) rfl ?_)
  refine Rg.od rfl rfl rfl (OpT.fieldAddrB (off := 0) Try.underlying26 rfl Try.sizeOf5 rfl rfl ?_)
  refine Rg.od rfl rfl rfl (OpT.loadB Try.isAgg5 rfl b3 rfl ?_)
  refine Rg.od rfl rfl rfl (OpT.eqlI rfl rfl ?_)
  refine Rg.od rfl rfl rfl (OpT.move rfl ?_)
  rcases Bool.eq_false_or_eq_true (decide (ka = kb)) with hb5 | hb5
  · have hp5 := of_decide_eq_true hb5
    refine Rg.gy rfl rfl rfl rfl hb5 (OpT.fieldAddrB (off := 1) Try.underlying26 rfl Try.sizeOf3 rfl rfl ?_)
    refine Rg.gy rfl rfl rfl rfl hb5 (OpT.loadB Try.isAgg3 rfl (b2.ext x3) rfl ?_)
    refine Rg.gy rfl rfl rfl rfl hb5 (OpT.fieldAddrB (off := 1) Try.underlying26 rfl Try.sizeOf3 rfl rfl ?_)
    refine Rg.gy rfl rfl rfl rfl hb5 (OpT.loadB Try.isAgg3 rfl b3 rfl ?_)
    refine Rg.gy rfl rfl rfl rfl hb5 (OpT.eqlI rfl rfl ?_)
    refine Rg.od rfl rfl rfl (OpT.pickT rfl hb5 rfl ?_)
    refine Rg.od rfl rfl rfl (OpT.move rfl ?_)
    rcases Bool.eq_false_or_eq_true (decide (na = nb)) with hb6 | hb6
    · have hp6 := of_decide_eq_true hb6
      refine Rg.gy rfl rfl rfl rfl hb6 (OpT.fieldAddrB (off := 2) Try.underlying26 rfl Try.sizeOf9 rfl rfl ?_)
      refine Rg.gy rfl rfl rfl rfl hb6 (OpT.loadB Try.isAgg9 rfl (b2.ext x3) rfl ?_)
      refine Rg.gy rfl rfl rfl rfl hb6 (OpT.fieldAddrB (off := 2) Try.underlying26 rfl Try.sizeOf9 rfl rfl ?_)
      refine Rg.gy rfl rfl rfl rfl hb6 (OpT.loadB Try.isAgg9 rfl b3 rfl ?_)
      refine Rg.gy rfl rfl rfl rfl hb6 (OpT.eqlS rfl rfl ?_)
      refine Rg.od rfl rfl rfl (OpT.pickT rfl hb6 rfl ?_)
      refine Rg.od rfl rfl rfl (OpT.move rfl ?_)
      rcases Bool.eq_false_or_eq_true (sa.toList == sb.toList) with hb7 | hb7
      · have hp7 := hb7
        refine Rg.gy rfl rfl rfl rfl hb7 (OpT.fieldAddrB (off := 3) Try.underlying26 rfl Try.sizeOf23 rfl rfl ?_)
        refine Rg.gy rfl rfl rfl rfl hb7 (OpT.loadB Try.isAgg23 rfl (b2.ext x3) rfl ?_)
        refine Rg.gy rfl rfl rfl rfl hb7 (OpT.fieldAddrB (off := 3) Try.underlying26 rfl Try.sizeOf23 rfl rfl ?_)
        refine Rg.gy rfl rfl rfl rfl hb7 (OpT.loadB Try.isAgg23 rfl b3 rfl ?_)
        refine Rg.gy rfl rfl rfl rfl hb7 (OpT.call Try.call53 (.cons rfl (.cons rfl .nil)) (Runs.mono (eqL_runs _ _ _ _ _ _ _ _ _ (hLa.ext (x2.trans x3)) (hLb.ext (x2.trans x3)) (by first | assumption | (unfold lenOk at *; omega)) (by first | assumption | (unfold lenOk at *; omega))) ?_))
        rintro _ w8 ⟨rfl, x8⟩
        refine Rg.od rfl rfl rfl (OpT.pickT rfl hb7 rfl ?_)
        refine Rg.od rfl rfl rfl (OpT.move rfl ?_)
        rcases Bool.eq_false_or_eq_true (lsSame lsa lsb) with hb9 | hb9
        · have hp9 := hb9
          refine Rg.gy rfl rfl rfl rfl hb9 (OpT.fieldAddrB (off := 4) Try.underlying26 rfl Try.sizeOf24 rfl rfl ?_)
          refine Rg.gy rfl rfl rfl rfl hb9 (OpT.loadB Try.isAgg24 rfl (b2.ext (x3.trans x8)) rfl ?_)
          refine Rg.gy rfl rfl rfl rfl hb9 (OpT.fieldAddrB (off := 4) Try.underlying26 rfl Try.sizeOf24 rfl rfl ?_)
          refine Rg.gy rfl rfl rfl rfl hb9 (OpT.loadB Try.isAgg24 rfl (b3.ext x8) rfl ?_)
          refine Rg.gy rfl rfl rfl rfl hb9 (OpT.call Try.call54 (.cons rfl (.cons rfl (.cons rfl .nil))) (Runs.mono (eqfT_runs _ _ _ _ _ _ _ _ _ ih (hTa.ext ((x2.trans x3).trans x8)) (hTb.ext ((x2.trans x3).trans x8)) (by first | assumption | (unfold lenOk at *; omega)) (by first | assumption | (unfold lenOk at *; omega))) ?_))
          rintro _ w10 ⟨rfl, x10⟩
          refine Rg.od rfl rfl rfl (OpT.pickT rfl hb9 rfl ?_)
          refine Rg.od rfl rfl rfl (OpT.assign rfl ?_)
          refine Rg.nil ?_
          refine hK4 _ _ ?_
          refine W.ret ?_
          refine ⟨_, Res.one rfl rfl, ?_⟩
          refine ⟨congrArg Value.bool ?_, (((x2.trans x3).trans x8).trans x10)⟩
          rw [sameB]
          clear hx hy hLa hTa hLb hTb hla hta hlb htb hsa hsb hna hnb hka hkb ih
          grind
        · have hp9 := hb9
          refine Rg.gn rfl rfl rfl rfl hb9 ?_
          refine Rg.gn rfl rfl rfl rfl hb9 ?_
          refine Rg.gn rfl rfl rfl rfl hb9 ?_
          refine Rg.gn rfl rfl rfl rfl hb9 ?_
          refine Rg.gn rfl rfl rfl rfl hb9 ?_
          refine Rg.od rfl rfl rfl (OpT.pickF rfl hb9 rfl ?_)
          refine Rg.od rfl rfl rfl (OpT.assign rfl ?_)
          refine Rg.nil ?_
          refine hK4 _ _ ?_
          refine W.ret ?_
          refine ⟨_, Res.one rfl rfl, ?_⟩
          refine ⟨congrArg Value.bool ?_, ((x2.trans x3).trans x8)⟩
          rw [sameB]
          clear hx hy hLa hTa hLb hTb hla hta hlb htb hsa hsb hna hnb hka hkb ih
          grind
      · have hp7 := hb7
        refine Rg.gn rfl rfl rfl rfl hb7 ?_
        refine Rg.gn rfl rfl rfl rfl hb7 ?_
        refine Rg.gn rfl rfl rfl rfl hb7 ?_
        refine Rg.gn rfl rfl rfl rfl hb7 ?_
        refine Rg.gn rfl rfl rfl rfl hb7 ?_
        refine Rg.od rfl rfl rfl (OpT.pickF rfl hb7 rfl ?_)
        refine Rg.od rfl rfl rfl (OpT.move rfl ?_)
        refine Rg.gn rfl rfl rfl rfl rfl ?_
        refine Rg.gn rfl rfl rfl rfl rfl ?_
        refine Rg.gn rfl rfl rfl rfl rfl ?_
        refine Rg.gn rfl rfl rfl rfl rfl ?_
        refine Rg.gn rfl rfl rfl rfl rfl ?_
        refine Rg.od rfl rfl rfl (OpT.pickF rfl rfl rfl ?_)
        refine Rg.od rfl rfl rfl (OpT.assign rfl ?_)
        refine Rg.nil ?_
        refine hK4 _ _ ?_
        refine W.ret ?_
        refine ⟨_, Res.one rfl rfl, ?_⟩
        refine ⟨congrArg Value.bool ?_, (x2.trans x3)⟩
        rw [sameB]
        clear hx hy hLa hTa hLb hTb hla hta hlb htb hsa hsb hna hnb hka hkb ih
        grind
    · have hp6 := of_decide_eq_false hb6
      refine Rg.gn rfl rfl rfl rfl hb6 ?_
      refine Rg.gn rfl rfl rfl rfl hb6 ?_
      refine Rg.gn rfl rfl rfl rfl hb6 ?_
      refine Rg.gn rfl rfl rfl rfl hb6 ?_
      refine Rg.gn rfl rfl rfl rfl hb6 ?_
      refine Rg.od rfl rfl rfl (OpT.pickF rfl hb6 rfl ?_)
      refine Rg.od rfl rfl rfl (OpT.move rfl ?_)
      refine Rg.gn rfl rfl rfl rfl rfl ?_
      refine Rg.gn rfl rfl rfl rfl rfl ?_
      refine Rg.gn rfl rfl rfl rfl rfl ?_
      refine Rg.gn rfl rfl rfl rfl rfl ?_
      refine Rg.gn rfl rfl rfl rfl rfl ?_
      refine Rg.od rfl rfl rfl (OpT.pickF rfl rfl rfl ?_)
      refine Rg.od rfl rfl rfl (OpT.move rfl ?_)
      refine Rg.gn rfl rfl rfl rfl rfl ?_
      refine Rg.gn rfl rfl rfl rfl rfl ?_
      refine Rg.gn rfl rfl rfl rfl rfl ?_
      refine Rg.gn rfl rfl rfl rfl rfl ?_
      refine Rg.gn rfl rfl rfl rfl rfl ?_
      refine Rg.od rfl rfl rfl (OpT.pickF rfl rfl rfl ?_)
      refine Rg.od rfl rfl rfl (OpT.assign rfl ?_)
      refine Rg.nil ?_
      refine hK4 _ _ ?_
      refine W.ret ?_
      refine ⟨_, Res.one rfl rfl, ?_⟩
      refine ⟨congrArg Value.bool ?_, (x2.trans x3)⟩
      rw [sameB]
      clear hx hy hLa hTa hLb hTb hla hta hlb htb hsa hsb hna hnb hka hkb ih
      grind
  · have hp5 := of_decide_eq_false hb5
    refine Rg.gn rfl rfl rfl rfl hb5 ?_
    refine Rg.gn rfl rfl rfl rfl hb5 ?_
    refine Rg.gn rfl rfl rfl rfl hb5 ?_
    refine Rg.gn rfl rfl rfl rfl hb5 ?_
    refine Rg.gn rfl rfl rfl rfl hb5 ?_
    refine Rg.od rfl rfl rfl (OpT.pickF rfl hb5 rfl ?_)
    refine Rg.od rfl rfl rfl (OpT.move rfl ?_)
    refine Rg.gn rfl rfl rfl rfl rfl ?_
    refine Rg.gn rfl rfl rfl rfl rfl ?_
    refine Rg.gn rfl rfl rfl rfl rfl ?_
    refine Rg.gn rfl rfl rfl rfl rfl ?_
    refine Rg.gn rfl rfl rfl rfl rfl ?_
    refine Rg.od rfl rfl rfl (OpT.pickF rfl rfl rfl ?_)
    refine Rg.od rfl rfl rfl (OpT.move rfl ?_)
    refine Rg.gn rfl rfl rfl rfl rfl ?_
    refine Rg.gn rfl rfl rfl rfl rfl ?_
    refine Rg.gn rfl rfl rfl rfl rfl ?_
    refine Rg.gn rfl rfl rfl rfl rfl ?_
    refine Rg.gn rfl rfl rfl rfl rfl ?_
    refine Rg.od rfl rfl rfl (OpT.pickF rfl rfl rfl ?_)
    refine Rg.od rfl rfl rfl (OpT.move rfl ?_)
    refine Rg.gn rfl rfl rfl rfl rfl ?_
    refine Rg.gn rfl rfl rfl rfl rfl ?_
    refine Rg.gn rfl rfl rfl rfl rfl ?_
    refine Rg.gn rfl rfl rfl rfl rfl ?_
    refine Rg.gn rfl rfl rfl rfl rfl ?_
    refine Rg.od rfl rfl rfl (OpT.pickF rfl rfl rfl ?_)
    refine Rg.od rfl rfl rfl (OpT.assign rfl ?_)
    refine Rg.nil ?_
    refine hK4 _ _ ?_
    refine W.ret ?_
    refine ⟨_, Res.one rfl rfl, ?_⟩
    refine ⟨congrArg Value.bool ?_, (x2.trans x3)⟩
    rw [sameB]
    clear hx hy hLa hTa hLb hTb hla hta hlb htb hsa hsb hna hnb hka hkb ih
    grind
set_option maxHeartbeats 1000000 in
set_option maxRecDepth 20000 in
theorem Same_runs (x y : T) (cx cy : List Value) (w0 : World) (R R' : Nat → Prop) (hx : VT w0 R cx x) (hy : VT w0 R' cy y) : Runs Try.prog 30 #[.agg cx.toArray, .agg cy.toArray] w0 fun v w' => v = .bool (mayT x && mayT y && sameB x y) ∧ Ext w0 w' := by
  obtain ⟨kx, nx, sx, lsx, tsx, lax, lcx, tax, tcx, etx, rfl, hkx, hnx, hsx, hlx, htx, hLx, hTx⟩ := hx.inv
  obtain ⟨ky, ny, sy, lsy, tsy, lay, lcy, tay, tcy, ety, rfl, hky, hny, hsy, hly, hty, hLy, hTy⟩ := hy.inv
  refine Runs.of_W (vs := [_, _]) Try.func30 rfl rfl ?_
  refine W.seqK fun K1 hK1 => ?_
  refine W.region ?_
  refine Rg.od rfl rfl rfl (OpT.box rfl fun w2 g2 e2 x2 z2 b2 => ?_)
  replace b2 : Box w2 g2 [.int .u8 kx, .int .i64 nx, .string sx, .slice lax lsx.length lcx, .slice tax tsx.length tcx] := b2
  refine Rg.od rfl rfl rfl (OpT.box rfl fun w3 g3 e3 x3 z3 b3 => ?_)
  replace b3 : Box w3 g3 [.int .u8 ky, .int .i64 ny, .string sy, .slice lay lsy.length lcy, .slice tay tsy.length tcy] := b3
  refine Rg.od rfl rfl rfl (OpT.assign rfl ?_)
  refine Rg.nil ?_
  refine hK1 _ _ ?_
  refine W.seqK fun K4 hK4 => ?_
  refine W.region ?_
  refine Rg.od rfl rfl rfl (OpT.loadAB Try.isAgg26 Try.sizeOf26 rfl (b2.ext x3) rfl ?_)
  refine Rg.od rfl rfl rfl (OpT.call Try.call8 (.cons rfl .nil) (Runs.mono (may_runs _ _ _ _ (hx.ext (x2.trans x3))) ?_))
  rintro _ w5 ⟨rfl, x5⟩
  refine Rg.od rfl rfl rfl (OpT.move rfl ?_)
  rcases Bool.eq_false_or_eq_true (mayT x) with hb6 | hb6
  · have hp6 := hb6
    refine Rg.gy rfl rfl rfl rfl hb6 (OpT.loadAB Try.isAgg26 Try.sizeOf26 rfl (b3.ext x5) rfl ?_)
    refine Rg.gy rfl rfl rfl rfl hb6 (OpT.call Try.call8 (.cons rfl .nil) (Runs.mono (may_runs _ _ _ _ (hy.ext ((x2.trans x3).trans x5))) ?_))
    rintro _ w7 ⟨rfl, x7⟩
    refine Rg.od rfl rfl rfl (OpT.pickT rfl hb6 rfl ?_)
    refine Rg.od rfl rfl rfl (OpT.move rfl ?_)
    rcases Bool.eq_false_or_eq_true (mayT y) with hb8 | hb8
    · have hp8 := hb8
      refine Rg.gy rfl rfl rfl rfl hb8 (OpT.loadAB Try.isAgg26 Try.sizeOf26 rfl (b2.ext ((x3.trans x5).trans x7)) rfl ?_)
      refine Rg.gy rfl rfl rfl rfl hb8 (OpT.loadAB Try.isAgg26 Try.sizeOf26 rfl (b3.ext (x5.trans x7)) rfl ?_)
      refine Rg.gy rfl rfl rfl rfl hb8 (OpT.call Try.call46 (.cons rfl (.cons rfl .nil)) (Runs.mono (same_runs _ _ _ _ _ _ _ (hx.ext (((x2.trans x3).trans x5).trans x7)) (hy.ext (((x2.trans x3).trans x5).trans x7))) ?_))
      rintro _ w9 ⟨rfl, x9⟩
      refine Rg.od rfl rfl rfl (OpT.pickT rfl hb8 rfl ?_)
      refine Rg.od rfl rfl rfl (OpT.assign rfl ?_)
      refine Rg.nil ?_
      refine hK4 _ _ ?_
      refine W.ret ?_
      refine ⟨_, Res.one rfl rfl, ?_⟩
      refine ⟨congrArg Value.bool ?_, ((((x2.trans x3).trans x5).trans x7).trans x9)⟩
      clear hLx hTx hLy hTy
      simp only [hb6, hb8, Bool.and_true, Bool.true_and, Bool.and_false, Bool.false_and]
    · have hp8 := hb8
      refine Rg.gn rfl rfl rfl rfl hb8 ?_
      refine Rg.gn rfl rfl rfl rfl hb8 ?_
      refine Rg.gn rfl rfl rfl rfl hb8 ?_
      refine Rg.od rfl rfl rfl (OpT.pickF rfl hb8 rfl ?_)
      refine Rg.od rfl rfl rfl (OpT.assign rfl ?_)
      refine Rg.nil ?_
      refine hK4 _ _ ?_
      refine W.ret ?_
      refine ⟨_, Res.one rfl rfl, ?_⟩
      refine ⟨congrArg Value.bool ?_, (((x2.trans x3).trans x5).trans x7)⟩
      clear hLx hTx hLy hTy
      simp only [hb6, hb8, Bool.and_true, Bool.true_and, Bool.and_false, Bool.false_and]
  · have hp6 := hb6
    refine Rg.gn rfl rfl rfl rfl hb6 ?_
    refine Rg.gn rfl rfl rfl rfl hb6 ?_
    refine Rg.od rfl rfl rfl (OpT.pickF rfl hb6 rfl ?_)
    refine Rg.od rfl rfl rfl (OpT.move rfl ?_)
    refine Rg.gn rfl rfl rfl rfl rfl ?_
    refine Rg.gn rfl rfl rfl rfl rfl ?_
    refine Rg.gn rfl rfl rfl rfl rfl ?_
    refine Rg.od rfl rfl rfl (OpT.pickF rfl rfl rfl ?_)
    refine Rg.od rfl rfl rfl (OpT.assign rfl ?_)
    refine Rg.nil ?_
    refine hK4 _ _ ?_
    refine W.ret ?_
    refine ⟨_, Res.one rfl rfl, ?_⟩
    refine ⟨congrArg Value.bool ?_, ((x2.trans x3).trans x5)⟩
    clear hLx hTx hLy hTy
    simp only [hb6, Bool.and_true, Bool.true_and, Bool.and_false, Bool.false_and]
set_option maxHeartbeats 1000000 in
set_option maxRecDepth 20000 in
theorem Reverse_runs (w0 : World) (lo c : Nat) (A : Option Addr) (css : List (List Value)) (hr : OwnR w0 lo 26 5 A c css) (hone : ∀ r ∈ css, r.all Value.oneCell' = true) :
    Runs Try.prog 34 #[.slice A css.length c] w0 fun v w' => v = .tuple #[] ∧ OwnR w' lo 26 5 A c css.reverse ∧ Mod (fun k => lo ≤ k) w0 w' := by
  have hle := hr.le
  refine Runs.of_W (vs := [_]) Try.func34 rfl rfl ?_
  refine W.seqK fun K1 hK1 => ?_
  refine W.region ?_
  refine Rg.od rfl rfl rfl (OpT.move rfl ?_)
  refine Rg.od rfl rfl rfl (OpT.lenS Try.underlying24 rfl ?_)
  refine Rg.od rfl rfl rfl (OpT.sub rfl rfl (by first | omega | (unfold lenOk at *; omega)) ?_)
  refine Rg.od rfl rfl rfl (OpT.assign rfl ?_)
  refine Rg.od rfl rfl rfl (OpT.assign rfl ?_)
  refine Rg.nil ?_
  refine hK1 _ _ ?_
  refine W.block ?_
  refine W.loop (σ := Nat) (fun q e w' => Sub [(0, .slice A css.length c), (2, .int .i64 ((q : Nat) : Int)), (3, .int .i64 (((css.length : Nat) : Int) - 1 - ((q : Nat) : Int)))] e ∧ Mod (fun k => lo ≤ k) w0 w' ∧ OwnR w' lo 26 5 A c (revTo css q) ∧ 2 * q ≤ css.length) (fun q => css.length - q) 0
    ⟨⟨rfl, rfl, intSlot (by omega) rfl, trivial⟩, Mod.refl _ _, hr, by omega⟩ ?_
  rintro q en w5 ⟨hs5, x5, r5, hq5⟩
  refine W.sub hs5 ?_
  have hlen := revTo_length css q
  refine W.seqK fun K2 hK2 => ?_
  refine W.seqK fun K3 hK3 => ?_
  refine W.region ?_
  refine Rg.od rfl rfl rfl (OpT.move rfl ?_)
  refine Rg.od rfl rfl rfl (OpT.move rfl ?_)
  refine Rg.od rfl rfl rfl (OpT.lss rfl rfl ?_)
  refine Rg.nil ?_
  refine hK3 _ _ ?_
  rcases Bool.eq_false_or_eq_true (decide (((q : Nat) : Int) < (((css.length : Nat) : Int) - 1 - ((q : Nat) : Int)))) with hb4 | hb4
  · have hp4 := of_decide_eq_true hb4
    refine W.condTb rfl hb4 ?_
    refine W.skip ?_
    refine hK2 _ _ ?_
    refine W.seqK fun K5 hK5 => ?_
    refine W.block ?_
    obtain ⟨ra, hra⟩ : ∃ ra, (revTo css q)[css.length - 1 - q]? = some ra := ⟨_, List.getElem?_eq_getElem (by omega)⟩
    obtain ⟨rb, hrb⟩ : ∃ rb, (revTo css q)[q]? = some rb := ⟨_, List.getElem?_eq_getElem (by omega)⟩
    obtain ⟨g, rfl, hlg, hwa⟩ := r5.at hra
    obtain ⟨g2, hg2, _, hwb⟩ := r5.at hrb
    cases hg2
    have hla := r5.1 _ (List.mem_of_getElem? hra)
    have hlb := r5.1 _ (List.mem_of_getElem? hrb)
    have h1a : ra.all Value.oneCell' = true := (revTo_mem css q _ (List.mem_of_getElem? hra)).elim (hone _) fun h => by rw [h]; rfl
    have h1b : rb.all Value.oneCell' = true := (revTo_mem css q _ (List.mem_of_getElem? hrb)).elim (hone _) fun h => by rw [h]; rfl
    have hi1 : (((css.length : Nat) : Int) - 1 - ((q : Nat) : Int)) = ((css.length - 1 - q : Nat) : Int) := by omega
    refine W.drawT 14 (⟨fun k => lo ≤ k, fun k w' => OwnR w' lo 26 5 (some ⟨g, 0, none⟩) c (if k = 0 then revTo css q else (revTo css q).set q ra), [none, none, none, none, none, none, none, none, none, none, none, none, none, some 0]⟩ : Plan) 1 [.ex (.slice (some ⟨g, 0, none⟩) css.length c), .ex (.int .i64 ((q : Nat) : Int)), .ex (.slice (some ⟨g, 0, none⟩) css.length c), .ex (.int .i64 (((css.length : Nat) : Int) - 1 - ((q : Nat) : Int))), .ex (.slice (some ⟨g, 0, none⟩) css.length c), .ex (.int .i64 (((css.length : Nat) : Int) - 1 - ((q : Nat) : Int))), .ex (.pointer (some ((⟨g, 0, none⟩ : Addr).add ((css.length - 1 - q) * 5)))), .ex (.agg ra.toArray), .ex (.slice (some ⟨g, 0, none⟩) css.length c), .ex (.int .i64 ((q : Nat) : Int)), .ex (.pointer (some ((⟨g, 0, none⟩ : Addr).add (q * 5)))), .ex (.agg rb.toArray), .ex (.pointer (some ((⟨g, 0, none⟩ : Addr).add (q * 5)))), .ex (undef)] mixed rfl rfl rfl ⟨trivial, trivial, trivial, trivial, trivial, trivial, trivial, trivial, trivial, trivial, trivial, trivial, trivial, trivial, trivial⟩ (by exact r5) (fun k w1 w2 hx hp => hp.ext hx) (Nat.le_refl 14) ?_ ?_
    · refine ⟨?_, ?_, ?_, ?_, ?_, ?_, ?_, ?_, ?_, ?_, ?_, ?_, ?_, ?_, trivial⟩
      · intro w' hx hp
        exact OpT.move rfl VS.ok
      · intro w' hx hp
        exact OpT.move rfl VS.ok
      · intro w' hx hp
        exact OpT.move rfl VS.ok
      · intro w' hx hp
        exact OpT.move rfl VS.ok
      · intro w' hx hp
        exact OpT.move rfl VS.ok
      · intro w' hx hp
        exact OpT.move rfl VS.ok
      · intro w' hx hp
        exact OpT.indexAddr (i := ((css.length : Nat) : Int) - 1 - ((q : Nat) : Int)) Try.underlying24 Try.sizeOf26 rfl rfl rfl (by omega) (by rw [hi1]; exact VS.ok)
      · intro w' hx hp
        obtain ⟨kk, hkp, hkl⟩ := hp
        have hk0 : kk = 0 := Nat.le_zero.1 (hkl 13 0 (by decide) rfl rfl)
        subst hk0
        obtain ⟨g3, hg3, _, hw3⟩ := OwnR.at (css := revTo css q) hkp hra
        cases hg3
        exact OpT.loadA Try.isAgg26 (by rw [hla]; exact Try.sizeOf26) rfl hw3 VS.ok
      · intro w' hx hp
        exact OpT.move rfl VS.ok
      · intro w' hx hp
        exact OpT.move rfl VS.ok
      · intro w' hx hp
        exact OpT.indexAddr Try.underlying24 Try.sizeOf26 rfl rfl rfl (by omega) VS.ok
      · intro w' hx hp
        obtain ⟨kk, hkp, hkl⟩ := hp
        have hk0 : kk = 0 := Nat.le_zero.1 (hkl 13 0 (by decide) rfl rfl)
        subst hk0
        obtain ⟨g3, hg3, _, hw3⟩ := OwnR.at (css := revTo css q) hkp hrb
        cases hg3
        exact OpT.loadA Try.isAgg26 (by rw [hlb]; exact Try.sizeOf26) rfl hw3 VS.ok
      · intro w' hx hp
        exact OpT.indexAddr Try.underlying24 Try.sizeOf26 rfl rfl rfl (by omega) VS.ok
      · intro w' hx hp
        refine OpT.storeRow Try.sizeOf26 rfl rfl hla h1a hp (by rw [if_pos rfl]; omega) fun w3 m3 z3 r3 => ⟨⟨m3.mono fun k hk => ?_, ?_⟩, rfl⟩
        · have hk9 : k = g := hk
          omega
        · exact r3
    · intro w8 x8 hp8
      refine ⟨rfl, rfl, OpT.indexAddr (i := ((css.length : Nat) : Int) - 1 - ((q : Nat) : Int)) Try.underlying24 Try.sizeOf26 rfl rfl rfl (by omega) ?_⟩
      rw [hi1]
      refine ⟨rfl, rfl, OpT.storeRow (i := css.length - 1 - q) Try.sizeOf26 rfl rfl hlb h1b hp8 (by rw [if_neg (by decide), List.length_set]; omega) fun w9 m9 z9 r9 => ?_⟩
      replace r9 : OwnR w9 lo 26 5 (some ⟨g, 0, none⟩) c (swap (revTo css q) q (css.length - 1 - q)) := by rw [swap, getD_at, getD_at, hra, hrb]; exact r9
      have x9 : Mod (fun k => lo ≤ k) w5 w9 := x8.trans (m9.mono fun k hk => by have hk9 : k = g := hk; omega)
      refine hK5 _ _ ?_
      refine W.region ?_
      refine Rg.od rfl rfl rfl (OpT.move rfl ?_)
      refine Rg.od rfl rfl rfl (OpT.add rfl rfl (by first | omega | (unfold lenOk at *; omega)) ?_)
      refine Rg.od rfl rfl rfl (OpT.move rfl ?_)
      refine Rg.od rfl rfl rfl (OpT.sub rfl rfl (by first | omega | (unfold lenOk at *; omega)) ?_)
      refine Rg.od rfl rfl rfl (OpT.assign rfl ?_)
      refine Rg.od rfl rfl rfl (OpT.assign rfl ?_)
      refine Rg.nil ?_
      exact ⟨q + 1, ⟨⟨rfl, rfl, intSlot (by omega) rfl, trivial⟩, x5.trans x9, by rw [revTo]; exact r9, by omega⟩, by omega⟩
  · have hp4 := of_decide_eq_false hb4
    refine W.condFb rfl hb4 ?_
    refine W.exit ?_
    refine ⟨_, Res.zero rfl, ?_⟩
    exact ⟨rfl, by rw [← revTo_all css q (by omega) (by omega)]; exact r5, x5⟩
set_option maxHeartbeats 1000000 in
set_option maxRecDepth 20000 in
theorem Spine_runs (t : T) (cs : List Value) (w0 : World) (R : Nat → Prop) (hR : ∀ k, w0.heap.size ≤ k → R k) (hv : VT w0 R cs t) : Runs Try.prog 18 #[.agg cs.toArray] w0 fun v w' =>
    ∃ cs' A c, v = .tuple #[.agg cs'.toArray, .slice A (bif mayT t then spArgs t else []).length c] ∧ VT w' R cs' (bif mayT t then head t else tZ) ∧ SlT w' R A (bif mayT t then spArgs t else []) ∧ lenOk (bif mayT t then spArgs t else []).length c ∧ Ext w0 w' := by
  obtain ⟨k, n, s, ls, ts, la, lc, ta, tc, rfl, rfl, hk, hn, hs, hl, ht, hL, hT⟩ := hv.inv
  have hvs := hv.small
  refine Runs.of_W (vs := [_]) Try.func18 rfl rfl ?_
  refine W.seqK fun K1 hK1 => ?_
  refine W.region ?_
  refine Rg.od rfl rfl rfl (OpT.box rfl fun w2 g2 e2 x2 z2 b2 => ?_)
  replace b2 : Box w2 g2 [.int .u8 k, .int .i64 n, .string s, .slice la ls.length lc, .slice ta ts.length tc] := b2
  refine Rg.od rfl rfl rfl (OpT.alloc Try.zeroValue26 fun w3 g3 e3 x3 z3 b3 => ?_)
  replace b3 : Box w3 g3 [.int .u8 0, .int .i64 0, .string (⟨#[]⟩ : ByteArray), .slice none 0 0, .slice none 0 0] := b3
  refine Rg.od rfl rfl rfl (OpT.assign rfl ?_)
  refine Rg.nil ?_
  refine hK1 _ _ ?_
  refine W.seqK fun K4 hK4 => ?_
  refine W.seqK fun K5 hK5 => ?_
  refine W.region ?_
  refine Rg.od rfl rfl rfl (OpT.loadAB Try.isAgg26 Try.sizeOf26 rfl (b2.ext x3) rfl ?_)
  refine Rg.od rfl rfl rfl (OpT.call Try.call8 (.cons rfl .nil) (Runs.mono (may_runs _ _ _ _ (hvs.ext (x2.trans x3))) ?_))
  rintro _ w6 ⟨rfl, x6⟩
  refine Rg.od rfl rfl rfl (OpT.notB rfl ?_)
  refine Rg.nil ?_
  refine hK5 _ _ ?_
  rcases Bool.eq_false_or_eq_true (mayT (T.mk k n s ls ts)) with hb7 | hb7
  · have hp7 := hb7
    refine W.condFb rfl (nT hb7) ?_
    refine W.skip ?_
    refine hK4 _ _ ?_
    refine W.seqK fun K8 hK8 => ?_
    refine W.region ?_
    refine Rg.od rfl rfl rfl (OpT.assign rfl ?_)
    refine Rg.nil ?_
    refine hK8 _ _ ?_
    refine W.seqK fun K9 hK9 => ?_
    refine W.block ?_
    have hmy : mayT (T.mk k n s ls ts) = true := hb7
    have hsz := may_size hmy
    refine W.loop (σ := Sp) (fun q e w' => Sub [(1, .pointer (some ⟨g2, 0, none⟩)), (2, .pointer (some ⟨g3, 0, none⟩)), (4, .slice q.A q.css.length q.c)] e ∧ Mod (fun k => k = g2 ∨ w6.heap.size ≤ k) w6 w' ∧ Box w' g2 q.cs ∧ VT w' (fun k => R k ∧ k < w0.heap.size) q.cs q.t ∧ OwnR w' w6.heap.size 26 5 q.A q.c q.css ∧ VTs w' (fun k => R k ∧ k < w0.heap.size) q.css q.l ∧ nodes q.t = true ∧ q.l.length + size q.t ≤ 65536 ∧ (head (T.mk k n s ls ts) = head q.t ∧ spArgs (T.mk k n s ls ts) = spArgs q.t ++ q.l.reverse) ∧ ∀ r ∈ q.css, r.all Value.oneCell' = true) (fun q => size q.t) ⟨(T.mk k n s ls ts), [], [.int .u8 k, .int .i64 n, .string s, .slice la ls.length lc, .slice ta ts.length tc], none, 0, []⟩
      ⟨⟨rfl, rfl, rfl, trivial⟩, Mod.refl _ _, (b2.ext (x3.trans x6)), (hvs.ext ((x2.trans x3).trans x6)), OwnR.nil _ _ _ _, VTs.nil _ _, may_nodes hmy, by simp only [List.length_nil]; omega, ⟨rfl, by simp⟩, fun r hr => absurd hr (by simp)⟩ ?_
    rintro ⟨qt, ql, qcs, qA, qc, qcss⟩ en w9 ⟨hs9, x9, bx, hvq, hown, hvts, hnd, hszq, hsp, hone⟩
    dsimp only at hs9 bx hvq hown hvts hnd hszq hsp hone
    refine W.sub hs9 ?_
    obtain ⟨kq, nq, sq, lsq, tsq, laq, lcq, taq, tcq, rfl, rfl, hkq, hnq, hsq, hlq, htq, hLq, hTq⟩ := hvq.inv
    refine W.seqK fun K10 hK10 => ?_
    refine W.seqK fun K11 hK11 => ?_
    refine W.region ?_
    refine Rg.od rfl rfl rfl (OpT.fieldAddrB (off := 0) Try.underlying26 rfl Try.sizeOf5 rfl rfl ?_)
    refine Rg.od rfl rfl rfl (OpT.loadB Try.isAgg5 rfl bx rfl ?_)
    refine Rg.od rfl rfl rfl (OpT.eqlI rfl rfl ?_)
    refine Rg.nil ?_
    refine hK11 _ _ ?_
    rcases Bool.eq_false_or_eq_true (decide (kq = 4)) with hb12 | hb12
    · have hp12 := of_decide_eq_true hb12
      refine W.condTb rfl hb12 ?_
      refine W.skip ?_
      refine hK10 _ _ ?_
      refine W.block ?_
      refine W.seqK fun K13 hK13 => ?_
      obtain ⟨hl2, hn4⟩ := node_app2 hnd (of_decide_eq_true hb12)
      have hsz4 := hn4.2.2.1
      refine W.region ?_
      refine Rg.od rfl rfl rfl (OpT.move rfl ?_)
      refine Rg.od rfl rfl rfl (OpT.fieldAddrB (off := 4) Try.underlying26 rfl Try.sizeOf24 rfl rfl ?_)
      refine Rg.od rfl rfl rfl (OpT.loadB Try.isAgg24 rfl bx rfl ?_)
      obtain ⟨a14, cs14, ha14, hr14, hw14, hv14⟩ := hTq.at (i := 1) (by first | omega | (unfold lenOk at *; omega))
      obtain ⟨k14, n14, s14, ls14, ts14, la14, lc14, ta14, tc14, et14, rfl, hk14, hn14, hs14, hl14, ht14, hL14, hT14⟩ := hv14.inv
      refine Rg.od rfl rfl rfl (OpT.indexAddr Try.underlying24 Try.sizeOf26 rfl rfl ha14 (by first | omega | (unfold lenOk at *; omega)) ?_)
      refine Rg.od rfl rfl rfl (OpT.loadA (cs := [.int .u8 k14, .int .i64 n14, .string s14, .slice la14 ls14.length lc14, .slice ta14 ts14.length tc14]) Try.isAgg26 Try.sizeOf26 rfl hw14 ?_)
      refine Rg.od rfl rfl rfl (OpT.buildSlice (cs := #[.int .u8 k14, .int .i64 n14, .string s14, .slice la14 ls14.length lc14, .slice ta14 ts14.length tc14]) (.cons rfl .nil) Try.underlying24 Try.sizeOf26 Try.zeroValue26 rfl (by kernel_rfl) fun w15 g15 e15 x15 z15 b15 => ?_)
      replace b15 : Box w15 g15 [.int .u8 k14, .int .i64 n14, .string s14, .slice la14 ls14.length lc14, .slice ta14 ts14.length tc14] := b15
      refine Rg.od rfl rfl rfl (OpT.append (news := [[.int .u8 k14, .int .i64 n14, .string s14, .slice la14 ls14.length lc14, .slice ta14 ts14.length tc14]]) (lo := w6.heap.size) Try.underlying24 info26.1 info26.2.1 info26.2.2.1 info26.2.2.2.1 info26.2.2.2.2 (by decide) rfl rfl rfl (hown.ext x15) (fun r hr => by simp only [List.mem_singleton] at hr; subst hr; rfl) (by have := b15.rowAt 0; exact this) (List.all_eq_true.1 (show ([[.int .u8 k14, .int .i64 n14, .string s14, .slice la14 ls14.length lc14, .slice ta14 ts14.length tc14]] : List (List Value)).flatten.all Value.oneCell' = true from rfl)) (by simp only [List.length_singleton]; have h9 := hvts.1; omega) (Nat.le_trans (Nat.le_trans (Nat.le_refl w6.heap.size) x9.size) x15.size) fun w16 A16 c16 m16 r16 => ?_)
      refine Rg.od rfl rfl rfl (OpT.assign rfl ?_)
      refine Rg.nil ?_
      refine hK13 _ _ ?_
      refine W.region ?_
      refine Rg.od rfl rfl rfl (OpT.fieldAddrB (off := 4) Try.underlying26 rfl Try.sizeOf24 rfl rfl ?_)
      refine Rg.od rfl rfl rfl (OpT.loadB Try.isAgg24 rfl ((bx.ext x15).mod m16 (fun hS => by have h9 := Nat.le_trans (Nat.le_trans (Nat.le_refl w2.heap.size) x3.size) x6.size; omega)) rfl ?_)
      obtain ⟨a17, cs17, ha17, hr17, hw17, hv17⟩ := ((hTq.ext x15).mod m16 (fun k hk h => by have h8 := hk.2; have h9 := Nat.le_trans (Nat.le_trans (Nat.le_trans (Nat.le_refl w0.heap.size) x2.size) x3.size) x6.size; omega)).at (i := 0) (by first | omega | (unfold lenOk at *; omega))
      obtain ⟨k17, n17, s17, ls17, ts17, la17, lc17, ta17, tc17, et17, rfl, hk17, hn17, hs17, hl17, ht17, hL17, hT17⟩ := hv17.inv
      refine Rg.od rfl rfl rfl (OpT.indexAddr Try.underlying24 Try.sizeOf26 rfl rfl ha17 (by first | omega | (unfold lenOk at *; omega)) ?_)
      refine Rg.od rfl rfl rfl (OpT.loadA (cs := [.int .u8 k17, .int .i64 n17, .string s17, .slice la17 ls17.length lc17, .slice ta17 ts17.length tc17]) Try.isAgg26 Try.sizeOf26 rfl hw17 ?_)
      refine Rg.on rfl rfl (OpT.storeA Try.sizeOf26 rfl rfl rfl rfl ((bx.ext x15).mod m16 (fun hS => by have h9 := Nat.le_trans (Nat.le_trans (Nat.le_refl w2.heap.size) x3.size) x6.size; omega)) rfl fun w18 m18 z18 b18 => ?_)
      replace b18 : Box w18 g2 [.int .u8 k17, .int .i64 n17, .string s17, .slice la17 ls17.length lc17, .slice ta17 ts17.length tc17] := b18
      refine Rg.nil ?_
      exact ⟨⟨tsq[0], ql ++ [tsq[1]], [.int .u8 k17, .int .i64 n17, .string s17, .slice la17 ls17.length lc17, .slice ta17 ts17.length tc17], A16, c16, (qcss ++ [[.int .u8 k14, .int .i64 n14, .string s14, .slice la14 ls14.length lc14, .slice ta14 ts14.length tc14]])⟩, ⟨⟨rfl, rfl, rfl, trivial⟩, (((x9.ext x15).trans (m16.mono fun k h => .inr h)).trans (m18.mono fun k h => .inl h)), b18, (hv17.upd m18 (fun h => by have h2 := h.2; have h1 := Nat.le_refl w0.heap.size; omega)), (r16.upd m18 (by have h9 := Nat.le_trans (Nat.le_trans (Nat.le_refl w2.heap.size) x3.size) x6.size; omega)), ((((hvts.ext x15).mod m16 (fun k hk h => by have h8 := hk.2; have h9 := Nat.le_trans (Nat.le_trans (Nat.le_trans (Nat.le_refl w0.heap.size) x2.size) x3.size) x6.size; omega)).upd m18 (fun k hk h => by have h2 := hk.2; have h1 := Nat.le_refl w0.heap.size; have h3 : k = g2 := h; omega)).snoc (((hv14.ext x15).mod m16 (fun k hk h => by have h8 := hk.2; have h9 := Nat.le_trans (Nat.le_trans (Nat.le_trans (Nat.le_refl w0.heap.size) x2.size) x3.size) x6.size; omega)).upd m18 (fun h => by have h2 := h.2; have h1 := Nat.le_refl w0.heap.size; omega))), hn4.2.2.2, by simp only [List.length_append, List.length_singleton]; have h8 := size_pos tsq[1]; omega, ⟨by rw [hsp.1, hn4.1], by rw [hsp.2, hn4.2.1, List.reverse_append]; simp⟩, fun r hr => (List.mem_append.1 hr).elim (hone r) fun h => by simp only [List.mem_singleton] at h; subst h; rfl⟩, by show size tsq[0] < size (T.mk kq nq sq lsq tsq); omega⟩
    · have hp12 := of_decide_eq_false hb12
      refine W.condFb rfl hb12 ?_
      refine W.exit ?_
      refine hK9 _ _ ?_
      refine W.seqK fun K19 hK19 => ?_
      refine W.region ?_
      refine Rg.od rfl rfl rfl (OpT.move rfl ?_)
      refine Rg.od rfl rfl rfl (OpT.call Try.call34 (.cons rfl .nil) (Runs.mono (Reverse_runs _ _ _ _ _ hown hone) ?_))
      rintro _ w20 ⟨rfl, r20, m20⟩
      refine Rg.nil ?_
      refine hK19 _ _ ?_
      refine W.seqK fun K21 hK21 => ?_
      refine W.region ?_
      refine Rg.od rfl rfl rfl (OpT.loadAB Try.isAgg26 Try.sizeOf26 rfl (bx.mod m20 (fun hS => by have h9 := Nat.le_trans (Nat.le_trans (Nat.le_refl w2.heap.size) x3.size) x6.size; omega)) rfl ?_)
      refine Rg.od rfl rfl rfl (OpT.move rfl ?_)
      refine Rg.on rfl rfl (OpT.storeA Try.sizeOf26 rfl rfl rfl rfl (((b3.ext x6).mod x9 (fun hS => by have h0 := ((by have h1 := Nat.le_refl w2.heap.size; omega) : g3 ≠ g2); have h9 := Nat.le_trans (Nat.le_refl w3.heap.size) x6.size; omega)).mod m20 (fun hS => by have h9 := Nat.le_trans (Nat.le_refl w3.heap.size) x6.size; omega)) rfl fun w22 m22 z22 b22 => ?_)
      replace b22 : Box w22 g3 [.int .u8 kq, .int .i64 nq, .string sq, .slice laq lsq.length lcq, .slice taq tsq.length tcq] := b22
      refine Rg.od rfl rfl rfl (OpT.assign rfl ?_)
      refine Rg.nil ?_
      refine hK21 _ _ ?_
      refine W.ret ?_
      refine ⟨_, Res.cellA1 rfl rfl rfl Try.isAgg26 Try.sizeOf26 rfl b22, ?_⟩
      have hk4 : kq ≠ 4 := of_decide_eq_false hb12
      rw [head_no hk4] at hsp
      rw [spArgs_no hk4] at hsp
      rw [hmy]
      have hlen := hvts.1
      have hlr : ql.length = ql.reverse.length := by simp
      refine ⟨_, qA, qc, ?_, by rw [cond_true, hsp.1]; exact (((hvq.mod m20 (fun k hk h => by have h8 := hk.2; have h9 := Nat.le_trans (Nat.le_trans (Nat.le_trans (Nat.le_refl w0.heap.size) x2.size) x3.size) x6.size; omega)).upd m22 (fun h => by have h2 := h.2; have h1 := Nat.le_trans (Nat.le_refl w0.heap.size) x2.size; omega))).mono fun k h => h.1, by rw [cond_true, hsp.2]; exact ((r20.upd m22 (by have h9 := Nat.le_trans (Nat.le_refl w3.heap.size) x6.size; omega))).slT ((((hvts.mod m20 (fun k hk h => by have h8 := hk.2; have h9 := Nat.le_trans (Nat.le_trans (Nat.le_trans (Nat.le_refl w0.heap.size) x2.size) x3.size) x6.size; omega)).upd m22 (fun k hk h => by have h2 := hk.2; have h1 := Nat.le_trans (Nat.le_refl w0.heap.size) x2.size; have h3 : k = g3 := h; omega)).reverse).mono fun k h => h.1) (fun k h => hR k (Nat.le_trans (Nat.le_trans (Nat.le_trans (Nat.le_trans (Nat.le_refl w0.heap.size) x2.size) x3.size) x6.size) h)), by rw [cond_true, hsp.2]; have h8 := hown.le; simp only [List.nil_append, List.length_reverse]; unfold lenOk; omega, ((Mod.trans' (Mod.trans' ((x2.trans x3).trans x6) x9 fun k hk hS => by have h0 := Nat.le_refl w0.heap.size; have h9 := Nat.le_trans (Nat.le_trans (Nat.le_trans (Nat.le_refl w0.heap.size) x2.size) x3.size) x6.size; omega) m20 fun k hk hS => by have h9 := Nat.le_trans (Nat.le_trans (Nat.le_trans (Nat.le_refl w0.heap.size) x2.size) x3.size) x6.size; omega).upd m22 (by have h1 := x2.size; omega))⟩
      rw [cond_true, hsp.2]
      simp only [List.nil_append, List.length_reverse, ← hlen]
      try rfl
  · have hp7 := hb7
    refine W.condTb rfl (nF hb7) ?_
    refine W.seqK fun K23 hK23 => ?_
    refine W.region ?_
    refine Rg.od rfl rfl rfl (OpT.build (cs := #[.int .u8 0, .int .i64 0, .string (⟨#[]⟩ : ByteArray), .slice none 0 0, .slice none 0 0]) .nil Try.zeroValue26 places26.choose_spec.1 places26.choose_spec.2 (by kernel_rfl) ?_)
    refine Rg.on rfl rfl (OpT.storeA Try.sizeOf26 rfl rfl rfl rfl (b3.ext x6) rfl fun w24 m24 z24 b24 => ?_)
    replace b24 : Box w24 g3 [.int .u8 0, .int .i64 0, .string (⟨#[]⟩ : ByteArray), .slice none 0 0, .slice none 0 0] := b24
    refine Rg.od rfl rfl rfl (OpT.assign rfl ?_)
    refine Rg.nil ?_
    refine hK23 _ _ ?_
    refine W.ret ?_
    refine ⟨_, Res.cellA1 rfl rfl rfl Try.isAgg26 Try.sizeOf26 rfl b24, ?_⟩
    rw [hb7]
    exact ⟨_, _, _, rfl, VT.intro (w := w24) (R := R) (k := 0) (n := 0) (s := (⟨#[]⟩ : ByteArray)) (la := none) (lc := 0) (ta := none) (tc := 0) (ls := []) (ts := []) (by omega) (by unfold i64ok at *; omega) (by first | assumption | decide) ⟨Nat.le_refl 0, by decide⟩ ⟨Nat.le_refl 0, by decide⟩ (SlL.nil _ _ _) (SlT.nil _ _ _), SlT.nil _ _ _, ⟨Nat.le_refl 0, by decide⟩, (((x2.trans x3).trans x6).upd m24 (by have h1 := x2.size; omega))⟩
set_option maxHeartbeats 1000000 in
set_option maxRecDepth 20000 in
theorem works_runs (w0 : World) : Runs Try.prog 9 #[] w0 fun v w' => v = .bool true ∧ Ext w0 w' := by
  have hR : ∀ k, w0.heap.size ≤ k → (fun _ => True : Nat → Prop) k := fun _ _ => trivial
  refine Runs.of_W (vs := []) Try.func9 rfl rfl ?_
  refine W.seqK fun K1 hK1 => ?_
  refine W.region ?_
  refine Rg.od rfl rfl rfl (OpT.assign rfl ?_)
  refine Rg.nil ?_
  refine hK1 _ _ ?_
  refine W.seqK fun K2 hK2 => ?_
  refine W.region ?_
  refine Rg.od rfl rfl rfl (OpT.call Try.call6 .nil (Runs.mono (lS_runs _ (fun _ => True) (fun k hk => hR k (Nat.le_trans (Nat.le_refl w0.heap.size) hk))) ?_))
  rintro _ w3 ⟨cs3, rfl, hv3, x3⟩
  obtain ⟨kr3, nr3, sr3, lsr3, tsr3, lar3, lcr3, tar3, tcr3, etr3, rfl, hkr3, hnr3, hsr3, hlr3, htr3, hLr3, hTr3⟩ := hv3.inv
  refine Rg.od rfl rfl rfl (OpT.call Try.call10 (.cons rfl .nil) (Runs.mono (lV_runs 0 _) ?_))
  rintro _ w4 ⟨rfl, x4⟩
  refine Rg.od rfl rfl rfl (OpT.call Try.call10 (.cons rfl .nil) (Runs.mono (lV_runs 1 _) ?_))
  rintro _ w5 ⟨rfl, x5⟩
  refine Rg.od rfl rfl rfl (OpT.call Try.call11 (.cons rfl (.cons rfl .nil)) (Runs.mono (lA_runs _ _ _ _ _ (fun _ => True) (fun k hk => hR k (Nat.le_trans (Nat.le_trans (Nat.le_trans (Nat.le_trans (Nat.le_refl w0.heap.size) x3.size) x4.size) x5.size) hk)) (VT.intro (w := w5) (R := (fun _ => True)) (k := 2) (n := 0) (s := (⟨#[]⟩ : ByteArray)) (la := none) (lc := 0) (ta := none) (tc := 0) (ls := []) (ts := []) (by omega) (by unfold i64ok at *; omega) (by first | assumption | decide) ⟨Nat.le_refl 0, by decide⟩ ⟨Nat.le_refl 0, by decide⟩ (SlL.nil _ _ _) (SlT.nil _ _ _)) (VT.intro (w := w5) (R := (fun _ => True)) (k := 2) (n := 1) (s := (⟨#[]⟩ : ByteArray)) (la := none) (lc := 0) (ta := none) (tc := 0) (ls := []) (ts := []) (by omega) (by unfold i64ok at *; omega) (by first | assumption | decide) ⟨Nat.le_refl 0, by decide⟩ ⟨Nat.le_refl 0, by decide⟩ (SlL.nil _ _ _) (SlT.nil _ _ _))) ?_))
  rintro _ w6 ⟨cs6, rfl, hv6, x6⟩
  obtain ⟨kr6, nr6, sr6, lsr6, tsr6, lar6, lcr6, tar6, tcr6, etr6, rfl, hkr6, hnr6, hsr6, hlr6, htr6, hLr6, hTr6⟩ := hv6.inv
  refine Rg.od rfl rfl rfl (OpT.call Try.call7 (.cons rfl (.cons rfl .nil)) (Runs.mono (lL_runs _ _ _ _ _ (fun _ => True) (fun k hk => hR k (Nat.le_trans (Nat.le_trans (Nat.le_trans (Nat.le_trans (Nat.le_trans (Nat.le_refl w0.heap.size) x3.size) x4.size) x5.size) x6.size) hk)) (hv3.ext ((x4.trans x5).trans x6)) hv6) ?_))
  rintro _ w7 ⟨cs7, rfl, hv7, x7⟩
  obtain ⟨kr7, nr7, sr7, lsr7, tsr7, lar7, lcr7, tar7, tcr7, etr7, rfl, hkr7, hnr7, hsr7, hlr7, htr7, hLr7, hTr7⟩ := hv7.inv
  refine Rg.od rfl rfl rfl (OpT.alloc Try.zeroValue26 fun w8 g8 e8 x8 z8 b8 => ?_)
  replace b8 : Box w8 g8 [.int .u8 0, .int .i64 0, .string (⟨#[]⟩ : ByteArray), .slice none 0 0, .slice none 0 0] := b8
  refine Rg.on rfl rfl (OpT.storeA Try.sizeOf26 rfl rfl rfl rfl b8 rfl fun w9 m9 z9 b9 => ?_)
  replace b9 : Box w9 g8 [.int .u8 kr7, .int .i64 nr7, .string sr7, .slice lar7 lsr7.length lcr7, .slice tar7 tsr7.length tcr7] := b9
  refine Rg.nil ?_
  refine hK2 _ _ ?_
  refine W.seqK fun K10 hK10 => ?_
  refine W.region ?_
  refine Rg.od rfl rfl rfl (OpT.call Try.call26 (.cons rfl .nil) (Runs.mono (lC_runs (⟨#[102]⟩ : ByteArray) _) ?_))
  rintro _ w11 ⟨rfl, x11⟩
  refine Rg.od rfl rfl rfl (OpT.call Try.call10 (.cons rfl .nil) (Runs.mono (lV_runs 0 _) ?_))
  rintro _ w12 ⟨rfl, x12⟩
  refine Rg.od rfl rfl rfl (OpT.call Try.call11 (.cons rfl (.cons rfl .nil)) (Runs.mono (lA_runs _ _ _ _ _ (fun _ => True) (fun k hk => hR k (Nat.le_trans (Nat.le_trans (Nat.le_trans (Nat.le_trans (Nat.le_trans (Nat.le_trans (Nat.le_trans (Nat.le_trans (Nat.le_trans (Nat.le_trans (Nat.le_refl w0.heap.size) x3.size) x4.size) x5.size) x6.size) x7.size) x8.size) m9.size) x11.size) x12.size) hk)) (VT.intro (w := w12) (R := (fun _ => True)) (k := 3) (n := 0) (s := (⟨#[102]⟩ : ByteArray)) (la := none) (lc := 0) (ta := none) (tc := 0) (ls := []) (ts := []) (by omega) (by unfold i64ok at *; omega) (by first | assumption | decide) ⟨Nat.le_refl 0, by decide⟩ ⟨Nat.le_refl 0, by decide⟩ (SlL.nil _ _ _) (SlT.nil _ _ _)) (VT.intro (w := w12) (R := (fun _ => True)) (k := 2) (n := 0) (s := (⟨#[]⟩ : ByteArray)) (la := none) (lc := 0) (ta := none) (tc := 0) (ls := []) (ts := []) (by omega) (by unfold i64ok at *; omega) (by first | assumption | decide) ⟨Nat.le_refl 0, by decide⟩ ⟨Nat.le_refl 0, by decide⟩ (SlL.nil _ _ _) (SlT.nil _ _ _))) ?_))
  rintro _ w13 ⟨cs13, rfl, hv13, x13⟩
  obtain ⟨kr13, nr13, sr13, lsr13, tsr13, lar13, lcr13, tar13, tcr13, etr13, rfl, hkr13, hnr13, hsr13, hlr13, htr13, hLr13, hTr13⟩ := hv13.inv
  refine Rg.od rfl rfl rfl (OpT.call Try.call10 (.cons rfl .nil) (Runs.mono (lV_runs 1 _) ?_))
  rintro _ w14 ⟨rfl, x14⟩
  refine Rg.od rfl rfl rfl (OpT.call Try.call11 (.cons rfl (.cons rfl .nil)) (Runs.mono (lA_runs _ _ _ _ _ (fun _ => True) (fun k hk => hR k (Nat.le_trans (Nat.le_trans (Nat.le_trans (Nat.le_trans (Nat.le_trans (Nat.le_trans (Nat.le_trans (Nat.le_trans (Nat.le_trans (Nat.le_trans (Nat.le_trans (Nat.le_trans (Nat.le_refl w0.heap.size) x3.size) x4.size) x5.size) x6.size) x7.size) x8.size) m9.size) x11.size) x12.size) x13.size) x14.size) hk)) (hv13.ext x14) (VT.intro (w := w14) (R := (fun _ => True)) (k := 2) (n := 1) (s := (⟨#[]⟩ : ByteArray)) (la := none) (lc := 0) (ta := none) (tc := 0) (ls := []) (ts := []) (by omega) (by unfold i64ok at *; omega) (by first | assumption | decide) ⟨Nat.le_refl 0, by decide⟩ ⟨Nat.le_refl 0, by decide⟩ (SlL.nil _ _ _) (SlT.nil _ _ _))) ?_))
  rintro _ w15 ⟨cs15, rfl, hv15, x15⟩
  obtain ⟨kr15, nr15, sr15, lsr15, tsr15, lar15, lcr15, tar15, tcr15, etr15, rfl, hkr15, hnr15, hsr15, hlr15, htr15, hLr15, hTr15⟩ := hv15.inv
  refine Rg.od rfl rfl rfl (OpT.call Try.call18 (.cons rfl .nil) (Runs.mono (Spine_runs _ _ _ (fun _ => True) (fun k hk => hR k (Nat.le_trans (Nat.le_trans (Nat.le_trans (Nat.le_trans (Nat.le_trans (Nat.le_trans (Nat.le_trans (Nat.le_trans (Nat.le_trans (Nat.le_trans (Nat.le_trans (Nat.le_trans (Nat.le_trans (Nat.le_refl w0.heap.size) x3.size) x4.size) x5.size) x6.size) x7.size) x8.size) m9.size) x11.size) x12.size) x13.size) x14.size) x15.size) hk)) hv15) ?_))
  rintro _ w16 ⟨cs16, A16, c16, rfl, hv16, hT16, hl16, x16⟩
  replace hv16 : VT w16 (fun _ => True) cs16 (T.mk 3 0 (⟨#[102]⟩ : ByteArray) [] []) := hv16
  replace hT16 : SlT w16 (fun _ => True) A16 [(T.mk 2 0 (⟨#[]⟩ : ByteArray) [] []), (T.mk 2 1 (⟨#[]⟩ : ByteArray) [] [])] := hT16
  replace hl16 : lenOk [(T.mk 2 0 (⟨#[]⟩ : ByteArray) [] []), (T.mk 2 1 (⟨#[]⟩ : ByteArray) [] [])].length c16 := hl16
  obtain ⟨kr16, nr16, sr16, lsr16, tsr16, lar16, lcr16, tar16, tcr16, etr16, rfl, hkr16, hnr16, hsr16, hlr16, htr16, hLr16, hTr16⟩ := hv16.inv
  refine Rg.od rfl rfl rfl (OpT.move rfl ?_)
  refine Rg.od rfl rfl rfl (OpT.extract rfl rfl ?_)
  refine Rg.od rfl rfl rfl (OpT.extract rfl rfl ?_)
  refine Rg.od rfl rfl rfl (OpT.alloc Try.zeroValue26 fun w17 g17 e17 x17 z17 b17 => ?_)
  replace b17 : Box w17 g17 [.int .u8 0, .int .i64 0, .string (⟨#[]⟩ : ByteArray), .slice none 0 0, .slice none 0 0] := b17
  refine Rg.on rfl rfl (OpT.storeA Try.sizeOf26 rfl rfl rfl rfl b17 rfl fun w18 m18 z18 b18 => ?_)
  replace b18 : Box w18 g17 [.int .u8 kr16, .int .i64 nr16, .string sr16, .slice lar16 lsr16.length lcr16, .slice tar16 tsr16.length tcr16] := b18
  refine Rg.od rfl rfl rfl (OpT.assign rfl ?_)
  refine Rg.nil ?_
  refine hK10 _ _ ?_
  refine W.seqK fun K19 hK19 => ?_
  have hb20 : (mayT (tL tS (tA (T.mk 2 0 (⟨#[]⟩ : ByteArray) [] []) (T.mk 2 1 (⟨#[]⟩ : ByteArray) [] [])))) = true := by kernel_rfl
  have hb21 : (decide ((bif mayT (tL tS (tA (T.mk 2 0 (⟨#[]⟩ : ByteArray) [] []) (T.mk 2 1 (⟨#[]⟩ : ByteArray) [] []))) then ((size (tL tS (tA (T.mk 2 0 (⟨#[]⟩ : ByteArray) [] []) (T.mk 2 1 (⟨#[]⟩ : ByteArray) [] []))) : Nat) : Int) else 0) = 5)) = true := by kernel_rfl
  have hb22 : (decide ((bif mayT (tL tS (tA (T.mk 2 0 (⟨#[]⟩ : ByteArray) [] []) (T.mk 2 1 (⟨#[]⟩ : ByteArray) [] []))) then max 0 (free (tL tS (tA (T.mk 2 0 (⟨#[]⟩ : ByteArray) [] []) (T.mk 2 1 (⟨#[]⟩ : ByteArray) [] []))) 0) else 0) = 1)) = true := by kernel_rfl
  have hb23 : (decide (0 ≤ 0) && mayT (tL tS (tA (T.mk 2 0 (⟨#[]⟩ : ByteArray) [] []) (T.mk 2 1 (⟨#[]⟩ : ByteArray) [] []))) && has (tL tS (tA (T.mk 2 0 (⟨#[]⟩ : ByteArray) [] []) (T.mk 2 1 (⟨#[]⟩ : ByteArray) [] []))) 0) = true := by kernel_rfl
  have hb24 : (decide (0 ≤ 1) && mayT (tL tS (tA (T.mk 2 0 (⟨#[]⟩ : ByteArray) [] []) (T.mk 2 1 (⟨#[]⟩ : ByteArray) [] []))) && has (tL tS (tA (T.mk 2 0 (⟨#[]⟩ : ByteArray) [] []) (T.mk 2 1 (⟨#[]⟩ : ByteArray) [] []))) 1) = false := by kernel_rfl
  have hb25 : (mayT (T.mk 0 0 (⟨#[]⟩ : ByteArray) [] [])) = false := by kernel_rfl
  have hb26 : (mayT (T.mk 3 0 (⟨#[102]⟩ : ByteArray) [] []) && mayT (T.mk 3 0 (⟨#[102]⟩ : ByteArray) [] []) && sameB (T.mk 3 0 (⟨#[102]⟩ : ByteArray) [] []) (T.mk 3 0 (⟨#[102]⟩ : ByteArray) [] [])) = true := by kernel_rfl
  have hb27 : (decide ((([(T.mk 2 0 (⟨#[]⟩ : ByteArray) [] []), (T.mk 2 1 (⟨#[]⟩ : ByteArray) [] [])].length : Nat) : Int) = 2)) = true := by kernel_rfl
  obtain ⟨a28, cs28, ha28, hr28, hw28, hv28⟩ := hT16.at (i := 1) (by first | omega | decide)
  obtain ⟨k28, n28, s28, ls28, ts28, la28, lc28, ta28, tc28, et28, rfl, hk28, hn28, hs28, hl28, ht28, hL28, hT28⟩ := hv28.inv
  refine W.draw (VS.ex _ :: VS.ex _ :: VS.ex _ :: VS.ex _ :: VS.ex _ :: VS.ex _ :: VS.ex _ :: VS.ex _ :: VS.ex _ :: VS.ex _ :: VS.ex _ :: VS.ex _ :: VS.ex _ :: VS.ex _ :: VS.ex _ :: VS.ex _ :: VS.ex _ :: VS.ex _ :: VS.ex _ :: VS.ex _ :: VS.ex _ :: VS.ex _ :: VS.ex _ :: VS.ex _ :: VS.ex _ :: VS.ex _ :: VS.ex _ :: VS.ex _ :: VS.ex _ :: VS.ex _ :: VS.ex _ :: VS.ex _ :: VS.ex _ :: VS.ex _ :: VS.ex _ :: VS.ex _ :: VS.ex _ :: VS.ex _ :: VS.ex _ :: VS.ex _ :: VS.ex _ :: VS.ex _ :: VS.ex _ :: VS.ex _ :: []) mixed rfl rfl ⟨trivial, trivial, trivial, trivial, trivial, trivial, trivial, trivial, trivial, trivial, trivial, trivial, trivial, trivial, trivial, trivial, trivial, trivial, trivial, trivial, trivial, trivial, trivial, trivial, trivial, trivial, trivial, trivial, trivial, trivial, trivial, trivial, trivial, trivial, trivial, trivial, trivial, trivial, trivial, trivial, trivial, trivial, trivial, trivial, trivial⟩
    ⟨fun w' hx _ => OpT.loadAB Try.isAgg26 Try.sizeOf26 rfl (((b9.ext ((((((x11.trans x12).trans x13).trans x14).trans x15).trans x16).trans x17)).upd m18 (by have h1 := Nat.le_trans (Nat.le_trans (Nat.le_trans (Nat.le_trans (Nat.le_trans (Nat.le_trans (Nat.le_trans (Nat.le_refl w8.heap.size) m9.size) x11.size) x12.size) x13.size) x14.size) x15.size) x16.size; omega)).ext hx) rfl VS.ok,
    fun w' hx _ => OpT.call Try.call8 (.cons rfl .nil) (Runs.mono (may_runs _ _ _ _ (hv7.ext ((((((((((x8.upd m9 (by omega)).trans x11).trans x12).trans x13).trans x14).trans x15).trans x16).trans x17).upd m18 (by have h1 := (((((((x8.upd m9 (by omega)).trans x11).trans x12).trans x13).trans x14).trans x15).trans x16).size; omega)).trans hx))) fun v w h => VS.okx h.1 h.2),
    fun w' hx _ => OpT.move rfl VS.ok,
    fun w' hx _ => .inl ⟨_, rfl, fun _ => OpT.loadAB Try.isAgg26 Try.sizeOf26 rfl (((b9.ext ((((((x11.trans x12).trans x13).trans x14).trans x15).trans x16).trans x17)).upd m18 (by have h1 := Nat.le_trans (Nat.le_trans (Nat.le_trans (Nat.le_trans (Nat.le_trans (Nat.le_trans (Nat.le_trans (Nat.le_refl w8.heap.size) m9.size) x11.size) x12.size) x13.size) x14.size) x15.size) x16.size; omega)).ext hx) rfl VS.ok, fun h => absurd hb20 h⟩,
    fun w' hx _ => .inl ⟨_, rfl, fun _ => OpT.call Try.call27 (.cons rfl .nil) (Runs.mono (size_runs _ _ _ _ (hv7.ext ((((((((((x8.upd m9 (by omega)).trans x11).trans x12).trans x13).trans x14).trans x15).trans x16).trans x17).upd m18 (by have h1 := (((((((x8.upd m9 (by omega)).trans x11).trans x12).trans x13).trans x14).trans x15).trans x16).size; omega)).trans hx))) fun v w h => VS.okx h.1 h.2), fun h => absurd hb20 h⟩,
    fun w' hx _ => .inl ⟨_, rfl, fun _ => OpT.eqlI rfl rfl VS.ok, fun h => absurd hb20 h⟩,
    fun w' hx _ => OpT.pickT rfl hb20 rfl VS.ok,
    fun w' hx _ => OpT.move rfl VS.ok,
    fun w' hx _ => .inl ⟨_, rfl, fun _ => OpT.loadAB Try.isAgg26 Try.sizeOf26 rfl (((b9.ext ((((((x11.trans x12).trans x13).trans x14).trans x15).trans x16).trans x17)).upd m18 (by have h1 := Nat.le_trans (Nat.le_trans (Nat.le_trans (Nat.le_trans (Nat.le_trans (Nat.le_trans (Nat.le_trans (Nat.le_refl w8.heap.size) m9.size) x11.size) x12.size) x13.size) x14.size) x15.size) x16.size; omega)).ext hx) rfl VS.ok, fun h => absurd hb21 h⟩,
    fun w' hx _ => .inl ⟨_, rfl, fun _ => OpT.call Try.call28 (.cons rfl .nil) (Runs.mono (free_runs _ _ _ _ (hv7.ext ((((((((((x8.upd m9 (by omega)).trans x11).trans x12).trans x13).trans x14).trans x15).trans x16).trans x17).upd m18 (by have h1 := (((((((x8.upd m9 (by omega)).trans x11).trans x12).trans x13).trans x14).trans x15).trans x16).size; omega)).trans hx))) fun v w h => VS.okx h.1 h.2), fun h => absurd hb21 h⟩,
    fun w' hx _ => .inl ⟨_, rfl, fun _ => OpT.eqlI rfl rfl VS.ok, fun h => absurd hb21 h⟩,
    fun w' hx _ => OpT.pickT rfl hb21 rfl VS.ok,
    fun w' hx _ => OpT.move rfl VS.ok,
    fun w' hx _ => .inl ⟨_, rfl, fun _ => OpT.loadAB Try.isAgg26 Try.sizeOf26 rfl (((b9.ext ((((((x11.trans x12).trans x13).trans x14).trans x15).trans x16).trans x17)).upd m18 (by have h1 := Nat.le_trans (Nat.le_trans (Nat.le_trans (Nat.le_trans (Nat.le_trans (Nat.le_trans (Nat.le_trans (Nat.le_refl w8.heap.size) m9.size) x11.size) x12.size) x13.size) x14.size) x15.size) x16.size; omega)).ext hx) rfl VS.ok, fun h => absurd hb22 h⟩,
    fun w' hx _ => .inl ⟨_, rfl, fun _ => OpT.call Try.call29 (.cons rfl (.cons rfl .nil)) (Runs.mono (has_runs _ _ 0 (by omega) _ _ (hv7.ext ((((((((((x8.upd m9 (by omega)).trans x11).trans x12).trans x13).trans x14).trans x15).trans x16).trans x17).upd m18 (by have h1 := (((((((x8.upd m9 (by omega)).trans x11).trans x12).trans x13).trans x14).trans x15).trans x16).size; omega)).trans hx))) fun v w h => VS.okx h.1 h.2), fun h => absurd hb22 h⟩,
    fun w' hx _ => OpT.pickT rfl hb22 rfl VS.ok,
    fun w' hx _ => OpT.move rfl VS.ok,
    fun w' hx _ => .inl ⟨_, rfl, fun _ => OpT.loadAB Try.isAgg26 Try.sizeOf26 rfl (((b9.ext ((((((x11.trans x12).trans x13).trans x14).trans x15).trans x16).trans x17)).upd m18 (by have h1 := Nat.le_trans (Nat.le_trans (Nat.le_trans (Nat.le_trans (Nat.le_trans (Nat.le_trans (Nat.le_trans (Nat.le_refl w8.heap.size) m9.size) x11.size) x12.size) x13.size) x14.size) x15.size) x16.size; omega)).ext hx) rfl VS.ok, fun h => absurd hb23 h⟩,
    fun w' hx _ => .inl ⟨_, rfl, fun _ => OpT.call Try.call29 (.cons rfl (.cons rfl .nil)) (Runs.mono (has_runs _ _ 1 (by omega) _ _ (hv7.ext ((((((((((x8.upd m9 (by omega)).trans x11).trans x12).trans x13).trans x14).trans x15).trans x16).trans x17).upd m18 (by have h1 := (((((((x8.upd m9 (by omega)).trans x11).trans x12).trans x13).trans x14).trans x15).trans x16).size; omega)).trans hx))) fun v w h => VS.okx h.1 h.2), fun h => absurd hb23 h⟩,
    fun w' hx _ => .inl ⟨_, rfl, fun _ => OpT.notB rfl VS.ok, fun h => absurd hb23 h⟩,
    fun w' hx _ => OpT.pickT rfl hb23 rfl VS.ok,
    fun w' hx _ => OpT.move rfl VS.ok,
    fun w' hx _ => .inl ⟨_, rfl, fun _ => OpT.build (cs := #[.int .u8 0, .int .i64 0, .string (⟨#[]⟩ : ByteArray), .slice none 0 0, .slice none 0 0]) .nil Try.zeroValue26 places26.choose_spec.1 places26.choose_spec.2 (by kernel_rfl) VS.ok, fun h => absurd (nF hb24) h⟩,
    fun w' hx _ => .inl ⟨_, rfl, fun _ => OpT.call Try.call8 (.cons rfl .nil) (Runs.mono (may_runs _ _ _ _ (VT.intro (w := w') (R := (fun _ => True)) (k := 0) (n := 0) (s := (⟨#[]⟩ : ByteArray)) (la := none) (lc := 0) (ta := none) (tc := 0) (ls := []) (ts := []) (by omega) (by unfold i64ok at *; omega) (by first | assumption | decide) ⟨Nat.le_refl 0, by decide⟩ ⟨Nat.le_refl 0, by decide⟩ (SlL.nil _ _ _) (SlT.nil _ _ _))) fun v w h => VS.okx h.1 h.2), fun h => absurd (nF hb24) h⟩,
    fun w' hx _ => .inl ⟨_, rfl, fun _ => OpT.notB rfl VS.ok, fun h => absurd (nF hb24) h⟩,
    fun w' hx _ => OpT.pickT rfl (nF hb24) rfl VS.ok,
    fun w' hx _ => OpT.move rfl VS.ok,
    fun w' hx _ => .inl ⟨_, rfl, fun _ => OpT.loadAB Try.isAgg26 Try.sizeOf26 rfl (b18.ext hx) rfl VS.ok, fun h => absurd (nF hb25) h⟩,
    fun w' hx _ => .inl ⟨_, rfl, fun _ => OpT.call Try.call26 (.cons rfl .nil) (Runs.mono (lC_runs (⟨#[102]⟩ : ByteArray) _) fun v w h => VS.okx h.1 h.2), fun h => absurd (nF hb25) h⟩,
    fun w' hx _ => .inl ⟨_, rfl, fun _ => OpT.call Try.call30 (.cons rfl (.cons rfl .nil)) (Runs.mono (Same_runs _ _ _ _ _ _ _ (hv16.ext ((x17.upd m18 (by omega)).trans hx)) (VT.intro (w := w') (R := (fun _ => True)) (k := 3) (n := 0) (s := (⟨#[102]⟩ : ByteArray)) (la := none) (lc := 0) (ta := none) (tc := 0) (ls := []) (ts := []) (by omega) (by unfold i64ok at *; omega) (by first | assumption | decide) ⟨Nat.le_refl 0, by decide⟩ ⟨Nat.le_refl 0, by decide⟩ (SlL.nil _ _ _) (SlT.nil _ _ _))) fun v w h => VS.okx h.1 h.2), fun h => absurd (nF hb25) h⟩,
    fun w' hx _ => OpT.pickT rfl (nF hb25) rfl VS.ok,
    fun w' hx _ => OpT.move rfl VS.ok,
    fun w' hx _ => .inl ⟨_, rfl, fun _ => OpT.move rfl VS.ok, fun h => absurd hb26 h⟩,
    fun w' hx _ => .inl ⟨_, rfl, fun _ => OpT.lenS Try.underlying24 rfl VS.ok, fun h => absurd hb26 h⟩,
    fun w' hx _ => .inl ⟨_, rfl, fun _ => OpT.eqlI rfl rfl VS.ok, fun h => absurd hb26 h⟩,
    fun w' hx _ => OpT.pickT rfl hb26 rfl VS.ok,
    fun w' hx _ => OpT.move rfl VS.ok,
    fun w' hx _ => .inl ⟨_, rfl, fun _ => OpT.move rfl VS.ok, fun h => absurd hb27 h⟩,
    fun w' hx _ => .inl ⟨_, rfl, fun _ => OpT.indexAddr Try.underlying24 Try.sizeOf26 rfl rfl ha28 (by first | omega | decide) VS.ok, fun h => absurd hb27 h⟩,
    fun w' hx _ => .inl ⟨_, rfl, fun _ => OpT.fieldAddr Try.underlying26 rfl Try.sizeOf3 rfl VS.ok, fun h => absurd hb27 h⟩,
    fun w' hx _ => .inl ⟨_, rfl, fun _ => OpT.load Try.isAgg3 rfl (RowAt.cell (hw28.ext ((x17.upd m18 (by omega)).trans hx)) 1 rfl) VS.ok, fun h => absurd hb27 h⟩,
    fun w' hx _ => .inl ⟨_, rfl, fun _ => OpT.eqlI rfl rfl VS.ok, fun h => absurd hb27 h⟩,
    fun w' hx _ => OpT.pickT rfl hb27 rfl VS.ok,
    fun w' hx _ => OpT.assign rfl VS.ok,
    trivial⟩ ?_
  intro w29 x29
  refine hK19 _ _ ?_
  refine W.ret ?_
  refine ⟨_, Res.one rfl rfl, ?_⟩
  exact ⟨congrArg Value.bool (decide_eq_true (T.mk.inj (show T.mk 2 1 _ _ _ = _ from et28)).2.1.symm), (((((((((((((((x3.trans x4).trans x5).trans x6).trans x7).trans x8).upd m9 (by have h1 := ((((x3.trans x4).trans x5).trans x6).trans x7).size; omega)).trans x11).trans x12).trans x13).trans x14).trans x15).trans x16).trans x17).upd m18 (by have h1 := ((((((((((((x3.trans x4).trans x5).trans x6).trans x7).trans x8).upd m9 (by have h1 := ((((x3.trans x4).trans x5).trans x6).trans x7).size; omega)).trans x11).trans x12).trans x13).trans x14).trans x15).trans x16).size; omega)).trans x29)⟩
set_option maxHeartbeats 1000000 in
set_option maxRecDepth 20000 in
theorem TermBounds_runs (over : Int) (wide : Bool) (ho : -128 ≤ over ∧ over ≤ 127) (w0 : World) : Runs Try.prog 3 #[.int .i8 over, .bool wide] w0 fun v w' => v = .bool true ∧ Ext w0 w' := by
  have hR : ∀ k, w0.heap.size ≤ k → (fun _ => True : Nat → Prop) k := fun _ _ => trivial
  have htm := tmod4 ho
  refine Runs.of_W (vs := [_, _]) Try.func3 rfl rfl ?_
  refine W.seqK fun K1 hK1 => ?_
  refine W.region ?_
  refine Rg.od rfl rfl rfl (OpT.assign rfl ?_)
  refine Rg.nil ?_
  refine hK1 _ _ ?_
  refine W.seqK fun K2 hK2 => ?_
  refine W.seqK fun K3 hK3 => ?_
  refine W.region ?_
  refine Rg.od rfl rfl rfl (OpT.move rfl ?_)
  refine Rg.od rfl rfl rfl (OpT.notB rfl ?_)
  refine Rg.nil ?_
  refine hK3 _ _ ?_
  rcases Bool.eq_false_or_eq_true (wide) with hb4 | hb4
  · have hp4 := hb4
    refine W.condFb rfl (nT hb4) ?_
    refine W.skip ?_
    refine hK2 _ _ ?_
    refine W.seqK fun K5 hK5 => ?_
    refine W.region ?_
    refine Rg.od rfl rfl rfl (OpT.call Try.call10 (.cons rfl .nil) (Runs.mono (lV_runs 0 _) ?_))
    rintro _ w6 ⟨rfl, x6⟩
    refine Rg.od rfl rfl rfl (OpT.alloc Try.zeroValue26 fun w7 g7 e7 x7 z7 b7 => ?_)
    replace b7 : Box w7 g7 [.int .u8 0, .int .i64 0, .string (⟨#[]⟩ : ByteArray), .slice none 0 0, .slice none 0 0] := b7
    refine Rg.on rfl rfl (OpT.storeA Try.sizeOf26 rfl rfl rfl rfl b7 rfl fun w8 m8 z8 b8 => ?_)
    replace b8 : Box w8 g7 [.int .u8 2, .int .i64 0, .string (⟨#[]⟩ : ByteArray), .slice none 0 0, .slice none 0 0] := b8
    refine Rg.nil ?_
    refine hK5 _ _ ?_
    refine W.seqK fun K9 hK9 => ?_
    refine W.seqK fun K10 hK10 => ?_
    refine W.region ?_
    refine Rg.od rfl rfl rfl (OpT.assign rfl ?_)
    refine Rg.nil ?_
    refine hK10 _ _ ?_
    refine W.block ?_
    have hst11 : VT w6 (fun k => (fun _ => True) k ∧ k ≠ g7) [.int .u8 2, .int .i64 0, .string (⟨#[]⟩ : ByteArray), .slice none 0 0, .slice none 0 0] (dbl 0) := by have h : VT w6 (fun k => (fun _ => True) k ∧ k ≠ g7) [.int .u8 2, .int .i64 0, .string (⟨#[]⟩ : ByteArray), .slice none 0 0, .slice none 0 0] (T.mk 2 0 (⟨#[]⟩ : ByteArray) [] []) := VT.mono (VT.small (VT.intro (w := w6) (R := (fun _ => True)) (k := 2) (n := 0) (s := (⟨#[]⟩ : ByteArray)) (la := none) (lc := 0) (ta := none) (tc := 0) (ls := []) (ts := []) (by omega) (by unfold i64ok at *; omega) (by first | assumption | decide) ⟨Nat.le_refl 0, by decide⟩ ⟨Nat.le_refl 0, by decide⟩ (SlL.nil _ _ _) (SlT.nil _ _ _))) (fun k h => ⟨h.1, by have h1 := h.2; have h200 := Nat.le_refl w6.heap.size; omega⟩); exact h
    refine W.loop (σ := Nat) (fun q e w' => Sub [(0, .int .i8 over), (1, .bool wide), (4, .bool false), (7, .pointer (some ⟨g7, 0, none⟩)), (13, .bool wide), (14, .bool (!wide)), (8, .int .i64 ((q : Nat) : Int))] e ∧ Upd g7 w8 w' ∧ (∃ cs, Box w' g7 cs ∧ VT w' (fun k => (fun _ => True) k ∧ k ≠ g7) cs (dbl q)) ∧ q ≤ 14) (fun q => 14 - q) 0
      ⟨⟨rfl, rfl, rfl, rfl, rfl, rfl, (intSlot (by omega) rfl), trivial⟩, Mod.refl _ _, ⟨_, b8, (hst11.ext (x7.upd m8 (by omega)))⟩, by omega⟩ ?_
    rintro q11 en11 w11 ⟨hs11, x11, ⟨cs11, b11, hv11⟩, hq11⟩
    refine W.sub hs11 ?_
    obtain ⟨kq11, nq11, sq11, lsq11, tsq11, laq11, lcq11, taq11, tcq11, etq11, rfl, hkq11, hnq11, hsq11, hlq11, htq11, hLq11, hTq11⟩ := hv11.inv
    refine W.seqK fun K12 hK12 => ?_
    refine W.seqK fun K13 hK13 => ?_
    refine W.region ?_
    refine Rg.od rfl rfl rfl (OpT.move rfl ?_)
    refine Rg.od rfl rfl rfl (OpT.lss rfl rfl ?_)
    refine Rg.nil ?_
    refine hK13 _ _ ?_
    rcases Bool.eq_false_or_eq_true (decide (((q11 : Nat) : Int) < 14)) with hb14 | hb14
    · have hp14 := of_decide_eq_true hb14
      refine W.condTb rfl hb14 ?_
      refine W.skip ?_
      refine hK12 _ _ ?_
      refine W.seqK fun K15 hK15 => ?_
      refine W.block ?_
      refine W.region ?_
      refine Rg.od rfl rfl rfl (OpT.loadAB Try.isAgg26 Try.sizeOf26 rfl b11 rfl ?_)
      refine Rg.od rfl rfl rfl (OpT.loadAB Try.isAgg26 Try.sizeOf26 rfl b11 rfl ?_)
      refine Rg.od rfl rfl rfl (OpT.call Try.call11 (.cons rfl (.cons rfl .nil)) (Runs.mono (lA_runs _ _ _ _ _ (fun k => (fun _ => True) k ∧ k ≠ g7) (fun k hk => ⟨(fun k hk => hR k (Nat.le_trans (Nat.le_trans (Nat.le_trans (Nat.le_trans (Nat.le_trans (Nat.le_refl w0.heap.size) x6.size) x7.size) m8.size) x11.size) hk)) k hk, by have h100 := Nat.le_trans (Nat.le_trans (Nat.le_refl w7.heap.size) m8.size) x11.size; omega⟩) hv11 hv11) ?_))
      rintro _ w16 ⟨cs16, rfl, hv16, x16⟩
      obtain ⟨kr16, nr16, sr16, lsr16, tsr16, lar16, lcr16, tar16, tcr16, etr16, rfl, hkr16, hnr16, hsr16, hlr16, htr16, hLr16, hTr16⟩ := hv16.inv
      refine Rg.on rfl rfl (OpT.storeA Try.sizeOf26 rfl rfl rfl rfl (b11.ext x16) rfl fun w17 m17 z17 b17 => ?_)
      replace b17 : Box w17 g7 [.int .u8 kr16, .int .i64 nr16, .string sr16, .slice lar16 lsr16.length lcr16, .slice tar16 tsr16.length tcr16] := b17
      refine Rg.nil ?_
      refine hK15 _ _ ?_
      refine W.region ?_
      refine Rg.od rfl rfl rfl (OpT.move rfl ?_)
      refine Rg.od rfl rfl rfl (OpT.add rfl rfl (by first | omega | decide) ?_)
      refine Rg.od rfl rfl rfl (OpT.assign rfl ?_)
      refine Rg.nil ?_
      exact ⟨q11 + 1, ⟨⟨rfl, rfl, rfl, rfl, rfl, rfl, (intSlot (by omega) rfl), trivial⟩, ((x11.ext x16).trans m17), ⟨_, b17, (hv16.upd m17 (fun h => h.2 rfl))⟩, by omega⟩, by omega⟩
    · have hp14 := of_decide_eq_false hb14
      refine W.condFb rfl hb14 ?_
      refine W.exit ?_
      refine hK9 _ _ ?_
      refine W.seqK fun K18 hK18 => ?_
      refine W.region ?_
      refine Rg.od rfl rfl rfl (OpT.loadAB Try.isAgg26 Try.sizeOf26 rfl b11 rfl ?_)
      have hq14 : q11 = 14 := by omega
      have hs14 : ((size (dbl q11) : Nat) : Int) = 32767 := by
        rw [hq14, dbl14]; rfl
      refine Rg.od rfl rfl rfl (OpT.call Try.call12 (.cons rfl .nil) (Runs.mono (by have h := rSize_runs _ _ _ _ hv11 (by omega); rw [hs14] at h; exact h) ?_))
      rintro _ w19 ⟨rfl, x19⟩
      refine Rg.od rfl rfl rfl (OpT.assign rfl ?_)
      refine Rg.nil ?_
      refine hK18 _ _ ?_
      refine W.seqK fun K20 hK20 => ?_
      refine W.region ?_
      refine Rg.od rfl rfl rfl (OpT.loadAB Try.isAgg26 Try.sizeOf26 rfl (b11.ext x19) rfl ?_)
      refine Rg.od rfl rfl rfl (OpT.loadAB Try.isAgg26 Try.sizeOf26 rfl (b11.ext x19) rfl ?_)
      refine Rg.od rfl rfl rfl (OpT.call Try.call11 (.cons rfl (.cons rfl .nil)) (Runs.mono (lA_runs _ _ _ _ _ (fun k => (fun _ => True) k ∧ k ≠ g7) (fun k hk => ⟨(fun k hk => hR k (Nat.le_trans (Nat.le_trans (Nat.le_trans (Nat.le_trans (Nat.le_trans (Nat.le_trans (Nat.le_refl w0.heap.size) x6.size) x7.size) m8.size) x11.size) x19.size) hk)) k hk, by have h100 := Nat.le_trans (Nat.le_trans (Nat.le_trans (Nat.le_refl w7.heap.size) m8.size) x11.size) x19.size; omega⟩) (hv11.ext x19) (hv11.ext x19)) ?_))
      rintro _ w21 ⟨cs21, rfl, hv21, x21⟩
      obtain ⟨kr21, nr21, sr21, lsr21, tsr21, lar21, lcr21, tar21, tcr21, etr21, rfl, hkr21, hnr21, hsr21, hlr21, htr21, hLr21, hTr21⟩ := hv21.inv
      refine Rg.od rfl rfl rfl (OpT.alloc Try.zeroValue26 fun w22 g22 e22 x22 z22 b22 => ?_)
      replace b22 : Box w22 g22 [.int .u8 0, .int .i64 0, .string (⟨#[]⟩ : ByteArray), .slice none 0 0, .slice none 0 0] := b22
      refine Rg.on rfl rfl (OpT.storeA Try.sizeOf26 rfl rfl rfl rfl b22 rfl fun w23 m23 z23 b23 => ?_)
      replace b23 : Box w23 g22 [.int .u8 kr21, .int .i64 nr21, .string sr21, .slice lar21 lsr21.length lcr21, .slice tar21 tsr21.length tcr21] := b23
      refine Rg.nil ?_
      refine hK20 _ _ ?_
      refine W.seqK fun K24 hK24 => ?_
      refine W.region ?_
      refine Rg.od rfl rfl rfl (OpT.move rfl ?_)
      refine Rg.od rfl rfl rfl (OpT.mul rfl rfl (by first | omega | decide) ?_)
      refine Rg.od rfl rfl rfl (OpT.add rfl rfl (by first | omega | decide) ?_)
      refine Rg.od rfl rfl rfl (OpT.assign rfl ?_)
      refine Rg.nil ?_
      refine hK24 _ _ ?_
      refine W.seqK fun K25 hK25 => ?_
      refine W.seqK fun K26 hK26 => ?_
      refine W.region ?_
      refine Rg.od rfl rfl rfl (OpT.assign rfl ?_)
      refine Rg.nil ?_
      refine hK26 _ _ ?_
      refine W.block ?_
      have hst27 : VT w21 (fun k => (fun k => (fun _ => True) k ∧ k ≠ g7) k ∧ k ≠ g22) [.int .u8 kr21, .int .i64 nr21, .string sr21, .slice lar21 lsr21.length lcr21, .slice tar21 tsr21.length tcr21] (prj 0) := by have h : VT w21 (fun k => (fun k => (fun _ => True) k ∧ k ≠ g7) k ∧ k ≠ g22) [.int .u8 kr21, .int .i64 nr21, .string sr21, .slice lar21 lsr21.length lcr21, .slice tar21 tsr21.length tcr21] (tA (dbl q11) (dbl q11)) := VT.mono (VT.small hv21) (fun k h => ⟨h.1, by have h1 := h.2; have h200 := Nat.le_refl w21.heap.size; omega⟩); rw [hq14] at h; exact h
      refine W.loop (σ := Nat) (fun q e w' => Sub [(0, .int .i8 over), (1, .bool wide), (4, .bool false), (7, .pointer (some ⟨g7, 0, none⟩)), (8, .int .i64 ((q11 : Nat) : Int)), (9, .int .i64 32767), (10, .pointer (some ⟨g22, 0, none⟩)), (13, .bool wide), (14, .bool (!wide)), (35, .int .i64 ((q11 : Nat) : Int)), (36, .bool (decide (((q11 : Nat) : Int) < 14))), (43, .int .i64 32767), (47, .int .i64 32767), (48, .int .i64 (2 * 32767)), (49, .int .i64 ((2 * 32767) + 1)), (12, .int .i64 ((q : Nat) : Int)), (11, .int .i64 (65535 + ((q : Nat) : Int)))] e ∧ Upd g22 w23 w' ∧ (∃ cs, Box w' g22 cs ∧ VT w' (fun k => (fun k => (fun _ => True) k ∧ k ≠ g7) k ∧ k ≠ g22) cs (prj q)) ∧ (q : Int) ≤ 3 + over.tmod 4) (fun q => 10 - q) 0
        ⟨⟨rfl, rfl, rfl, rfl, rfl, rfl, rfl, rfl, rfl, rfl, rfl, rfl, rfl, rfl, rfl, (intSlot (by omega) rfl), (intSlot (by omega) rfl), trivial⟩, Mod.refl _ _, ⟨_, b23, (hst27.ext (x22.upd m23 (by omega)))⟩, by omega⟩ ?_
      rintro q27 en27 w27 ⟨hs27, x27, ⟨cs27, b27, hv27⟩, hq27⟩
      refine W.sub hs27 ?_
      obtain ⟨kq27, nq27, sq27, lsq27, tsq27, laq27, lcq27, taq27, tcq27, etq27, rfl, hkq27, hnq27, hsq27, hlq27, htq27, hLq27, hTq27⟩ := hv27.inv
      refine W.seqK fun K28 hK28 => ?_
      refine W.seqK fun K29 hK29 => ?_
      refine W.region ?_
      refine Rg.od rfl rfl rfl (OpT.move rfl ?_)
      refine Rg.od rfl rfl rfl (OpT.move rfl ?_)
      refine Rg.od rfl rfl rfl (OpT.convIn rfl Try.underlying3 rfl (wrap_i64 (by first | omega | decide)) ?_)
      refine Rg.od rfl rfl rfl (OpT.rem rfl rfl (by decide) ?_)
      refine Rg.od rfl rfl rfl (OpT.add rfl rfl (by first | omega | decide) ?_)
      refine Rg.od rfl rfl rfl (OpT.lss rfl rfl ?_)
      refine Rg.nil ?_
      refine hK29 _ _ ?_
      rcases Bool.eq_false_or_eq_true (decide (((q27 : Nat) : Int) < (3 + (Int.tmod over 4)))) with hb30 | hb30
      · have hp30 := of_decide_eq_true hb30
        refine W.condTb rfl hb30 ?_
        refine W.skip ?_
        refine hK28 _ _ ?_
        refine W.seqK fun K31 hK31 => ?_
        refine W.block ?_
        refine W.seqK fun K32 hK32 => ?_
        refine W.region ?_
        refine Rg.od rfl rfl rfl (OpT.loadAB Try.isAgg26 Try.sizeOf26 rfl b27 rfl ?_)
        refine Rg.od rfl rfl rfl (OpT.buildSlice (cs := #[.int .u8 kq27, .int .i64 nq27, .string sq27, .slice laq27 lsq27.length lcq27, .slice taq27 tsq27.length tcq27]) (.cons rfl .nil) Try.underlying24 Try.sizeOf26 Try.zeroValue26 rfl (by kernel_rfl) fun w33 g33 e33 x33 z33 b33 => ?_)
        replace b33 : Box w33 g33 [.int .u8 kq27, .int .i64 nq27, .string sq27, .slice laq27 lsq27.length lcq27, .slice taq27 tsq27.length tcq27] := b33
        refine Rg.od rfl rfl rfl (OpT.build (cs := #[.int .u8 8, .int .i64 0, .string (⟨#[115]⟩ : ByteArray), .slice none 0 0, .slice (some ⟨g33, 0, none⟩) 1 1]) (.cons rfl (.cons rfl (.cons rfl .nil))) Try.zeroValue26 places26.choose_spec.1 places26.choose_spec.2 (by kernel_rfl) ?_)
        refine Rg.on rfl rfl (OpT.storeA Try.sizeOf26 rfl rfl rfl rfl (b27.ext x33) rfl fun w34 m34 z34 b34 => ?_)
        replace b34 : Box w34 g22 [.int .u8 8, .int .i64 0, .string (⟨#[115]⟩ : ByteArray), .slice none 0 0, .slice (some ⟨g33, 0, none⟩) 1 1] := b34
        refine Rg.nil ?_
        refine hK32 _ _ ?_
        refine W.region ?_
        refine Rg.od rfl rfl rfl (OpT.move rfl ?_)
        refine Rg.od rfl rfl rfl (OpT.add rfl rfl (by first | omega | decide) ?_)
        refine Rg.od rfl rfl rfl (OpT.assign rfl ?_)
        refine Rg.nil ?_
        refine hK31 _ _ ?_
        refine W.region ?_
        refine Rg.od rfl rfl rfl (OpT.move rfl ?_)
        refine Rg.od rfl rfl rfl (OpT.add rfl rfl (by first | omega | decide) ?_)
        refine Rg.od rfl rfl rfl (OpT.assign rfl ?_)
        refine Rg.nil ?_
        exact ⟨q27 + 1, ⟨⟨rfl, rfl, rfl, rfl, rfl, rfl, rfl, rfl, rfl, rfl, rfl, rfl, rfl, rfl, rfl, (intSlot (by omega) rfl), (intSlot (by omega) rfl), trivial⟩, ((x27.ext x33).trans m34), ⟨_, b34, VT.intro (w := w34) (R := (fun k => (fun k => (fun _ => True) k ∧ k ≠ g7) k ∧ k ≠ g22)) (k := 8) (n := 0) (s := (⟨#[115]⟩ : ByteArray)) (la := none) (lc := 0) (ta := (some ⟨g33, 0, none⟩)) (tc := 1) (ls := []) (ts := [(prj q27)]) (by omega) (by unfold i64ok at *; omega) (by first | assumption | decide) ⟨Nat.le_refl 0, by decide⟩ (by unfold lenOk at *; simp only [List.length_cons, List.length_nil]; omega) (SlL.nil _ _ _) (SlT.box1 (c1 := [.int .u8 kq27, .int .i64 nq27, .string sq27, .slice laq27 lsq27.length lcq27, .slice taq27 tsq27.length tcq27]) (b33.upd m34 (by have h1 := Nat.le_trans (Nat.le_trans (Nat.le_refl w22.heap.size) m23.size) x27.size; omega)) ⟨⟨(hR _ (by have h1 := Nat.le_trans (Nat.le_trans (Nat.le_trans (Nat.le_trans (Nat.le_trans (Nat.le_trans (Nat.le_trans (Nat.le_trans (Nat.le_trans (Nat.le_refl w0.heap.size) x6.size) x7.size) m8.size) x11.size) x19.size) x21.size) x22.size) m23.size) x27.size; omega)), by have h100 := Nat.le_trans (Nat.le_trans (Nat.le_trans (Nat.le_trans (Nat.le_trans (Nat.le_trans (Nat.le_trans (Nat.le_refl w7.heap.size) m8.size) x11.size) x19.size) x21.size) x22.size) m23.size) x27.size; omega⟩, by have h100 := Nat.le_trans (Nat.le_trans (Nat.le_refl w22.heap.size) m23.size) x27.size; omega⟩ ((hv27.ext x33).upd m34 (fun h => h.2 rfl)))⟩, by omega⟩, by omega⟩
      · have hp30 := of_decide_eq_false hb30
        refine W.condFb rfl hb30 ?_
        refine W.exit ?_
        refine hK25 _ _ ?_
        refine W.seqK fun K35 hK35 => ?_
        refine W.region ?_
        refine Rg.od rfl rfl rfl (OpT.loadAB Try.isAgg26 Try.sizeOf26 rfl b27 rfl ?_)
        refine Rg.od rfl rfl rfl (OpT.call Try.call8 (.cons rfl .nil) (Runs.mono (may_runs _ _ _ _ hv27) ?_))
        rintro _ w36 ⟨rfl, x36⟩
        refine Rg.od rfl rfl rfl (OpT.move rfl ?_)
        refine Rg.od rfl rfl rfl (OpT.leq rfl rfl ?_)
        refine Rg.od rfl rfl rfl (OpT.eqlB Try.underlying4 rfl rfl ?_)
        refine Rg.od rfl rfl rfl (OpT.move rfl ?_)
        have hb37 : (mayT (prj q27) == decide ((65535 + ((q27 : Nat) : Int)) ≤ 65536)) = true := prj_may (by omega) (by omega)
        refine Rg.gy rfl rfl rfl rfl hb37 (OpT.call Try.call9 .nil (Runs.mono (works_runs _) ?_))
        rintro _ w38 ⟨rfl, x38⟩
        refine Rg.od rfl rfl rfl (OpT.pickT rfl hb37 rfl ?_)
        refine Rg.od rfl rfl rfl (OpT.assign rfl ?_)
        refine Rg.nil ?_
        refine hK35 _ _ ?_
        refine W.ret ?_
        refine ⟨_, Res.one rfl rfl, ?_⟩
        exact ⟨rfl, ((((((((((x6.trans x7).upd m8 (by have h1 := x6.size; omega)).upd x11 (by have h1 := x6.size; omega)).trans x19).trans x21).trans x22).upd m23 (by have h1 := (((((x6.trans x7).upd m8 (by have h1 := x6.size; omega)).upd x11 (by have h1 := x6.size; omega)).trans x19).trans x21).size; omega)).upd x27 (by have h1 := (((((x6.trans x7).upd m8 (by have h1 := x6.size; omega)).upd x11 (by have h1 := x6.size; omega)).trans x19).trans x21).size; omega)).trans x36).trans x38)⟩
  · have hp4 := hb4
    refine W.condTb rfl (nF hb4) ?_
    refine W.seqK fun K39 hK39 => ?_
    refine W.region ?_
    refine Rg.od rfl rfl rfl (OpT.call Try.call6 .nil (Runs.mono (lS_runs _ (fun _ => True) (fun k hk => hR k (Nat.le_trans (Nat.le_refl w0.heap.size) hk))) ?_))
    rintro _ w40 ⟨cs40, rfl, hv40, x40⟩
    obtain ⟨kr40, nr40, sr40, lsr40, tsr40, lar40, lcr40, tar40, tcr40, etr40, rfl, hkr40, hnr40, hsr40, hlr40, htr40, hLr40, hTr40⟩ := hv40.inv
    refine Rg.od rfl rfl rfl (OpT.alloc Try.zeroValue26 fun w41 g41 e41 x41 z41 b41 => ?_)
    replace b41 : Box w41 g41 [.int .u8 0, .int .i64 0, .string (⟨#[]⟩ : ByteArray), .slice none 0 0, .slice none 0 0] := b41
    refine Rg.on rfl rfl (OpT.storeA Try.sizeOf26 rfl rfl rfl rfl b41 rfl fun w42 m42 z42 b42 => ?_)
    replace b42 : Box w42 g41 [.int .u8 kr40, .int .i64 nr40, .string sr40, .slice lar40 lsr40.length lcr40, .slice tar40 tsr40.length tcr40] := b42
    refine Rg.nil ?_
    refine hK39 _ _ ?_
    refine W.seqK fun K43 hK43 => ?_
    refine W.seqK fun K44 hK44 => ?_
    refine W.region ?_
    refine Rg.od rfl rfl rfl (OpT.assign rfl ?_)
    refine Rg.nil ?_
    refine hK44 _ _ ?_
    refine W.block ?_
    have hst45 : VT w40 (fun k => (fun _ => True) k ∧ k ≠ g41) [.int .u8 kr40, .int .i64 nr40, .string sr40, .slice lar40 lsr40.length lcr40, .slice tar40 tsr40.length tcr40] (rowL 0) := by have h : VT w40 (fun k => (fun _ => True) k ∧ k ≠ g41) [.int .u8 kr40, .int .i64 nr40, .string sr40, .slice lar40 lsr40.length lcr40, .slice tar40 tsr40.length tcr40] tS := VT.mono (VT.small hv40) (fun k h => ⟨h.1, by have h1 := h.2; have h200 := Nat.le_refl w40.heap.size; omega⟩); exact h
    refine W.loop (σ := Nat) (fun q e w' => Sub [(0, .int .i8 over), (1, .bool wide), (4, .bool false), (5, .pointer (some ⟨g41, 0, none⟩)), (13, .bool wide), (14, .bool (!wide)), (6, .int .i64 (((q : Nat) : Int) + 1))] e ∧ Upd g41 w42 w' ∧ (∃ cs, Box w' g41 cs ∧ VT w' (fun k => (fun _ => True) k ∧ k ≠ g41) cs (rowL q)) ∧ (q : Int) + 1 ≤ 4096 + over) (fun q => 5000 - q) 0
      ⟨⟨rfl, rfl, rfl, rfl, rfl, rfl, (intSlot (by omega) rfl), trivial⟩, Mod.refl _ _, ⟨_, b42, (hst45.ext (x41.upd m42 (by omega)))⟩, by omega⟩ ?_
    rintro q45 en45 w45 ⟨hs45, x45, ⟨cs45, b45, hv45⟩, hq45⟩
    refine W.sub hs45 ?_
    obtain ⟨kq45, nq45, sq45, lsq45, tsq45, laq45, lcq45, taq45, tcq45, etq45, rfl, hkq45, hnq45, hsq45, hlq45, htq45, hLq45, hTq45⟩ := hv45.inv
    refine W.seqK fun K46 hK46 => ?_
    refine W.seqK fun K47 hK47 => ?_
    refine W.region ?_
    refine Rg.od rfl rfl rfl (OpT.move rfl ?_)
    refine Rg.od rfl rfl rfl (OpT.move rfl ?_)
    refine Rg.od rfl rfl rfl (OpT.convIn rfl Try.underlying3 rfl (wrap_i64 (by first | omega | decide)) ?_)
    refine Rg.od rfl rfl rfl (OpT.add rfl rfl (by first | omega | decide) ?_)
    refine Rg.od rfl rfl rfl (OpT.lss rfl rfl ?_)
    refine Rg.nil ?_
    refine hK47 _ _ ?_
    rcases Bool.eq_false_or_eq_true (decide ((((q45 : Nat) : Int) + 1) < (4096 + over))) with hb48 | hb48
    · have hp48 := of_decide_eq_true hb48
      refine W.condTb rfl hb48 ?_
      refine W.skip ?_
      refine hK46 _ _ ?_
      refine W.seqK fun K49 hK49 => ?_
      refine W.block ?_
      refine W.drawE 2 [.any (fun v w => ∃ cs, v = .agg cs.toArray ∧ VT w (fun k => (fun _ => True) k ∧ k ≠ g41) cs tS), .ex (.agg ([.int .u8 kq45, .int .i64 nq45, .string sq45, .slice laq45 lsq45.length lcq45, .slice taq45 tsq45.length tcq45].toArray))] mixed rfl rfl rfl ⟨(fun _ _ _ h => by rintro ⟨cs, h1, h2⟩; exact ⟨cs, h1, h2.ext h⟩), trivial, trivial⟩ ?_ ?_
      · refine ⟨?_, ?_, trivial⟩
        · intro w' hx _
          exact OpT.call Try.call6 .nil (Runs.mono (lS_runs _ (fun k => (fun _ => True) k ∧ k ≠ g41) (fun k hk => ⟨(fun k hk => hR k (Nat.le_trans (Nat.le_trans (Nat.le_trans (Nat.le_trans (Nat.le_trans (Nat.le_trans (Nat.le_refl w0.heap.size) x40.size) x41.size) m42.size) x45.size) hx.size) hk)) k hk, by have h100 := Nat.le_trans (Nat.le_trans (Nat.le_trans (Nat.le_refl w41.heap.size) m42.size) x45.size) hx.size; omega⟩)) (fun v w h => by obtain ⟨cs, h1, h2, h3⟩ := h; exact ⟨h3, cs, h1, h2⟩))
        · intro w' hx _
          exact OpT.loadAB Try.isAgg26 Try.sizeOf26 rfl (b45.ext hx) rfl VS.ok
      · intro w50 x50
        rintro _ ⟨cs53, rfl, hv53⟩
        obtain ⟨kr53, nr53, sr53, lsr53, tsr53, lar53, lcr53, tar53, tcr53, etr53, rfl, hkr53, hnr53, hsr53, hlr53, htr53, hLr53, hTr53⟩ := hv53.inv
        refine ⟨rfl, rfl, OpT.call Try.call7 (.cons rfl (.cons rfl .nil)) (Runs.mono (lL_runs _ _ _ _ _ (fun k => (fun _ => True) k ∧ k ≠ g41) (fun k hk => ⟨(fun k hk => hR k (Nat.le_trans (Nat.le_trans (Nat.le_trans (Nat.le_trans (Nat.le_trans (Nat.le_trans (Nat.le_refl w0.heap.size) x40.size) x41.size) m42.size) x45.size) x50.size) hk)) k hk, by have h100 := Nat.le_trans (Nat.le_trans (Nat.le_trans (Nat.le_refl w41.heap.size) m42.size) x45.size) x50.size; omega⟩) hv53 (hv45.ext x50)) ?_)⟩
        rintro _ w54 ⟨cs54, rfl, hv54, x54⟩
        obtain ⟨kr54, nr54, sr54, lsr54, tsr54, lar54, lcr54, tar54, tcr54, etr54, rfl, hkr54, hnr54, hsr54, hlr54, htr54, hLr54, hTr54⟩ := hv54.inv
        refine ⟨rfl, rfl, OpT.storeA Try.sizeOf26 rfl rfl rfl rfl (b45.ext (x50.trans x54)) rfl fun w55 m55 z55 b55 => ?_⟩
        replace b55 : Box w55 g41 [.int .u8 kr54, .int .i64 nr54, .string sr54, .slice lar54 lsr54.length lcr54, .slice tar54 tsr54.length tcr54] := b55
        refine hK49 _ _ ?_
        refine W.region ?_
        refine Rg.od rfl rfl rfl (OpT.move rfl ?_)
        refine Rg.od rfl rfl rfl (OpT.add rfl rfl (by first | omega | decide) ?_)
        refine Rg.od rfl rfl rfl (OpT.assign rfl ?_)
        refine Rg.nil ?_
        exact ⟨q45 + 1, ⟨⟨rfl, rfl, rfl, rfl, rfl, rfl, (intSlot (by omega) rfl), trivial⟩, ((x45.ext (x50.trans x54)).trans m55), ⟨_, b55, (hv54.upd m55 (fun h => h.2 rfl))⟩, by omega⟩, by omega⟩
    · have hp48 := of_decide_eq_false hb48
      refine W.condFb rfl hb48 ?_
      refine W.exit ?_
      refine hK43 _ _ ?_
      refine W.seqK fun K56 hK56 => ?_
      refine W.region ?_
      refine Rg.od rfl rfl rfl (OpT.loadAB Try.isAgg26 Try.sizeOf26 rfl b45 rfl ?_)
      refine Rg.od rfl rfl rfl (OpT.call Try.call8 (.cons rfl .nil) (Runs.mono (may_runs _ _ _ _ hv45) ?_))
      rintro _ w57 ⟨rfl, x57⟩
      refine Rg.od rfl rfl rfl (OpT.move rfl ?_)
      refine Rg.od rfl rfl rfl (OpT.leq rfl rfl ?_)
      refine Rg.od rfl rfl rfl (OpT.eqlB Try.underlying4 rfl rfl ?_)
      refine Rg.od rfl rfl rfl (OpT.move rfl ?_)
      have hb58 : (mayT (rowL q45) == decide (over ≤ 0)) = true := rowL_may (by omega)
      refine Rg.gy rfl rfl rfl rfl hb58 (OpT.call Try.call9 .nil (Runs.mono (works_runs _) ?_))
      rintro _ w59 ⟨rfl, x59⟩
      refine Rg.od rfl rfl rfl (OpT.pickT rfl hb58 rfl ?_)
      refine Rg.od rfl rfl rfl (OpT.assign rfl ?_)
      refine Rg.nil ?_
      refine hK56 _ _ ?_
      refine W.ret ?_
      refine ⟨_, Res.one rfl rfl, ?_⟩
      exact ⟨rfl, (((((x40.trans x41).upd m42 (by have h1 := x40.size; omega)).upd x45 (by have h1 := x40.size; omega)).trans x57).trans x59)⟩
set_option maxHeartbeats 1000000 in
set_option maxRecDepth 20000 in
theorem rSame_runs (x : T) : ∀ (y : T) (cs cs' : List Value) (w : World) (R R' : Nat → Prop) (hx : VT w R cs x) (hy : VT w R' cs' y), Runs Try.prog 17 #[.agg cs.toArray, .agg cs'.toArray] w fun v w' => v = .bool (sameB x y) ∧ Ext w w' := by
  induction x using T.ind with
  | h ka na sa lsa tsa ih =>
  intro y cs cs' w0 R R' hx hy
  obtain ⟨ka1, na1, sa1, lsa1, tsa1, laa, lca, taa, tca, e1, rfl, hka, hna, hsa, hla, hta, hLa, hTa⟩ := hx.inv
  obtain ⟨kb, nb, sb, lsb, tsb, lab, lcb, tab, tcb, e2, rfl, hkb, hnb, hsb, hlb, htb, hLb, hTb⟩ := hy.inv
  cases e1
  cases e2
  refine Runs.of_W (vs := [_, _]) Try.func17 rfl rfl ?_
  refine W.seqK fun K1 hK1 => ?_
  refine W.region ?_
  refine Rg.od rfl rfl rfl (OpT.box rfl fun w2 g2 e2 x2 z2 b2 => ?_)
  replace b2 : Box w2 g2 [.int .u8 ka, .int .i64 na, .string sa, .slice laa lsa.length lca, .slice taa tsa.length tca] := b2
  refine Rg.od rfl rfl rfl (OpT.box rfl fun w3 g3 e3 x3 z3 b3 => ?_)
  replace b3 : Box w3 g3 [.int .u8 kb, .int .i64 nb, .string sb, .slice lab lsb.length lcb, .slice tab tsb.length tcb] := b3
  refine Rg.od rfl rfl rfl (OpT.assign rfl ?_)
  refine Rg.nil ?_
  refine hK1 _ _ ?_
  refine W.seqK fun K4 hK4 => ?_
  refine W.seqK fun K5 hK5 => ?_
  refine W.region ?_
  refine Rg.od rfl rfl rfl (OpT.fieldAddrB (off := 0) Try.underlying26 rfl Try.sizeOf5 rfl rfl ?_)
  refine Rg.od rfl rfl rfl (OpT.loadB Try.isAgg5 rfl (b2.ext x3) rfl ?_)
  refine Rg.od rfl rfl rfl (OpT.fieldAddrB (off := 0) Try.underlying26 rfl Try.sizeOf5 rfl rfl ?_)
  refine Rg.od rfl rfl rfl (OpT.loadB Try.isAgg5 rfl b3 rfl ?_)
  refine Rg.od rfl rfl rfl (OpT.neqI rfl rfl ?_)
  refine Rg.od rfl rfl rfl (OpT.move rfl ?_)
  rcases Bool.eq_false_or_eq_true (decide (ka = kb)) with hb6 | hb6
  · have hp6 := of_decide_eq_true hb6
    refine Rg.gy rfl rfl rfl rfl (nT hb6) (OpT.fieldAddrB (off := 1) Try.underlying26 rfl Try.sizeOf3 rfl rfl ?_)
    refine Rg.gy rfl rfl rfl rfl (nT hb6) (OpT.loadB Try.isAgg3 rfl (b2.ext x3) rfl ?_)
    refine Rg.gy rfl rfl rfl rfl (nT hb6) (OpT.fieldAddrB (off := 1) Try.underlying26 rfl Try.sizeOf3 rfl rfl ?_)
    refine Rg.gy rfl rfl rfl rfl (nT hb6) (OpT.loadB Try.isAgg3 rfl b3 rfl ?_)
    refine Rg.gy rfl rfl rfl rfl (nT hb6) (OpT.neqI rfl rfl ?_)
    refine Rg.od rfl rfl rfl (OpT.pickF rfl (nT hb6) rfl ?_)
    refine Rg.od rfl rfl rfl (OpT.move rfl ?_)
    rcases Bool.eq_false_or_eq_true (decide (na = nb)) with hb7 | hb7
    · have hp7 := of_decide_eq_true hb7
      refine Rg.gy rfl rfl rfl rfl (nT hb7) (OpT.fieldAddrB (off := 2) Try.underlying26 rfl Try.sizeOf9 rfl rfl ?_)
      refine Rg.gy rfl rfl rfl rfl (nT hb7) (OpT.loadB Try.isAgg9 rfl (b2.ext x3) rfl ?_)
      refine Rg.gy rfl rfl rfl rfl (nT hb7) (OpT.fieldAddrB (off := 2) Try.underlying26 rfl Try.sizeOf9 rfl rfl ?_)
      refine Rg.gy rfl rfl rfl rfl (nT hb7) (OpT.loadB Try.isAgg9 rfl b3 rfl ?_)
      refine Rg.gy rfl rfl rfl rfl (nT hb7) (OpT.neqS rfl rfl ?_)
      refine Rg.od rfl rfl rfl (OpT.pickF rfl (nT hb7) rfl ?_)
      refine Rg.od rfl rfl rfl (OpT.move rfl ?_)
      rcases Bool.eq_false_or_eq_true (sa.toList == sb.toList) with hb8 | hb8
      · have hp8 := hb8
        refine Rg.gy rfl rfl rfl rfl (nT hb8) (OpT.fieldAddrB (off := 3) Try.underlying26 rfl Try.sizeOf23 rfl rfl ?_)
        refine Rg.gy rfl rfl rfl rfl (nT hb8) (OpT.loadB Try.isAgg23 rfl (b2.ext x3) rfl ?_)
        refine Rg.gy rfl rfl rfl rfl (nT hb8) (OpT.lenS Try.underlying23 rfl ?_)
        refine Rg.gy rfl rfl rfl rfl (nT hb8) (OpT.fieldAddrB (off := 3) Try.underlying26 rfl Try.sizeOf23 rfl rfl ?_)
        refine Rg.gy rfl rfl rfl rfl (nT hb8) (OpT.loadB Try.isAgg23 rfl b3 rfl ?_)
        refine Rg.gy rfl rfl rfl rfl (nT hb8) (OpT.lenS Try.underlying23 rfl ?_)
        refine Rg.gy rfl rfl rfl rfl (nT hb8) (OpT.neqI rfl rfl ?_)
        refine Rg.od rfl rfl rfl (OpT.pickF rfl (nT hb8) rfl ?_)
        refine Rg.od rfl rfl rfl (OpT.move rfl ?_)
        rcases Bool.eq_false_or_eq_true (decide (((lsa.length : Nat) : Int) = ((lsb.length : Nat) : Int))) with hb9 | hb9
        · have hp9 := of_decide_eq_true hb9
          refine Rg.gy rfl rfl rfl rfl (nT hb9) (OpT.fieldAddrB (off := 4) Try.underlying26 rfl Try.sizeOf24 rfl rfl ?_)
          refine Rg.gy rfl rfl rfl rfl (nT hb9) (OpT.loadB Try.isAgg24 rfl (b2.ext x3) rfl ?_)
          refine Rg.gy rfl rfl rfl rfl (nT hb9) (OpT.lenS Try.underlying24 rfl ?_)
          refine Rg.gy rfl rfl rfl rfl (nT hb9) (OpT.fieldAddrB (off := 4) Try.underlying26 rfl Try.sizeOf24 rfl rfl ?_)
          refine Rg.gy rfl rfl rfl rfl (nT hb9) (OpT.loadB Try.isAgg24 rfl b3 rfl ?_)
          refine Rg.gy rfl rfl rfl rfl (nT hb9) (OpT.lenS Try.underlying24 rfl ?_)
          refine Rg.gy rfl rfl rfl rfl (nT hb9) (OpT.neqI rfl rfl ?_)
          refine Rg.od rfl rfl rfl (OpT.pickF rfl (nT hb9) rfl ?_)
          refine Rg.nil ?_
          refine hK5 _ _ ?_
          rcases Bool.eq_false_or_eq_true (decide (((tsa.length : Nat) : Int) = ((tsb.length : Nat) : Int))) with hb10 | hb10
          · have hp10 := of_decide_eq_true hb10
            refine W.condFb rfl (nT hb10) ?_
            refine W.skip ?_
            refine hK4 _ _ ?_
            refine W.seqK fun K11 hK11 => ?_
            refine W.seqK fun K12 hK12 => ?_
            refine W.region ?_
            refine Rg.od rfl rfl rfl (OpT.assign rfl ?_)
            refine Rg.nil ?_
            refine hK12 _ _ ?_
            refine W.block ?_
            refine W.loop (σ := Nat) (fun q e w' => Sub [(0, .agg ([.int .u8 ka, .int .i64 na, .string sa, .slice laa lsa.length lca, .slice taa tsa.length tca].toArray)), (1, .agg ([.int .u8 kb, .int .i64 nb, .string sb, .slice lab lsb.length lcb, .slice tab tsb.length tcb].toArray)), (2, .pointer (some ⟨g2, 0, none⟩)), (3, .pointer (some ⟨g3, 0, none⟩)), (4, .bool false), (5, .int .i64 ((q : Nat) : Int)), (7, .pointer (some ⟨g2, 0, none⟩)), (8, .int .u8 ka), (9, .pointer (some ⟨g3, 0, none⟩)), (10, .int .u8 kb), (11, .bool (!decide (ka = kb))), (12, .bool (!decide (ka = kb))), (13, .pointer (some ⟨g2, 1, none⟩)), (14, .int .i64 na), (15, .pointer (some ⟨g3, 1, none⟩)), (16, .int .i64 nb), (17, .bool (!decide (na = nb))), (18, .bool (!decide (na = nb))), (19, .bool (!decide (na = nb))), (20, .pointer (some ⟨g2, 2, none⟩)), (21, .string sa), (22, .pointer (some ⟨g3, 2, none⟩)), (23, .string sb), (24, .bool (!(sa.toList == sb.toList))), (25, .bool (!(sa.toList == sb.toList))), (26, .bool (!(sa.toList == sb.toList))), (27, .pointer (some ⟨g2, 3, none⟩)), (28, .slice laa lsa.length lca), (29, .int .i64 ((lsa.length : Nat) : Int)), (30, .pointer (some ⟨g3, 3, none⟩)), (31, .slice lab lsb.length lcb), (32, .int .i64 ((lsb.length : Nat) : Int)), (33, .bool (!decide (((lsa.length : Nat) : Int) = ((lsb.length : Nat) : Int)))), (34, .bool (!decide (((lsa.length : Nat) : Int) = ((lsb.length : Nat) : Int)))), (35, .bool (!decide (((lsa.length : Nat) : Int) = ((lsb.length : Nat) : Int)))), (36, .pointer (some ⟨g2, 4, none⟩)), (37, .slice taa tsa.length tca), (38, .int .i64 ((tsa.length : Nat) : Int)), (39, .pointer (some ⟨g3, 4, none⟩)), (40, .slice tab tsb.length tcb), (41, .int .i64 ((tsb.length : Nat) : Int)), (42, .bool (!decide (((tsa.length : Nat) : Int) = ((tsb.length : Nat) : Int)))), (43, .bool (!decide (((tsa.length : Nat) : Int) = ((tsb.length : Nat) : Int))))] e ∧ Ext w3 w' ∧ q ≤ lsa.length ∧ lsa.take q = lsb.take q) (fun q => lsa.length - q) 0
              ⟨⟨rfl, rfl, rfl, rfl, rfl, rfl, rfl, rfl, rfl, rfl, rfl, rfl, rfl, rfl, rfl, rfl, rfl, rfl, rfl, rfl, rfl, rfl, rfl, rfl, rfl, rfl, rfl, rfl, rfl, rfl, rfl, rfl, rfl, rfl, rfl, rfl, rfl, rfl, rfl, rfl, rfl, rfl, rfl, trivial⟩, Mod.refl _ _, Nat.zero_le _, rfl⟩ ?_
            rintro s13 en13 w13 ⟨hs13, x13, hi13_0, hi13_1⟩
            refine W.sub hs13 ?_
            refine W.seqK fun K14 hK14 => ?_
            refine W.seqK fun K15 hK15 => ?_
            refine W.region ?_
            refine Rg.od rfl rfl rfl (OpT.move rfl ?_)
            refine Rg.od rfl rfl rfl (OpT.fieldAddrB (off := 3) Try.underlying26 rfl Try.sizeOf23 rfl rfl ?_)
            refine Rg.od rfl rfl rfl (OpT.loadB Try.isAgg23 rfl (b2.ext (x3.trans x13)) rfl ?_)
            refine Rg.od rfl rfl rfl (OpT.lenS Try.underlying23 rfl ?_)
            refine Rg.od rfl rfl rfl (OpT.lss rfl rfl ?_)
            refine Rg.nil ?_
            refine hK15 _ _ ?_
            rcases Bool.eq_false_or_eq_true (decide (((s13 : Nat) : Int) < ((lsa.length : Nat) : Int))) with hb16 | hb16
            · have hp16 := of_decide_eq_true hb16
              refine W.condTb rfl hb16 ?_
              refine W.skip ?_
              refine hK14 _ _ ?_
              refine W.seqK fun K17 hK17 => ?_
              refine W.block ?_
              refine W.seqK fun K18 hK18 => ?_
              obtain ⟨a26, ha26, hr26, hw26, hv26⟩ := hLa.at (i := s13) (by first | omega | (unfold lenOk at *; omega))
              obtain ⟨a32, ha32, hr32, hw32, hv32⟩ := hLb.at (i := s13) (by first | omega | (unfold lenOk at *; omega))
              refine W.drawE 11 [.ex (.pointer (some ⟨g2, 3, none⟩)), .ex (.slice laa lsa.length lca), .ex (.int .i64 ((s13 : Nat) : Int)), .ex (.pointer (some (a26.add (s13 * 5)))), .ex (.agg ([.int .i64 (lsa[s13].c), .int .i64 (lsa[s13].p0), .int .i64 (lsa[s13].p1), .int .i64 (lsa[s13].p2), .int .i64 (lsa[s13].p3)].toArray)), .ex (.pointer (some ⟨g3, 3, none⟩)), .ex (.slice lab lsb.length lcb), .ex (.int .i64 ((s13 : Nat) : Int)), .ex (.pointer (some (a32.add (s13 * 5)))), .ex (.agg ([.int .i64 (lsb[s13].c), .int .i64 (lsb[s13].p0), .int .i64 (lsb[s13].p1), .int .i64 (lsb[s13].p2), .int .i64 (lsb[s13].p3)].toArray)), .ex (.bool (!((lsa[s13]).same (lsb[s13]))))] mixed rfl rfl rfl ⟨trivial, trivial, trivial, trivial, trivial, trivial, trivial, trivial, trivial, trivial, trivial, trivial⟩ ?_ ?_
              · refine ⟨?_, ?_, ?_, ?_, ?_, ?_, ?_, ?_, ?_, ?_, ?_, trivial⟩
                · intro w' hx _
                  exact OpT.fieldAddrB (off := 3) Try.underlying26 rfl Try.sizeOf23 rfl rfl VS.ok
                · intro w' hx _
                  exact OpT.loadB Try.isAgg23 rfl (b2.ext ((x3.trans x13).trans hx)) rfl VS.ok
                · intro w' hx _
                  exact OpT.move rfl VS.ok
                · intro w' hx _
                  exact OpT.indexAddr Try.underlying23 Try.sizeOf46 rfl rfl ha26 (by first | omega | (unfold lenOk at *; omega)) VS.ok
                · intro w' hx _
                  exact OpT.loadA (cs := [.int .i64 (lsa[s13].c), .int .i64 (lsa[s13].p0), .int .i64 (lsa[s13].p1), .int .i64 (lsa[s13].p2), .int .i64 (lsa[s13].p3)]) Try.isAgg46 Try.sizeOf46 rfl (hw26.ext (((x2.trans x3).trans x13).trans hx)) VS.ok
                · intro w' hx _
                  exact OpT.fieldAddrB (off := 3) Try.underlying26 rfl Try.sizeOf23 rfl rfl VS.ok
                · intro w' hx _
                  exact OpT.loadB Try.isAgg23 rfl (b3.ext (x13.trans hx)) rfl VS.ok
                · intro w' hx _
                  exact OpT.move rfl VS.ok
                · intro w' hx _
                  exact OpT.indexAddr Try.underlying23 Try.sizeOf46 rfl rfl ha32 (by first | omega | (unfold lenOk at *; omega)) VS.ok
                · intro w' hx _
                  exact OpT.loadA (cs := [.int .i64 (lsb[s13].c), .int .i64 (lsb[s13].p0), .int .i64 (lsb[s13].p1), .int .i64 (lsb[s13].p2), .int .i64 (lsb[s13].p3)]) Try.isAgg46 Try.sizeOf46 rfl (hw32.ext (((x2.trans x3).trans x13).trans hx)) VS.ok
                · intro w' hx _
                  exact OpT.neqL (a := lsa[s13]) (b := lsb[s13]) rfl rfl VS.ok
              · intro w21 x21
                refine hK18 _ _ ?_
                rcases Bool.eq_false_or_eq_true ((lsa[s13]).same (lsb[s13])) with hb35 | hb35
                · have hp35 := hb35
                  refine W.condFb rfl (nT hb35) ?_
                  refine W.skip ?_
                  refine hK17 _ _ ?_
                  refine W.region ?_
                  refine Rg.od rfl rfl rfl (OpT.move rfl ?_)
                  refine Rg.od rfl rfl rfl (OpT.add rfl rfl (by first | omega | (unfold lenOk at *; omega)) ?_)
                  refine Rg.od rfl rfl rfl (OpT.assign rfl ?_)
                  refine Rg.nil ?_
                  exact ⟨s13 + 1, ⟨⟨rfl, rfl, rfl, rfl, rfl, rfl, rfl, rfl, rfl, rfl, rfl, rfl, rfl, rfl, rfl, rfl, rfl, rfl, rfl, rfl, rfl, rfl, rfl, rfl, rfl, rfl, rfl, rfl, rfl, rfl, rfl, rfl, rfl, rfl, rfl, rfl, rfl, rfl, rfl, rfl, rfl, rfl, rfl, trivial⟩, (x13.trans x21), by omega, take_eq_succ hi13_1 (by omega) (by omega) ((L.same_iff _ _).1 (hb35))⟩, by omega⟩
                · have hp35 := hb35
                  refine W.condTb rfl (nF hb35) ?_
                  refine W.seqK fun K36 hK36 => ?_
                  refine W.region ?_
                  refine Rg.od rfl rfl rfl (OpT.assign rfl ?_)
                  refine Rg.nil ?_
                  refine hK36 _ _ ?_
                  refine W.ret ?_
                  refine ⟨_, Res.one rfl rfl, ?_⟩
                  exact ⟨congrArg Value.bool (no_of_iff (sameB_iff _ _) (fun e => by cases e; exact L.same_no hb35 rfl)), (((x2.trans x3).trans x13).trans x21)⟩
            · have hp16 := of_decide_eq_false hb16
              refine W.condFb rfl hb16 ?_
              refine W.exit ?_
              refine hK11 _ _ ?_
              refine W.seqK fun K37 hK37 => ?_
              refine W.seqK fun K38 hK38 => ?_
              refine W.region ?_
              refine Rg.od rfl rfl rfl (OpT.assign rfl ?_)
              refine Rg.nil ?_
              refine hK38 _ _ ?_
              refine W.block ?_
              refine W.loop (σ := Nat) (fun q e w' => Sub [(0, .agg ([.int .u8 ka, .int .i64 na, .string sa, .slice laa lsa.length lca, .slice taa tsa.length tca].toArray)), (1, .agg ([.int .u8 kb, .int .i64 nb, .string sb, .slice lab lsb.length lcb, .slice tab tsb.length tcb].toArray)), (2, .pointer (some ⟨g2, 0, none⟩)), (3, .pointer (some ⟨g3, 0, none⟩)), (4, .bool false), (5, .int .i64 ((s13 : Nat) : Int)), (6, .int .i64 ((q : Nat) : Int)), (7, .pointer (some ⟨g2, 0, none⟩)), (8, .int .u8 ka), (9, .pointer (some ⟨g3, 0, none⟩)), (10, .int .u8 kb), (11, .bool (!decide (ka = kb))), (12, .bool (!decide (ka = kb))), (13, .pointer (some ⟨g2, 1, none⟩)), (14, .int .i64 na), (15, .pointer (some ⟨g3, 1, none⟩)), (16, .int .i64 nb), (17, .bool (!decide (na = nb))), (18, .bool (!decide (na = nb))), (19, .bool (!decide (na = nb))), (20, .pointer (some ⟨g2, 2, none⟩)), (21, .string sa), (22, .pointer (some ⟨g3, 2, none⟩)), (23, .string sb), (24, .bool (!(sa.toList == sb.toList))), (25, .bool (!(sa.toList == sb.toList))), (26, .bool (!(sa.toList == sb.toList))), (27, .pointer (some ⟨g2, 3, none⟩)), (28, .slice laa lsa.length lca), (29, .int .i64 ((lsa.length : Nat) : Int)), (30, .pointer (some ⟨g3, 3, none⟩)), (31, .slice lab lsb.length lcb), (32, .int .i64 ((lsb.length : Nat) : Int)), (33, .bool (!decide (((lsa.length : Nat) : Int) = ((lsb.length : Nat) : Int)))), (34, .bool (!decide (((lsa.length : Nat) : Int) = ((lsb.length : Nat) : Int)))), (35, .bool (!decide (((lsa.length : Nat) : Int) = ((lsb.length : Nat) : Int)))), (36, .pointer (some ⟨g2, 4, none⟩)), (37, .slice taa tsa.length tca), (38, .int .i64 ((tsa.length : Nat) : Int)), (39, .pointer (some ⟨g3, 4, none⟩)), (40, .slice tab tsb.length tcb), (41, .int .i64 ((tsb.length : Nat) : Int)), (42, .bool (!decide (((tsa.length : Nat) : Int) = ((tsb.length : Nat) : Int)))), (43, .bool (!decide (((tsa.length : Nat) : Int) = ((tsb.length : Nat) : Int)))), (44, .int .i64 ((s13 : Nat) : Int)), (45, .pointer (some ⟨g2, 3, none⟩)), (46, .slice laa lsa.length lca), (47, .int .i64 ((lsa.length : Nat) : Int)), (48, .bool (decide (((s13 : Nat) : Int) < ((lsa.length : Nat) : Int))))] e ∧ Ext w13 w' ∧ q ≤ tsa.length ∧ tsa.take q = tsb.take q) (fun q => tsa.length - q) 0
                ⟨⟨rfl, rfl, rfl, rfl, rfl, rfl, rfl, rfl, rfl, rfl, rfl, rfl, rfl, rfl, rfl, rfl, rfl, rfl, rfl, rfl, rfl, rfl, rfl, rfl, rfl, rfl, rfl, rfl, rfl, rfl, rfl, rfl, rfl, rfl, rfl, rfl, rfl, rfl, rfl, rfl, rfl, rfl, rfl, rfl, rfl, rfl, rfl, rfl, rfl, trivial⟩, Mod.refl _ _, Nat.zero_le _, rfl⟩ ?_
              rintro s39 en39 w39 ⟨hs39, x39, hi39_0, hi39_1⟩
              refine W.sub hs39 ?_
              refine W.seqK fun K40 hK40 => ?_
              refine W.seqK fun K41 hK41 => ?_
              refine W.region ?_
              refine Rg.od rfl rfl rfl (OpT.move rfl ?_)
              refine Rg.od rfl rfl rfl (OpT.fieldAddrB (off := 4) Try.underlying26 rfl Try.sizeOf24 rfl rfl ?_)
              refine Rg.od rfl rfl rfl (OpT.loadB Try.isAgg24 rfl (b2.ext ((x3.trans x13).trans x39)) rfl ?_)
              refine Rg.od rfl rfl rfl (OpT.lenS Try.underlying24 rfl ?_)
              refine Rg.od rfl rfl rfl (OpT.lss rfl rfl ?_)
              refine Rg.nil ?_
              refine hK41 _ _ ?_
              rcases Bool.eq_false_or_eq_true (decide (((s39 : Nat) : Int) < ((tsa.length : Nat) : Int))) with hb42 | hb42
              · have hp42 := of_decide_eq_true hb42
                refine W.condTb rfl hb42 ?_
                refine W.skip ?_
                refine hK40 _ _ ?_
                refine W.seqK fun K43 hK43 => ?_
                refine W.block ?_
                refine W.seqK fun K44 hK44 => ?_
                obtain ⟨a52, cs52, ha52, hr52, hw52, hv52⟩ := hTa.at (i := s39) (by first | omega | (unfold lenOk at *; omega))
                obtain ⟨k52, n52, s52, ls52, ts52, la52, lc52, ta52, tc52, et52, rfl, hk52, hn52, hs52, hl52, ht52, hL52, hT52⟩ := hv52.inv
                obtain ⟨a58, cs58, ha58, hr58, hw58, hv58⟩ := hTb.at (i := s39) (by first | omega | (unfold lenOk at *; omega))
                obtain ⟨k58, n58, s58, ls58, ts58, la58, lc58, ta58, tc58, et58, rfl, hk58, hn58, hs58, hl58, ht58, hL58, hT58⟩ := hv58.inv
                refine W.drawE 12 [.ex (.pointer (some ⟨g2, 4, none⟩)), .ex (.slice taa tsa.length tca), .ex (.int .i64 ((s39 : Nat) : Int)), .ex (.pointer (some (a52.add (s39 * 5)))), .ex (.agg ([.int .u8 k52, .int .i64 n52, .string s52, .slice la52 ls52.length lc52, .slice ta52 ts52.length tc52].toArray)), .ex (.pointer (some ⟨g3, 4, none⟩)), .ex (.slice tab tsb.length tcb), .ex (.int .i64 ((s39 : Nat) : Int)), .ex (.pointer (some (a58.add (s39 * 5)))), .ex (.agg ([.int .u8 k58, .int .i64 n58, .string s58, .slice la58 ls58.length lc58, .slice ta58 ts58.length tc58].toArray)), .ex (.bool (sameB (tsa[s39]) (tsb[s39]))), .ex (.bool (!(sameB (tsa[s39]) (tsb[s39]))))] mixed rfl rfl rfl ⟨trivial, trivial, trivial, trivial, trivial, trivial, trivial, trivial, trivial, trivial, trivial, trivial, trivial⟩ ?_ ?_
                · refine ⟨?_, ?_, ?_, ?_, ?_, ?_, ?_, ?_, ?_, ?_, ?_, ?_, trivial⟩
                  · intro w' hx _
                    exact OpT.fieldAddrB (off := 4) Try.underlying26 rfl Try.sizeOf24 rfl rfl VS.ok
                  · intro w' hx _
                    exact OpT.loadB Try.isAgg24 rfl (b2.ext (((x3.trans x13).trans x39).trans hx)) rfl VS.ok
                  · intro w' hx _
                    exact OpT.move rfl VS.ok
                  · intro w' hx _
                    exact OpT.indexAddr Try.underlying24 Try.sizeOf26 rfl rfl ha52 (by first | omega | (unfold lenOk at *; omega)) VS.ok
                  · intro w' hx _
                    exact OpT.loadA (cs := [.int .u8 k52, .int .i64 n52, .string s52, .slice la52 ls52.length lc52, .slice ta52 ts52.length tc52]) Try.isAgg26 Try.sizeOf26 rfl (hw52.ext ((((x2.trans x3).trans x13).trans x39).trans hx)) VS.ok
                  · intro w' hx _
                    exact OpT.fieldAddrB (off := 4) Try.underlying26 rfl Try.sizeOf24 rfl rfl VS.ok
                  · intro w' hx _
                    exact OpT.loadB Try.isAgg24 rfl (b3.ext ((x13.trans x39).trans hx)) rfl VS.ok
                  · intro w' hx _
                    exact OpT.move rfl VS.ok
                  · intro w' hx _
                    exact OpT.indexAddr Try.underlying24 Try.sizeOf26 rfl rfl ha58 (by first | omega | (unfold lenOk at *; omega)) VS.ok
                  · intro w' hx _
                    exact OpT.loadA (cs := [.int .u8 k58, .int .i64 n58, .string s58, .slice la58 ls58.length lc58, .slice ta58 ts58.length tc58]) Try.isAgg26 Try.sizeOf26 rfl (hw58.ext ((((x2.trans x3).trans x13).trans x39).trans hx)) VS.ok
                  · intro w' hx _
                    exact OpT.call Try.call17 (.cons rfl (.cons rfl .nil)) (Runs.mono (ih _ (List.getElem_mem (by omega)) _ _ _ _ _ _ (hv52.ext ((((x2.trans x3).trans x13).trans x39).trans hx)) (hv58.ext ((((x2.trans x3).trans x13).trans x39).trans hx))) fun v w h => VS.okx h.1 h.2)
                  · intro w' hx _
                    exact OpT.notB rfl VS.ok
                · intro w47 x47
                  refine hK44 _ _ ?_
                  rcases Bool.eq_false_or_eq_true (sameB (tsa[s39]) (tsb[s39])) with hb62 | hb62
                  · have hp62 := hb62
                    refine W.condFb rfl (nT hb62) ?_
                    refine W.skip ?_
                    refine hK43 _ _ ?_
                    refine W.region ?_
                    refine Rg.od rfl rfl rfl (OpT.move rfl ?_)
                    refine Rg.od rfl rfl rfl (OpT.add rfl rfl (by first | omega | (unfold lenOk at *; omega)) ?_)
                    refine Rg.od rfl rfl rfl (OpT.assign rfl ?_)
                    refine Rg.nil ?_
                    exact ⟨s39 + 1, ⟨⟨rfl, rfl, rfl, rfl, rfl, rfl, rfl, rfl, rfl, rfl, rfl, rfl, rfl, rfl, rfl, rfl, rfl, rfl, rfl, rfl, rfl, rfl, rfl, rfl, rfl, rfl, rfl, rfl, rfl, rfl, rfl, rfl, rfl, rfl, rfl, rfl, rfl, rfl, rfl, rfl, rfl, rfl, rfl, rfl, rfl, rfl, rfl, rfl, rfl, trivial⟩, (x39.trans x47), by omega, take_eq_succ hi39_1 (by omega) (by omega) ((sameB_iff _ _).1 (hb62))⟩, by omega⟩
                  · have hp62 := hb62
                    refine W.condTb rfl (nF hb62) ?_
                    refine W.seqK fun K63 hK63 => ?_
                    refine W.region ?_
                    refine Rg.od rfl rfl rfl (OpT.assign rfl ?_)
                    refine Rg.nil ?_
                    refine hK63 _ _ ?_
                    refine W.ret ?_
                    refine ⟨_, Res.one rfl rfl, ?_⟩
                    exact ⟨congrArg Value.bool (no_of_iff (sameB_iff _ _) (fun e => by cases e; exact T.same_no hb62 rfl)), ((((x2.trans x3).trans x13).trans x39).trans x47)⟩
              · have hp42 := of_decide_eq_false hb42
                refine W.condFb rfl hb42 ?_
                refine W.exit ?_
                refine hK37 _ _ ?_
                refine W.seqK fun K64 hK64 => ?_
                refine W.region ?_
                refine Rg.od rfl rfl rfl (OpT.assign rfl ?_)
                refine Rg.nil ?_
                refine hK64 _ _ ?_
                refine W.ret ?_
                refine ⟨_, Res.one rfl rfl, ?_⟩
                have e4 : lsa = lsb := take_all hi13_1 (by omega) (by omega)
                have e5 : tsa = tsb := take_all hi39_1 (by omega) (by omega)
                subst e4
                subst e5
                refine ⟨congrArg Value.bool ((sameB_iff _ _).2 ?_).symm, (((x2.trans x3).trans x13).trans x39)⟩
                have hbs := bytes_eq sa sb
                clear hx hy hLa hTa hLb hTb ih
                simp_all
          · have hp10 := of_decide_eq_false hb10
            refine W.condTb rfl (nF hb10) ?_
            refine W.seqK fun K65 hK65 => ?_
            refine W.region ?_
            refine Rg.od rfl rfl rfl (OpT.assign rfl ?_)
            refine Rg.nil ?_
            refine hK65 _ _ ?_
            refine W.ret ?_
            refine ⟨_, Res.one rfl rfl, ?_⟩
            exact ⟨congrArg Value.bool (no_of_iff (sameB_iff _ _) (fun e => by cases e; first | omega | simp_all)), (x2.trans x3)⟩
        · have hp9 := of_decide_eq_false hb9
          refine Rg.gn rfl rfl rfl rfl (nF hb9) ?_
          refine Rg.gn rfl rfl rfl rfl (nF hb9) ?_
          refine Rg.gn rfl rfl rfl rfl (nF hb9) ?_
          refine Rg.gn rfl rfl rfl rfl (nF hb9) ?_
          refine Rg.gn rfl rfl rfl rfl (nF hb9) ?_
          refine Rg.gn rfl rfl rfl rfl (nF hb9) ?_
          refine Rg.gn rfl rfl rfl rfl (nF hb9) ?_
          refine Rg.od rfl rfl rfl (OpT.pickT rfl (nF hb9) rfl ?_)
          refine Rg.nil ?_
          refine hK5 _ _ ?_
          refine W.condTb rfl rfl ?_
          refine W.seqK fun K66 hK66 => ?_
          refine W.region ?_
          refine Rg.od rfl rfl rfl (OpT.assign rfl ?_)
          refine Rg.nil ?_
          refine hK66 _ _ ?_
          refine W.ret ?_
          refine ⟨_, Res.one rfl rfl, ?_⟩
          exact ⟨congrArg Value.bool (no_of_iff (sameB_iff _ _) (fun e => by cases e; first | omega | simp_all)), (x2.trans x3)⟩
      · have hp8 := hb8
        refine Rg.gn rfl rfl rfl rfl (nF hb8) ?_
        refine Rg.gn rfl rfl rfl rfl (nF hb8) ?_
        refine Rg.gn rfl rfl rfl rfl (nF hb8) ?_
        refine Rg.gn rfl rfl rfl rfl (nF hb8) ?_
        refine Rg.gn rfl rfl rfl rfl (nF hb8) ?_
        refine Rg.gn rfl rfl rfl rfl (nF hb8) ?_
        refine Rg.gn rfl rfl rfl rfl (nF hb8) ?_
        refine Rg.od rfl rfl rfl (OpT.pickT rfl (nF hb8) rfl ?_)
        refine Rg.od rfl rfl rfl (OpT.move rfl ?_)
        refine Rg.gn rfl rfl rfl rfl rfl ?_
        refine Rg.gn rfl rfl rfl rfl rfl ?_
        refine Rg.gn rfl rfl rfl rfl rfl ?_
        refine Rg.gn rfl rfl rfl rfl rfl ?_
        refine Rg.gn rfl rfl rfl rfl rfl ?_
        refine Rg.gn rfl rfl rfl rfl rfl ?_
        refine Rg.gn rfl rfl rfl rfl rfl ?_
        refine Rg.od rfl rfl rfl (OpT.pickT rfl rfl rfl ?_)
        refine Rg.nil ?_
        refine hK5 _ _ ?_
        refine W.condTb rfl rfl ?_
        refine W.seqK fun K67 hK67 => ?_
        refine W.region ?_
        refine Rg.od rfl rfl rfl (OpT.assign rfl ?_)
        refine Rg.nil ?_
        refine hK67 _ _ ?_
        refine W.ret ?_
        refine ⟨_, Res.one rfl rfl, ?_⟩
        exact ⟨congrArg Value.bool (no_of_iff (sameB_iff _ _) (fun e => by cases e; first | omega | simp_all)), (x2.trans x3)⟩
    · have hp7 := of_decide_eq_false hb7
      refine Rg.gn rfl rfl rfl rfl (nF hb7) ?_
      refine Rg.gn rfl rfl rfl rfl (nF hb7) ?_
      refine Rg.gn rfl rfl rfl rfl (nF hb7) ?_
      refine Rg.gn rfl rfl rfl rfl (nF hb7) ?_
      refine Rg.gn rfl rfl rfl rfl (nF hb7) ?_
      refine Rg.od rfl rfl rfl (OpT.pickT rfl (nF hb7) rfl ?_)
      refine Rg.od rfl rfl rfl (OpT.move rfl ?_)
      refine Rg.gn rfl rfl rfl rfl rfl ?_
      refine Rg.gn rfl rfl rfl rfl rfl ?_
      refine Rg.gn rfl rfl rfl rfl rfl ?_
      refine Rg.gn rfl rfl rfl rfl rfl ?_
      refine Rg.gn rfl rfl rfl rfl rfl ?_
      refine Rg.gn rfl rfl rfl rfl rfl ?_
      refine Rg.gn rfl rfl rfl rfl rfl ?_
      refine Rg.od rfl rfl rfl (OpT.pickT rfl rfl rfl ?_)
      refine Rg.od rfl rfl rfl (OpT.move rfl ?_)
      refine Rg.gn rfl rfl rfl rfl rfl ?_
      refine Rg.gn rfl rfl rfl rfl rfl ?_
      refine Rg.gn rfl rfl rfl rfl rfl ?_
      refine Rg.gn rfl rfl rfl rfl rfl ?_
      refine Rg.gn rfl rfl rfl rfl rfl ?_
      refine Rg.gn rfl rfl rfl rfl rfl ?_
      refine Rg.gn rfl rfl rfl rfl rfl ?_
      refine Rg.od rfl rfl rfl (OpT.pickT rfl rfl rfl ?_)
      refine Rg.nil ?_
      refine hK5 _ _ ?_
      refine W.condTb rfl rfl ?_
      refine W.seqK fun K68 hK68 => ?_
      refine W.region ?_
      refine Rg.od rfl rfl rfl (OpT.assign rfl ?_)
      refine Rg.nil ?_
      refine hK68 _ _ ?_
      refine W.ret ?_
      refine ⟨_, Res.one rfl rfl, ?_⟩
      exact ⟨congrArg Value.bool (no_of_iff (sameB_iff _ _) (fun e => by cases e; first | omega | simp_all)), (x2.trans x3)⟩
  · have hp6 := of_decide_eq_false hb6
    refine Rg.gn rfl rfl rfl rfl (nF hb6) ?_
    refine Rg.gn rfl rfl rfl rfl (nF hb6) ?_
    refine Rg.gn rfl rfl rfl rfl (nF hb6) ?_
    refine Rg.gn rfl rfl rfl rfl (nF hb6) ?_
    refine Rg.gn rfl rfl rfl rfl (nF hb6) ?_
    refine Rg.od rfl rfl rfl (OpT.pickT rfl (nF hb6) rfl ?_)
    refine Rg.od rfl rfl rfl (OpT.move rfl ?_)
    refine Rg.gn rfl rfl rfl rfl rfl ?_
    refine Rg.gn rfl rfl rfl rfl rfl ?_
    refine Rg.gn rfl rfl rfl rfl rfl ?_
    refine Rg.gn rfl rfl rfl rfl rfl ?_
    refine Rg.gn rfl rfl rfl rfl rfl ?_
    refine Rg.od rfl rfl rfl (OpT.pickT rfl rfl rfl ?_)
    refine Rg.od rfl rfl rfl (OpT.move rfl ?_)
    refine Rg.gn rfl rfl rfl rfl rfl ?_
    refine Rg.gn rfl rfl rfl rfl rfl ?_
    refine Rg.gn rfl rfl rfl rfl rfl ?_
    refine Rg.gn rfl rfl rfl rfl rfl ?_
    refine Rg.gn rfl rfl rfl rfl rfl ?_
    refine Rg.gn rfl rfl rfl rfl rfl ?_
    refine Rg.gn rfl rfl rfl rfl rfl ?_
    refine Rg.od rfl rfl rfl (OpT.pickT rfl rfl rfl ?_)
    refine Rg.od rfl rfl rfl (OpT.move rfl ?_)
    refine Rg.gn rfl rfl rfl rfl rfl ?_
    refine Rg.gn rfl rfl rfl rfl rfl ?_
    refine Rg.gn rfl rfl rfl rfl rfl ?_
    refine Rg.gn rfl rfl rfl rfl rfl ?_
    refine Rg.gn rfl rfl rfl rfl rfl ?_
    refine Rg.gn rfl rfl rfl rfl rfl ?_
    refine Rg.gn rfl rfl rfl rfl rfl ?_
    refine Rg.od rfl rfl rfl (OpT.pickT rfl rfl rfl ?_)
    refine Rg.nil ?_
    refine hK5 _ _ ?_
    refine W.condTb rfl rfl ?_
    refine W.seqK fun K69 hK69 => ?_
    refine W.region ?_
    refine Rg.od rfl rfl rfl (OpT.assign rfl ?_)
    refine Rg.nil ?_
    refine hK69 _ _ ?_
    refine W.ret ?_
    refine ⟨_, Res.one rfl rfl, ?_⟩
    exact ⟨congrArg Value.bool (no_of_iff (sameB_iff _ _) (fun e => by cases e; first | omega | simp_all)), (x2.trans x3)⟩
set_option maxHeartbeats 1000000 in
set_option maxRecDepth 20000 in
theorem rdeep_runs (t : T) : ∀ (cs : List Value) (left deep : Int) (w0 : World) (R : Nat → Prop) (hv : VT w0 R cs t) (hb : (-4611686018427387904 ≤ left ∧ left ≤ 4611686018427387904) ∧ -4611686018427387904 ≤ deep ∧ deep ≤ 4611686018427387904),
    Runs Try.prog 31 #[.agg cs.toArray, .int .i64 left, .int .i64 deep] w0 fun v w' => v = .int .i64 (deepF t left deep) ∧ Ext w0 w' := by
  induction t using T.ind with
  | h k n s ls ts ih =>
  intro cs left deep w0 R hv hb
  obtain ⟨k, n, s, ls, ts, la, lc, ta, tc, e1, rfl, hk, hn, hs, hl, ht, hL, hT⟩ := hv.inv
  cases e1
  refine Runs.of_W (vs := [_, _, _]) Try.func31 rfl rfl ?_
  refine W.seqK fun K1 hK1 => ?_
  refine W.region ?_
  refine Rg.od rfl rfl rfl (OpT.box rfl fun w2 g2 e2 x2 z2 b2 => ?_)
  replace b2 : Box w2 g2 [.int .u8 k, .int .i64 n, .string s, .slice la ls.length lc, .slice ta ts.length tc] := b2
  refine Rg.od rfl rfl rfl (OpT.assign rfl ?_)
  refine Rg.nil ?_
  refine hK1 _ _ ?_
  refine W.seqK fun K3 hK3 => ?_
  refine W.region ?_
  refine Rg.od rfl rfl rfl (OpT.move rfl ?_)
  refine Rg.od rfl rfl rfl (OpT.sub rfl rfl (by first | omega | (unfold lenOk at *; omega)) ?_)
  refine Rg.od rfl rfl rfl (OpT.assign rfl ?_)
  refine Rg.nil ?_
  refine hK3 _ _ ?_
  refine W.seqK fun K4 hK4 => ?_
  refine W.seqK fun K5 hK5 => ?_
  refine W.region ?_
  refine Rg.od rfl rfl rfl (OpT.move rfl ?_)
  refine Rg.od rfl rfl rfl (OpT.lss rfl rfl ?_)
  refine Rg.od rfl rfl rfl (OpT.move rfl ?_)
  rcases Bool.eq_false_or_eq_true (decide ((left - 1) < 0)) with hb6 | hb6
  · have hp6 := of_decide_eq_true hb6
    refine Rg.gn rfl rfl rfl rfl hb6 ?_
    refine Rg.gn rfl rfl rfl rfl hb6 ?_
    refine Rg.od rfl rfl rfl (OpT.pickT rfl hb6 rfl ?_)
    refine Rg.od rfl rfl rfl (OpT.move rfl ?_)
    refine Rg.gn rfl rfl rfl rfl rfl ?_
    refine Rg.gn rfl rfl rfl rfl rfl ?_
    refine Rg.gn rfl rfl rfl rfl rfl ?_
    refine Rg.gn rfl rfl rfl rfl rfl ?_
    refine Rg.od rfl rfl rfl (OpT.pickT rfl rfl rfl ?_)
    refine Rg.nil ?_
    refine hK5 _ _ ?_
    refine W.condTb rfl rfl ?_
    refine W.seqK fun K7 hK7 => ?_
    refine W.region ?_
    refine Rg.od rfl rfl rfl (OpT.assign rfl ?_)
    refine Rg.nil ?_
    refine hK7 _ _ ?_
    refine W.ret ?_
    refine ⟨_, Res.one rfl rfl, ?_⟩
    exact ⟨congrArg (Value.int .i64) (by rw [deepF_mk, if_pos (by omega)]), x2⟩
  · have hp6 := of_decide_eq_false hb6
    refine Rg.gy rfl rfl rfl rfl hb6 (OpT.move rfl ?_)
    refine Rg.gy rfl rfl rfl rfl hb6 (OpT.leq rfl rfl ?_)
    refine Rg.od rfl rfl rfl (OpT.pickF rfl hb6 rfl ?_)
    refine Rg.od rfl rfl rfl (OpT.move rfl ?_)
    rcases Bool.eq_false_or_eq_true (decide (deep ≤ 0)) with hb8 | hb8
    · have hp8 := of_decide_eq_true hb8
      refine Rg.gn rfl rfl rfl rfl hb8 ?_
      refine Rg.gn rfl rfl rfl rfl hb8 ?_
      refine Rg.gn rfl rfl rfl rfl hb8 ?_
      refine Rg.gn rfl rfl rfl rfl hb8 ?_
      refine Rg.od rfl rfl rfl (OpT.pickT rfl hb8 rfl ?_)
      refine Rg.nil ?_
      refine hK5 _ _ ?_
      refine W.condTb rfl rfl ?_
      refine W.seqK fun K9 hK9 => ?_
      refine W.region ?_
      refine Rg.od rfl rfl rfl (OpT.assign rfl ?_)
      refine Rg.nil ?_
      refine hK9 _ _ ?_
      refine W.ret ?_
      refine ⟨_, Res.one rfl rfl, ?_⟩
      exact ⟨congrArg (Value.int .i64) (by rw [deepF_mk, if_pos (by omega)]), x2⟩
    · have hp8 := of_decide_eq_false hb8
      refine Rg.gy rfl rfl rfl rfl hb8 (OpT.fieldAddrB (off := 3) Try.underlying26 rfl Try.sizeOf23 rfl rfl ?_)
      refine Rg.gy rfl rfl rfl rfl hb8 (OpT.loadB Try.isAgg23 rfl b2 rfl ?_)
      refine Rg.gy rfl rfl rfl rfl hb8 (OpT.lenS Try.underlying23 rfl ?_)
      refine Rg.gy rfl rfl rfl rfl hb8 (OpT.gtr rfl rfl ?_)
      refine Rg.od rfl rfl rfl (OpT.pickF rfl hb8 rfl ?_)
      refine Rg.nil ?_
      refine hK5 _ _ ?_
      rcases Bool.eq_false_or_eq_true (decide (20 < ((ls.length : Nat) : Int))) with hb10 | hb10
      · have hp10 := of_decide_eq_true hb10
        refine W.condTb rfl hb10 ?_
        refine W.seqK fun K11 hK11 => ?_
        refine W.region ?_
        refine Rg.od rfl rfl rfl (OpT.assign rfl ?_)
        refine Rg.nil ?_
        refine hK11 _ _ ?_
        refine W.ret ?_
        refine ⟨_, Res.one rfl rfl, ?_⟩
        exact ⟨congrArg (Value.int .i64) (by rw [deepF_mk, if_pos (by omega)]), x2⟩
      · have hp10 := of_decide_eq_false hb10
        refine W.condFb rfl hb10 ?_
        refine W.skip ?_
        refine hK4 _ _ ?_
        refine W.seqK fun K12 hK12 => ?_
        refine W.seqK fun K13 hK13 => ?_
        refine W.region ?_
        refine Rg.od rfl rfl rfl (OpT.assign rfl ?_)
        refine Rg.nil ?_
        refine hK13 _ _ ?_
        refine W.block ?_
        refine W.loop (σ := Nat) (fun q e w' => Sub [(0, .agg ([.int .u8 k, .int .i64 n, .string s, .slice la ls.length lc, .slice ta ts.length tc].toArray)), (1, .int .i64 (deepsF (ts.take q) (left - 1) (deep - 1))), (2, .int .i64 deep), (3, .pointer (some ⟨g2, 0, none⟩)), (6, .int .i64 0), (7, .int .i64 ((q : Nat) : Int)), (8, .int .i64 left), (9, .int .i64 (left - 1)), (10, .int .i64 (left - 1)), (11, .bool (decide ((left - 1) < 0))), (12, .bool (decide ((left - 1) < 0))), (13, .int .i64 deep), (14, .bool (decide (deep ≤ 0))), (15, .bool (decide (deep ≤ 0))), (16, .bool (decide (deep ≤ 0))), (17, .pointer (some ⟨g2, 3, none⟩)), (18, .slice la ls.length lc), (19, .int .i64 ((ls.length : Nat) : Int)), (20, .bool (decide (20 < ((ls.length : Nat) : Int)))), (21, .bool (decide (20 < ((ls.length : Nat) : Int))))] e ∧ Ext w2 w' ∧ q ≤ ts.length ∧ 0 ≤ (deepsF (ts.take q) (left - 1) (deep - 1)) ∧ (deepsF (ts.take q) (left - 1) (deep - 1)) ≤ left - 1) (fun q => ts.length - q) 0
          ⟨⟨rfl, by simp only [List.take_zero, deepsF]; rfl, rfl, rfl, rfl, rfl, rfl, rfl, rfl, rfl, rfl, rfl, rfl, rfl, rfl, rfl, rfl, rfl, rfl, rfl, trivial⟩, Mod.refl _ _, Nat.zero_le _, by simp only [List.take_zero, deepsF]; omega, by simp only [List.take_zero, deepsF]; omega⟩ ?_
        rintro s14 en14 w14 ⟨hs14, x14, hi14_0, hi14_1, hi14_2⟩
        refine W.sub hs14 ?_
        refine W.seqK fun K15 hK15 => ?_
        refine W.seqK fun K16 hK16 => ?_
        refine W.region ?_
        refine Rg.od rfl rfl rfl (OpT.move rfl ?_)
        refine Rg.od rfl rfl rfl (OpT.fieldAddrB (off := 4) Try.underlying26 rfl Try.sizeOf24 rfl rfl ?_)
        refine Rg.od rfl rfl rfl (OpT.loadB Try.isAgg24 rfl (b2.ext x14) rfl ?_)
        refine Rg.od rfl rfl rfl (OpT.lenS Try.underlying24 rfl ?_)
        refine Rg.od rfl rfl rfl (OpT.lss rfl rfl ?_)
        refine Rg.nil ?_
        refine hK16 _ _ ?_
        rcases Bool.eq_false_or_eq_true (decide (((s14 : Nat) : Int) < ((ts.length : Nat) : Int))) with hb17 | hb17
        · have hp17 := of_decide_eq_true hb17
          refine W.condTb rfl hb17 ?_
          refine W.skip ?_
          refine hK15 _ _ ?_
          refine W.seqK fun K18 hK18 => ?_
          refine W.block ?_
          refine W.seqK fun K19 hK19 => ?_
          refine W.region ?_
          refine Rg.od rfl rfl rfl (OpT.fieldAddrB (off := 4) Try.underlying26 rfl Try.sizeOf24 rfl rfl ?_)
          refine Rg.od rfl rfl rfl (OpT.loadB Try.isAgg24 rfl (b2.ext x14) rfl ?_)
          refine Rg.od rfl rfl rfl (OpT.move rfl ?_)
          obtain ⟨a20, cs20, ha20, hr20, hw20, hv20⟩ := hT.at (i := s14) (by first | omega | (unfold lenOk at *; omega))
          obtain ⟨k20, n20, s20, ls20, ts20, la20, lc20, ta20, tc20, et20, rfl, hk20, hn20, hs20, hl20, ht20, hL20, hT20⟩ := hv20.inv
          refine Rg.od rfl rfl rfl (OpT.indexAddr Try.underlying24 Try.sizeOf26 rfl rfl ha20 (by first | omega | (unfold lenOk at *; omega)) ?_)
          refine Rg.od rfl rfl rfl (OpT.loadA (cs := [.int .u8 k20, .int .i64 n20, .string s20, .slice la20 ls20.length lc20, .slice ta20 ts20.length tc20]) Try.isAgg26 Try.sizeOf26 rfl (hw20.ext (x2.trans x14)) ?_)
          refine Rg.od rfl rfl rfl (OpT.move rfl ?_)
          refine Rg.od rfl rfl rfl (OpT.move rfl ?_)
          refine Rg.od rfl rfl rfl (OpT.sub rfl rfl (by first | omega | (unfold lenOk at *; omega)) ?_)
          refine Rg.od rfl rfl rfl (OpT.call Try.call31 (.cons rfl (.cons rfl (.cons rfl .nil))) (Runs.mono (ih _ (List.getElem_mem _) _ _ _ _ _ (hv20.ext (x2.trans x14)) (by omega)) ?_))
          rintro _ w21 ⟨rfl, x21⟩
          refine Rg.od rfl rfl rfl (OpT.assign rfl ?_)
          refine Rg.nil ?_
          refine hK19 _ _ ?_
          refine W.seqK fun K22 hK22 => ?_
          refine W.region ?_
          refine Rg.od rfl rfl rfl (OpT.move rfl ?_)
          refine Rg.od rfl rfl rfl (OpT.lss rfl rfl ?_)
          refine Rg.nil ?_
          refine hK22 _ _ ?_
          rcases Bool.eq_false_or_eq_true (decide ((deepF (ts[s14]) (deepsF (ts.take s14) (left - 1) (deep - 1)) (deep - 1)) < 0)) with hb23 | hb23
          · have hp23 := of_decide_eq_true hb23
            refine W.condTb rfl hb23 ?_
            refine W.seqK fun K24 hK24 => ?_
            refine W.region ?_
            refine Rg.od rfl rfl rfl (OpT.assign rfl ?_)
            refine Rg.nil ?_
            refine hK24 _ _ ?_
            refine W.ret ?_
            refine ⟨_, Res.one rfl rfl, ?_⟩
            have hst := (deepsF_step ts s14 (by omega) (left - 1) (deep - 1) (by omega) (by omega)).2 (by omega)
            exact ⟨congrArg (Value.int .i64) (by rw [deepF_mk, if_neg (by omega), hst]), ((x2.trans x14).trans x21)⟩
          · have hp23 := of_decide_eq_false hb23
            refine W.condFb rfl hb23 ?_
            refine W.skip ?_
            refine hK18 _ _ ?_
            refine W.region ?_
            refine Rg.od rfl rfl rfl (OpT.move rfl ?_)
            refine Rg.od rfl rfl rfl (OpT.add rfl rfl (by first | omega | (unfold lenOk at *; omega)) ?_)
            refine Rg.od rfl rfl rfl (OpT.assign rfl ?_)
            refine Rg.nil ?_
            have hst := (deepsF_step ts s14 (by omega) (left - 1) (deep - 1) (by omega) (by omega)).1 (by omega)
            have hng := deepF_le ts[s14] (deepsF (ts.take s14) (left - 1) (deep - 1)) (deep - 1) (by omega)
            exact ⟨s14 + 1, ⟨⟨rfl, by rw [hst]; rfl, rfl, rfl, rfl, rfl, rfl, rfl, rfl, rfl, rfl, rfl, rfl, rfl, rfl, rfl, rfl, rfl, rfl, rfl, trivial⟩, (x14.trans x21), by omega, by omega, by omega⟩, by omega⟩
        · have hp17 := of_decide_eq_false hb17
          refine W.condFb rfl hb17 ?_
          refine W.exit ?_
          refine hK12 _ _ ?_
          refine W.seqK fun K25 hK25 => ?_
          refine W.region ?_
          refine Rg.od rfl rfl rfl (OpT.move rfl ?_)
          refine Rg.od rfl rfl rfl (OpT.assign rfl ?_)
          refine Rg.nil ?_
          refine hK25 _ _ ?_
          refine W.ret ?_
          refine ⟨_, Res.one rfl rfl, ?_⟩
          have hsz : s14 = ts.length := by omega
          exact ⟨congrArg (Value.int .i64) (by rw [deepF_mk, if_neg (by omega), hsz, List.take_length]), (x2.trans x14)⟩
set_option maxHeartbeats 1000000 in
set_option maxRecDepth 20000 in
theorem rDeep_runs (t : T) (cs : List Value) (w0 : World) (R : Nat → Prop) (hv : VT w0 R cs t) : Runs Try.prog 13 #[.agg cs.toArray] w0 fun v w' => v = .bool (isDeep t) ∧ Ext w0 w' := by
  obtain ⟨k, n, s, ls, ts, la, lc, ta, tc, rfl, rfl, hk, hn, hs, hl, ht, hL, hT⟩ := hv.inv
  refine Runs.of_W (vs := [_]) Try.func13 rfl rfl ?_
  refine W.seqK fun K1 hK1 => ?_
  refine W.region ?_
  refine Rg.od rfl rfl rfl (OpT.box rfl fun w2 g2 e2 x2 z2 b2 => ?_)
  replace b2 : Box w2 g2 [.int .u8 k, .int .i64 n, .string s, .slice la ls.length lc, .slice ta ts.length tc] := b2
  refine Rg.od rfl rfl rfl (OpT.assign rfl ?_)
  refine Rg.nil ?_
  refine hK1 _ _ ?_
  refine W.seqK fun K3 hK3 => ?_
  refine W.region ?_
  refine Rg.od rfl rfl rfl (OpT.loadAB Try.isAgg26 Try.sizeOf26 rfl b2 rfl ?_)
  refine Rg.od rfl rfl rfl (OpT.call Try.call31 (.cons rfl (.cons rfl (.cons rfl .nil))) (Runs.mono (rdeep_runs _ _ _ _ _ _ (hv.ext x2) (by omega)) ?_))
  rintro _ w4 ⟨rfl, x4⟩
  refine Rg.od rfl rfl rfl (OpT.lss rfl rfl ?_)
  refine Rg.od rfl rfl rfl (OpT.assign rfl ?_)
  refine Rg.nil ?_
  refine hK3 _ _ ?_
  refine W.ret ?_
  refine ⟨_, Res.one rfl rfl, ?_⟩
  exact ⟨rfl, (x2.trans x4)⟩
end Go.Proofs.Ytmmhamabkiffaaa
