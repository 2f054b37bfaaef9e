/-
  What functions of the program compute, step by step (printed by a program of this work), part 1.
-/
import Derived.Test.YtnoghkpofpaeeaaGreatForm
namespace Go.Proofs.YtnoghkpofpaeeaaGreat
open Go Go.RowKit Go.Proofs.Bw
set_option linter.unusedVariables false
set_option linter.unusedSimpArgs false

set_option maxHeartbeats 1000000 in
set_option maxRecDepth 20000 in
theorem rkids_runs (k : Int) (w0 : World) : Runs Tryz.prog 79 #[.int .u8 k] w0 fun v w' => v = .int .i64 (kidsI k) ∧ Ext w0 w' := by
  refine Runs.of_W (vs := [_]) Tryz.func79 rfl rfl ?_
  refine W.seqK fun K1 hK1 => ?_
  refine W.region ?_
  refine Rg.od rfl rfl rfl (OpT.assign rfl ?_)
  refine Rg.nil ?_
  refine hK1 _ _ ?_
  refine W.seqK fun K2 hK2 => ?_
  refine W.seqK fun K3 hK3 => ?_
  refine W.region ?_
  refine Rg.od rfl rfl rfl (OpT.move rfl ?_)
  refine Rg.nil ?_
  refine hK3 _ _ ?_
  refine W.block ?_
  refine W.seqK fun K4 hK4 => ?_
  refine W.seqK fun K5 hK5 => ?_
  refine W.region ?_
  refine Rg.od rfl rfl rfl (OpT.eqlI rfl rfl ?_)
  refine Rg.od rfl rfl rfl (OpT.assign rfl ?_)
  refine Rg.nil ?_
  refine hK5 _ _ ?_
  rcases Bool.eq_false_or_eq_true (decide (k = 1)) with hb6 | hb6
  · have hp6 := of_decide_eq_true hb6
    refine W.condTb rfl hb6 ?_
    refine W.skip ?_
    refine hK4 _ _ ?_
    refine W.condTb rfl hb6 ?_
    refine W.seqK fun K7 hK7 => ?_
    refine W.region ?_
    refine Rg.od rfl rfl rfl (OpT.assign rfl ?_)
    refine Rg.nil ?_
    refine hK7 _ _ ?_
    refine W.ret ?_
    refine ⟨_, Res.one rfl rfl, ?_⟩
    exact ⟨congrArg (Value.int .i64) (by unfold kidsI; (repeat' split) <;> omega), (Ext.refl _)⟩
  · have hp6 := of_decide_eq_false hb6
    refine W.condFb rfl hb6 ?_
    refine W.seqK fun K8 hK8 => ?_
    refine W.region ?_
    refine Rg.od rfl rfl rfl (OpT.eqlI rfl rfl ?_)
    refine Rg.od rfl rfl rfl (OpT.assign rfl ?_)
    refine Rg.nil ?_
    refine hK8 _ _ ?_
    rcases Bool.eq_false_or_eq_true (decide (k = 2)) with hb9 | hb9
    · have hp9 := of_decide_eq_true hb9
      refine W.condTb rfl hb9 ?_
      refine W.skip ?_
      refine hK4 _ _ ?_
      refine W.condTb rfl hb9 ?_
      refine W.seqK fun K10 hK10 => ?_
      refine W.region ?_
      refine Rg.od rfl rfl rfl (OpT.assign rfl ?_)
      refine Rg.nil ?_
      refine hK10 _ _ ?_
      refine W.ret ?_
      refine ⟨_, Res.one rfl rfl, ?_⟩
      exact ⟨congrArg (Value.int .i64) (by unfold kidsI; (repeat' split) <;> omega), (Ext.refl _)⟩
    · have hp9 := of_decide_eq_false hb9
      refine W.condFb rfl hb9 ?_
      refine W.region ?_
      refine Rg.od rfl rfl rfl (OpT.eqlI rfl rfl ?_)
      refine Rg.od rfl rfl rfl (OpT.assign rfl ?_)
      refine Rg.nil ?_
      refine hK4 _ _ ?_
      rcases Bool.eq_false_or_eq_true (decide (k = 3)) with hb11 | hb11
      · have hp11 := of_decide_eq_true hb11
        refine W.condTb rfl hb11 ?_
        refine W.seqK fun K12 hK12 => ?_
        refine W.region ?_
        refine Rg.od rfl rfl rfl (OpT.assign rfl ?_)
        refine Rg.nil ?_
        refine hK12 _ _ ?_
        refine W.ret ?_
        refine ⟨_, Res.one rfl rfl, ?_⟩
        exact ⟨congrArg (Value.int .i64) (by unfold kidsI; (repeat' split) <;> omega), (Ext.refl _)⟩
      · have hp11 := of_decide_eq_false hb11
        refine W.condFb rfl hb11 ?_
        refine W.seqK fun K13 hK13 => ?_
        refine W.seqK fun K14 hK14 => ?_
        refine W.region ?_
        refine Rg.od rfl rfl rfl (OpT.eqlI rfl rfl ?_)
        refine Rg.od rfl rfl rfl (OpT.assign rfl ?_)
        refine Rg.nil ?_
        refine hK14 _ _ ?_
        rcases Bool.eq_false_or_eq_true (decide (k = 4)) with hb15 | hb15
        · have hp15 := of_decide_eq_true hb15
          refine W.condTb rfl hb15 ?_
          refine W.skip ?_
          refine hK13 _ _ ?_
          refine W.condTb rfl hb15 ?_
          refine W.seqK fun K16 hK16 => ?_
          refine W.region ?_
          refine Rg.od rfl rfl rfl (OpT.assign rfl ?_)
          refine Rg.nil ?_
          refine hK16 _ _ ?_
          refine W.ret ?_
          refine ⟨_, Res.one rfl rfl, ?_⟩
          exact ⟨congrArg (Value.int .i64) (by unfold kidsI; (repeat' split) <;> omega), (Ext.refl _)⟩
        · have hp15 := of_decide_eq_false hb15
          refine W.condFb rfl hb15 ?_
          refine W.seqK fun K17 hK17 => ?_
          refine W.region ?_
          refine Rg.od rfl rfl rfl (OpT.eqlI rfl rfl ?_)
          refine Rg.od rfl rfl rfl (OpT.assign rfl ?_)
          refine Rg.nil ?_
          refine hK17 _ _ ?_
          rcases Bool.eq_false_or_eq_true (decide (k = 5)) with hb18 | hb18
          · have hp18 := of_decide_eq_true hb18
            refine W.condTb rfl hb18 ?_
            refine W.skip ?_
            refine hK13 _ _ ?_
            refine W.condTb rfl hb18 ?_
            refine W.seqK fun K19 hK19 => ?_
            refine W.region ?_
            refine Rg.od rfl rfl rfl (OpT.assign rfl ?_)
            refine Rg.nil ?_
            refine hK19 _ _ ?_
            refine W.ret ?_
            refine ⟨_, Res.one rfl rfl, ?_⟩
            exact ⟨congrArg (Value.int .i64) (by unfold kidsI; (repeat' split) <;> omega), (Ext.refl _)⟩
          · have hp18 := of_decide_eq_false hb18
            refine W.condFb rfl hb18 ?_
            refine W.region ?_
            refine Rg.od rfl rfl rfl (OpT.eqlI rfl rfl ?_)
            refine Rg.od rfl rfl rfl (OpT.assign rfl ?_)
            refine Rg.nil ?_
            refine hK13 _ _ ?_
            rcases Bool.eq_false_or_eq_true (decide (k = 6)) with hb20 | hb20
            · have hp20 := of_decide_eq_true hb20
              refine W.condTb rfl hb20 ?_
              refine W.seqK fun K21 hK21 => ?_
              refine W.region ?_
              refine Rg.od rfl rfl rfl (OpT.assign rfl ?_)
              refine Rg.nil ?_
              refine hK21 _ _ ?_
              refine W.ret ?_
              refine ⟨_, Res.one rfl rfl, ?_⟩
              exact ⟨congrArg (Value.int .i64) (by unfold kidsI; (repeat' split) <;> omega), (Ext.refl _)⟩
            · have hp20 := of_decide_eq_false hb20
              refine W.condFb rfl hb20 ?_
              refine W.seqK fun K22 hK22 => ?_
              refine W.region ?_
              refine Rg.od rfl rfl rfl (OpT.eqlI rfl rfl ?_)
              refine Rg.od rfl rfl rfl (OpT.assign rfl ?_)
              refine Rg.nil ?_
              refine hK22 _ _ ?_
              rcases Bool.eq_false_or_eq_true (decide (k = 7)) with hb23 | hb23
              · have hp23 := of_decide_eq_true hb23
                refine W.condTb rfl hb23 ?_
                refine W.seqK fun K24 hK24 => ?_
                refine W.region ?_
                refine Rg.od rfl rfl rfl (OpT.assign rfl ?_)
                refine Rg.nil ?_
                refine hK24 _ _ ?_
                refine W.ret ?_
                refine ⟨_, Res.one rfl rfl, ?_⟩
                exact ⟨congrArg (Value.int .i64) (by unfold kidsI; (repeat' split) <;> omega), (Ext.refl _)⟩
              · have hp23 := of_decide_eq_false hb23
                refine W.condFb rfl hb23 ?_
                refine W.seqK fun K25 hK25 => ?_
                refine W.region ?_
                refine Rg.od rfl rfl rfl (OpT.eqlI rfl rfl ?_)
                refine Rg.od rfl rfl rfl (OpT.assign rfl ?_)
                refine Rg.nil ?_
                refine hK25 _ _ ?_
                rcases Bool.eq_false_or_eq_true (decide (k = 8)) with hb26 | hb26
                · have hp26 := of_decide_eq_true hb26
                  refine W.condTb rfl hb26 ?_
                  refine W.seqK fun K27 hK27 => ?_
                  refine W.region ?_
                  refine Rg.od rfl rfl rfl (OpT.assign rfl ?_)
                  refine Rg.nil ?_
                  refine hK27 _ _ ?_
                  refine W.ret ?_
                  refine ⟨_, Res.one rfl rfl, ?_⟩
                  exact ⟨congrArg (Value.int .i64) (by unfold kidsI; (repeat' split) <;> omega), (Ext.refl _)⟩
                · have hp26 := of_decide_eq_false hb26
                  refine W.condFb rfl hb26 ?_
                  refine W.skip ?_
                  refine hK2 _ _ ?_
                  refine W.seqK fun K28 hK28 => ?_
                  refine W.region ?_
                  refine Rg.od rfl rfl rfl (OpT.assign rfl ?_)
                  refine Rg.nil ?_
                  refine hK28 _ _ ?_
                  refine W.ret ?_
                  refine ⟨_, Res.one rfl rfl, ?_⟩
                  exact ⟨congrArg (Value.int .i64) (by unfold kidsI; (repeat' split) <;> omega), (Ext.refl _)⟩
set_option maxHeartbeats 1000000 in
set_option maxRecDepth 20000 in
theorem kids_runs (k : Int) (w0 : World) : Runs Tryz.prog 91 #[.int .u8 k] w0 fun v w' => v = .tuple #[.int .i64 (if kidsI k < 0 then 0 else kidsI k), .bool (decide (0 ≤ kidsI k))] ∧ Ext w0 w' := by
  refine Runs.of_W (vs := [_]) Tryz.func91 rfl rfl ?_
  refine W.seqK fun K1 hK1 => ?_
  refine W.region ?_
  refine Rg.od rfl rfl rfl (OpT.assign rfl ?_)
  refine Rg.od rfl rfl rfl (OpT.assign rfl ?_)
  refine Rg.nil ?_
  refine hK1 _ _ ?_
  refine W.seqK fun K2 hK2 => ?_
  refine W.seqK fun K3 hK3 => ?_
  refine W.region ?_
  refine Rg.od rfl rfl rfl (OpT.move rfl ?_)
  refine Rg.nil ?_
  refine hK3 _ _ ?_
  refine W.block ?_
  refine W.seqK fun K4 hK4 => ?_
  refine W.block ?_
  refine W.seqK fun K5 hK5 => ?_
  refine W.block ?_
  refine W.seqK fun K6 hK6 => ?_
  refine W.block ?_
  refine W.seqK fun K7 hK7 => ?_
  refine W.block ?_
  refine W.seqK fun K8 hK8 => ?_
  refine W.seqK fun K9 hK9 => ?_
  refine W.seqK fun K10 hK10 => ?_
  refine W.region ?_
  refine Rg.od rfl rfl rfl (OpT.eqlI rfl rfl ?_)
  refine Rg.od rfl rfl rfl (OpT.assign rfl ?_)
  refine Rg.nil ?_
  refine hK10 _ _ ?_
  rcases Bool.eq_false_or_eq_true (decide (k = 7)) with hb11 | hb11
  · have hp11 := of_decide_eq_true hb11
    refine W.condTb rfl hb11 ?_
    refine W.exit ?_
    refine hK7 _ _ ?_
    refine W.region ?_
    refine Rg.od rfl rfl rfl (OpT.move rfl ?_)
    refine Rg.od rfl rfl rfl (OpT.add rfl rfl (by omega) ?_)
    refine Rg.od rfl rfl rfl (OpT.assign rfl ?_)
    refine Rg.nil ?_
    refine hK6 _ _ ?_
    refine W.region ?_
    refine Rg.od rfl rfl rfl (OpT.move rfl ?_)
    refine Rg.od rfl rfl rfl (OpT.add rfl rfl (by omega) ?_)
    refine Rg.od rfl rfl rfl (OpT.assign rfl ?_)
    refine Rg.nil ?_
    refine hK5 _ _ ?_
    refine W.region ?_
    refine Rg.od rfl rfl rfl (OpT.move rfl ?_)
    refine Rg.od rfl rfl rfl (OpT.add rfl rfl (by omega) ?_)
    refine Rg.od rfl rfl rfl (OpT.assign rfl ?_)
    refine Rg.nil ?_
    refine hK4 _ _ ?_
    refine W.seqK fun K12 hK12 => ?_
    refine W.seqK fun K13 hK13 => ?_
    refine W.region ?_
    refine Rg.od rfl rfl rfl (OpT.move rfl ?_)
    refine Rg.od rfl rfl rfl (OpT.assign rfl ?_)
    refine Rg.od rfl rfl rfl (OpT.assign rfl ?_)
    refine Rg.nil ?_
    refine hK13 _ _ ?_
    refine W.ret ?_
    refine ⟨_, Res.two rfl rfl rfl, ?_⟩
    refine ⟨congrArg Value.tuple (congrArg List.toArray ?_), (Ext.refl _)⟩
    simp only [List.cons.injEq, Value.int.injEq, Value.bool.injEq, true_and, and_true]
    unfold kidsI at *
    (repeat' split) <;> (first | omega | simp_all | (constructor <;> first | omega | (simp; omega)))
  · have hp11 := of_decide_eq_false hb11
    refine W.condFb rfl hb11 ?_
    refine W.skip ?_
    refine hK9 _ _ ?_
    refine W.seqK fun K14 hK14 => ?_
    refine W.seqK fun K15 hK15 => ?_
    refine W.seqK fun K16 hK16 => ?_
    refine W.region ?_
    refine Rg.od rfl rfl rfl (OpT.eqlI rfl rfl ?_)
    refine Rg.od rfl rfl rfl (OpT.assign rfl ?_)
    refine Rg.nil ?_
    refine hK16 _ _ ?_
    rcases Bool.eq_false_or_eq_true (decide (k = 4)) with hb17 | hb17
    · have hp17 := of_decide_eq_true hb17
      refine W.condTb rfl hb17 ?_
      refine W.skip ?_
      refine hK15 _ _ ?_
      refine W.condTb rfl hb17 ?_
      refine W.exit ?_
      refine hK6 _ _ ?_
      refine W.region ?_
      refine Rg.od rfl rfl rfl (OpT.move rfl ?_)
      refine Rg.od rfl rfl rfl (OpT.add rfl rfl (by omega) ?_)
      refine Rg.od rfl rfl rfl (OpT.assign rfl ?_)
      refine Rg.nil ?_
      refine hK5 _ _ ?_
      refine W.region ?_
      refine Rg.od rfl rfl rfl (OpT.move rfl ?_)
      refine Rg.od rfl rfl rfl (OpT.add rfl rfl (by omega) ?_)
      refine Rg.od rfl rfl rfl (OpT.assign rfl ?_)
      refine Rg.nil ?_
      refine hK4 _ _ ?_
      refine W.seqK fun K18 hK18 => ?_
      refine W.seqK fun K19 hK19 => ?_
      refine W.region ?_
      refine Rg.od rfl rfl rfl (OpT.move rfl ?_)
      refine Rg.od rfl rfl rfl (OpT.assign rfl ?_)
      refine Rg.od rfl rfl rfl (OpT.assign rfl ?_)
      refine Rg.nil ?_
      refine hK19 _ _ ?_
      refine W.ret ?_
      refine ⟨_, Res.two rfl rfl rfl, ?_⟩
      refine ⟨congrArg Value.tuple (congrArg List.toArray ?_), (Ext.refl _)⟩
      simp only [List.cons.injEq, Value.int.injEq, Value.bool.injEq, true_and, and_true]
      unfold kidsI at *
      (repeat' split) <;> (first | omega | simp_all | (constructor <;> first | omega | (simp; omega)))
    · have hp17 := of_decide_eq_false hb17
      refine W.condFb rfl hb17 ?_
      refine W.seqK fun K20 hK20 => ?_
      refine W.region ?_
      refine Rg.od rfl rfl rfl (OpT.eqlI rfl rfl ?_)
      refine Rg.od rfl rfl rfl (OpT.assign rfl ?_)
      refine Rg.nil ?_
      refine hK20 _ _ ?_
      rcases Bool.eq_false_or_eq_true (decide (k = 5)) with hb21 | hb21
      · have hp21 := of_decide_eq_true hb21
        refine W.condTb rfl hb21 ?_
        refine W.skip ?_
        refine hK15 _ _ ?_
        refine W.condTb rfl hb21 ?_
        refine W.exit ?_
        refine hK6 _ _ ?_
        refine W.region ?_
        refine Rg.od rfl rfl rfl (OpT.move rfl ?_)
        refine Rg.od rfl rfl rfl (OpT.add rfl rfl (by omega) ?_)
        refine Rg.od rfl rfl rfl (OpT.assign rfl ?_)
        refine Rg.nil ?_
        refine hK5 _ _ ?_
        refine W.region ?_
        refine Rg.od rfl rfl rfl (OpT.move rfl ?_)
        refine Rg.od rfl rfl rfl (OpT.add rfl rfl (by omega) ?_)
        refine Rg.od rfl rfl rfl (OpT.assign rfl ?_)
        refine Rg.nil ?_
        refine hK4 _ _ ?_
        refine W.seqK fun K22 hK22 => ?_
        refine W.seqK fun K23 hK23 => ?_
        refine W.region ?_
        refine Rg.od rfl rfl rfl (OpT.move rfl ?_)
        refine Rg.od rfl rfl rfl (OpT.assign rfl ?_)
        refine Rg.od rfl rfl rfl (OpT.assign rfl ?_)
        refine Rg.nil ?_
        refine hK23 _ _ ?_
        refine W.ret ?_
        refine ⟨_, Res.two rfl rfl rfl, ?_⟩
        refine ⟨congrArg Value.tuple (congrArg List.toArray ?_), (Ext.refl _)⟩
        simp only [List.cons.injEq, Value.int.injEq, Value.bool.injEq, true_and, and_true]
        unfold kidsI at *
        (repeat' split) <;> (first | omega | simp_all | (constructor <;> first | omega | (simp; omega)))
      · have hp21 := of_decide_eq_false hb21
        refine W.condFb rfl hb21 ?_
        refine W.region ?_
        refine Rg.od rfl rfl rfl (OpT.eqlI rfl rfl ?_)
        refine Rg.od rfl rfl rfl (OpT.assign rfl ?_)
        refine Rg.nil ?_
        refine hK15 _ _ ?_
        rcases Bool.eq_false_or_eq_true (decide (k = 6)) with hb24 | hb24
        · have hp24 := of_decide_eq_true hb24
          refine W.condTb rfl hb24 ?_
          refine W.exit ?_
          refine hK6 _ _ ?_
          refine W.region ?_
          refine Rg.od rfl rfl rfl (OpT.move rfl ?_)
          refine Rg.od rfl rfl rfl (OpT.add rfl rfl (by omega) ?_)
          refine Rg.od rfl rfl rfl (OpT.assign rfl ?_)
          refine Rg.nil ?_
          refine hK5 _ _ ?_
          refine W.region ?_
          refine Rg.od rfl rfl rfl (OpT.move rfl ?_)
          refine Rg.od rfl rfl rfl (OpT.add rfl rfl (by omega) ?_)
          refine Rg.od rfl rfl rfl (OpT.assign rfl ?_)
          refine Rg.nil ?_
          refine hK4 _ _ ?_
          refine W.seqK fun K25 hK25 => ?_
          refine W.seqK fun K26 hK26 => ?_
          refine W.region ?_
          refine Rg.od rfl rfl rfl (OpT.move rfl ?_)
          refine Rg.od rfl rfl rfl (OpT.assign rfl ?_)
          refine Rg.od rfl rfl rfl (OpT.assign rfl ?_)
          refine Rg.nil ?_
          refine hK26 _ _ ?_
          refine W.ret ?_
          refine ⟨_, Res.two rfl rfl rfl, ?_⟩
          refine ⟨congrArg Value.tuple (congrArg List.toArray ?_), (Ext.refl _)⟩
          simp only [List.cons.injEq, Value.int.injEq, Value.bool.injEq, true_and, and_true]
          unfold kidsI at *
          (repeat' split) <;> (first | omega | simp_all | (constructor <;> first | omega | (simp; omega)))
        · have hp24 := of_decide_eq_false hb24
          refine W.condFb rfl hb24 ?_
          refine W.skip ?_
          refine hK14 _ _ ?_
          refine W.seqK fun K27 hK27 => ?_
          refine W.seqK fun K28 hK28 => ?_
          refine W.region ?_
          refine Rg.od rfl rfl rfl (OpT.eqlI rfl rfl ?_)
          refine Rg.od rfl rfl rfl (OpT.assign rfl ?_)
          refine Rg.nil ?_
          refine hK28 _ _ ?_
          rcases Bool.eq_false_or_eq_true (decide (k = 8)) with hb29 | hb29
          · have hp29 := of_decide_eq_true hb29
            refine W.condTb rfl hb29 ?_
            refine W.exit ?_
            refine hK5 _ _ ?_
            refine W.region ?_
            refine Rg.od rfl rfl rfl (OpT.move rfl ?_)
            refine Rg.od rfl rfl rfl (OpT.add rfl rfl (by omega) ?_)
            refine Rg.od rfl rfl rfl (OpT.assign rfl ?_)
            refine Rg.nil ?_
            refine hK4 _ _ ?_
            refine W.seqK fun K30 hK30 => ?_
            refine W.seqK fun K31 hK31 => ?_
            refine W.region ?_
            refine Rg.od rfl rfl rfl (OpT.move rfl ?_)
            refine Rg.od rfl rfl rfl (OpT.assign rfl ?_)
            refine Rg.od rfl rfl rfl (OpT.assign rfl ?_)
            refine Rg.nil ?_
            refine hK31 _ _ ?_
            refine W.ret ?_
            refine ⟨_, Res.two rfl rfl rfl, ?_⟩
            refine ⟨congrArg Value.tuple (congrArg List.toArray ?_), (Ext.refl _)⟩
            simp only [List.cons.injEq, Value.int.injEq, Value.bool.injEq, true_and, and_true]
            unfold kidsI at *
            (repeat' split) <;> (first | omega | simp_all | (constructor <;> first | omega | (simp; omega)))
          · have hp29 := of_decide_eq_false hb29
            refine W.condFb rfl hb29 ?_
            refine W.skip ?_
            refine hK27 _ _ ?_
            refine W.seqK fun K32 hK32 => ?_
            refine W.seqK fun K33 hK33 => ?_
            refine W.region ?_
            refine Rg.od rfl rfl rfl (OpT.eqlI rfl rfl ?_)
            refine Rg.od rfl rfl rfl (OpT.assign rfl ?_)
            refine Rg.nil ?_
            refine hK33 _ _ ?_
            rcases Bool.eq_false_or_eq_true (decide (k = 1)) with hb34 | hb34
            · have hp34 := of_decide_eq_true hb34
              refine W.condTb rfl hb34 ?_
              refine W.skip ?_
              refine hK32 _ _ ?_
              refine W.condTb rfl hb34 ?_
              refine W.exit ?_
              refine hK4 _ _ ?_
              refine W.seqK fun K35 hK35 => ?_
              refine W.seqK fun K36 hK36 => ?_
              refine W.region ?_
              refine Rg.od rfl rfl rfl (OpT.move rfl ?_)
              refine Rg.od rfl rfl rfl (OpT.assign rfl ?_)
              refine Rg.od rfl rfl rfl (OpT.assign rfl ?_)
              refine Rg.nil ?_
              refine hK36 _ _ ?_
              refine W.ret ?_
              refine ⟨_, Res.two rfl rfl rfl, ?_⟩
              refine ⟨congrArg Value.tuple (congrArg List.toArray ?_), (Ext.refl _)⟩
              simp only [List.cons.injEq, Value.int.injEq, Value.bool.injEq, true_and, and_true]
              unfold kidsI at *
              (repeat' split) <;> (first | omega | simp_all | (constructor <;> first | omega | (simp; omega)))
            · have hp34 := of_decide_eq_false hb34
              refine W.condFb rfl hb34 ?_
              refine W.seqK fun K37 hK37 => ?_
              refine W.region ?_
              refine Rg.od rfl rfl rfl (OpT.eqlI rfl rfl ?_)
              refine Rg.od rfl rfl rfl (OpT.assign rfl ?_)
              refine Rg.nil ?_
              refine hK37 _ _ ?_
              rcases Bool.eq_false_or_eq_true (decide (k = 2)) with hb38 | hb38
              · have hp38 := of_decide_eq_true hb38
                refine W.condTb rfl hb38 ?_
                refine W.skip ?_
                refine hK32 _ _ ?_
                refine W.condTb rfl hb38 ?_
                refine W.exit ?_
                refine hK4 _ _ ?_
                refine W.seqK fun K39 hK39 => ?_
                refine W.seqK fun K40 hK40 => ?_
                refine W.region ?_
                refine Rg.od rfl rfl rfl (OpT.move rfl ?_)
                refine Rg.od rfl rfl rfl (OpT.assign rfl ?_)
                refine Rg.od rfl rfl rfl (OpT.assign rfl ?_)
                refine Rg.nil ?_
                refine hK40 _ _ ?_
                refine W.ret ?_
                refine ⟨_, Res.two rfl rfl rfl, ?_⟩
                refine ⟨congrArg Value.tuple (congrArg List.toArray ?_), (Ext.refl _)⟩
                simp only [List.cons.injEq, Value.int.injEq, Value.bool.injEq, true_and, and_true]
                unfold kidsI at *
                (repeat' split) <;> (first | omega | simp_all | (constructor <;> first | omega | (simp; omega)))
              · have hp38 := of_decide_eq_false hb38
                refine W.condFb rfl hb38 ?_
                refine W.region ?_
                refine Rg.od rfl rfl rfl (OpT.eqlI rfl rfl ?_)
                refine Rg.od rfl rfl rfl (OpT.assign rfl ?_)
                refine Rg.nil ?_
                refine hK32 _ _ ?_
                rcases Bool.eq_false_or_eq_true (decide (k = 3)) with hb41 | hb41
                · have hp41 := of_decide_eq_true hb41
                  refine W.condTb rfl hb41 ?_
                  refine W.exit ?_
                  refine hK4 _ _ ?_
                  refine W.seqK fun K42 hK42 => ?_
                  refine W.seqK fun K43 hK43 => ?_
                  refine W.region ?_
                  refine Rg.od rfl rfl rfl (OpT.move rfl ?_)
                  refine Rg.od rfl rfl rfl (OpT.assign rfl ?_)
                  refine Rg.od rfl rfl rfl (OpT.assign rfl ?_)
                  refine Rg.nil ?_
                  refine hK43 _ _ ?_
                  refine W.ret ?_
                  refine ⟨_, Res.two rfl rfl rfl, ?_⟩
                  refine ⟨congrArg Value.tuple (congrArg List.toArray ?_), (Ext.refl _)⟩
                  simp only [List.cons.injEq, Value.int.injEq, Value.bool.injEq, true_and, and_true]
                  unfold kidsI at *
                  (repeat' split) <;> (first | omega | simp_all | (constructor <;> first | omega | (simp; omega)))
                · have hp41 := of_decide_eq_false hb41
                  refine W.condFb rfl hb41 ?_
                  refine W.skip ?_
                  refine hK8 _ _ ?_
                  refine W.exit ?_
                  refine hK2 _ _ ?_
                  refine W.seqK fun K44 hK44 => ?_
                  refine W.region ?_
                  refine Rg.od rfl rfl rfl (OpT.assign rfl ?_)
                  refine Rg.od rfl rfl rfl (OpT.assign rfl ?_)
                  refine Rg.nil ?_
                  refine hK44 _ _ ?_
                  refine W.ret ?_
                  refine ⟨_, Res.two rfl rfl rfl, ?_⟩
                  refine ⟨congrArg Value.tuple (congrArg List.toArray ?_), (Ext.refl _)⟩
                  simp only [List.cons.injEq, Value.int.injEq, Value.bool.injEq, true_and, and_true]
                  unfold kidsI at *
                  (repeat' split) <;> (first | omega | simp_all | (constructor <;> first | omega | (simp; omega)))
set_option maxHeartbeats 1000000 in
set_option maxRecDepth 20000 in
theorem rname_runs (s : ByteArray) (hsz : s.size ≤ 9223372036854775807) (w0 : World) : Runs Tryz.prog 53 #[.string s] w0 fun v w' => v = .bool (nameB s) ∧ Ext w0 w' := by
  refine Runs.of_W (vs := [_]) Tryz.func53 rfl rfl ?_
  refine W.seqK fun K1 hK1 => ?_
  refine W.region ?_
  refine Rg.od rfl rfl rfl (OpT.assign rfl ?_)
  refine Rg.nil ?_
  refine hK1 _ _ ?_
  refine W.seqK fun K2 hK2 => ?_
  refine W.seqK fun K3 hK3 => ?_
  refine W.region ?_
  refine Rg.od rfl rfl rfl (OpT.assign rfl ?_)
  refine Rg.nil ?_
  refine hK3 _ _ ?_
  refine W.block ?_
  refine W.loop (σ := Nat) (fun q e w' => Sub [(0, .string s), (2, .bool false), (3, .int .i64 ((q : Nat) : Int))] e ∧ Ext w0 w' ∧ q ≤ s.size ∧ nameTo s q = true) (fun q => s.size - q) 0
    ⟨⟨rfl, rfl, rfl, trivial⟩, Mod.refl _ _, Nat.zero_le _, rfl⟩ ?_
  rintro s4 en4 w4 ⟨hs4, x4, hi4_0, hi4_1⟩
  refine W.sub hs4 ?_
  refine W.seqK fun K5 hK5 => ?_
  refine W.seqK fun K6 hK6 => ?_
  refine W.region ?_
  refine Rg.od rfl rfl rfl (OpT.move rfl ?_)
  refine Rg.od rfl rfl rfl (OpT.move rfl ?_)
  refine Rg.od rfl rfl rfl (OpT.lenStr Tryz.underlying9 rfl ?_)
  refine Rg.od rfl rfl rfl (OpT.lss rfl rfl ?_)
  refine Rg.nil ?_
  refine hK6 _ _ ?_
  rcases Bool.eq_false_or_eq_true (decide (((s4 : Nat) : Int) < ((s.size : Nat) : Int))) with hb7 | hb7
  · have hp7 := of_decide_eq_true hb7
    refine W.condTb rfl hb7 ?_
    refine W.skip ?_
    refine hK5 _ _ ?_
    refine W.seqK fun K8 hK8 => ?_
    refine W.block ?_
    refine W.seqK fun K9 hK9 => ?_
    refine W.region ?_
    refine Rg.od rfl rfl rfl (OpT.move rfl ?_)
    refine Rg.od rfl rfl rfl (OpT.move rfl ?_)
    refine Rg.od rfl rfl rfl (OpT.indexStr Tryz.underlying9 rfl rfl (by omega) (getB (i := s4) (by omega)) ?_)
    refine Rg.od rfl rfl rfl (OpT.assign rfl ?_)
    refine Rg.nil ?_
    refine hK9 _ _ ?_
    refine W.seqM (fun e w' => Sub [(0, .string s), (2, .bool false), (3, .int .i64 ((s4 : Nat) : Int)), (6, .int .i64 ((s4 : Nat) : Int)), (7, .string s), (8, .int .i64 ((s.size : Nat) : Int)), (9, .bool (decide (((s4 : Nat) : Int) < ((s.size : Nat) : Int)))), (12, .string s), (13, .int .i64 ((s4 : Nat) : Int)), (14, .int .u8 ((s[s4]!.toNat : Nat) : Int)), (5, .bool (letterN s[s4]!.toNat))] e ∧ Ext w4 w') ?_ ?_
    · refine W.region ?_
      refine Rg.od rfl rfl rfl (OpT.move rfl ?_)
      refine Rg.od rfl rfl rfl (OpT.geq rfl rfl ?_)
      refine Rg.od rfl rfl rfl (OpT.move rfl ?_)
      rcases Bool.eq_false_or_eq_true (decide (97 ≤ ((s[s4]!.toNat : Nat) : Int))) with hb11 | hb11
      · have hp11 := of_decide_eq_true hb11
        refine Rg.gy rfl rfl rfl rfl hb11 (OpT.move rfl ?_)
        refine Rg.gy rfl rfl rfl rfl hb11 (OpT.leq rfl rfl ?_)
        refine Rg.od rfl rfl rfl (OpT.pickT rfl hb11 rfl ?_)
        refine Rg.od rfl rfl rfl (OpT.move rfl ?_)
        rcases Bool.eq_false_or_eq_true (decide (((s[s4]!.toNat : Nat) : Int) ≤ 122)) with hb12 | hb12
        · have hp12 := of_decide_eq_true hb12
          refine Rg.gn rfl rfl rfl rfl hb12 ?_
          refine Rg.gn rfl rfl rfl rfl hb12 ?_
          refine Rg.gn rfl rfl rfl rfl hb12 ?_
          refine Rg.gu rfl rfl rfl rfl ?_
          refine Rg.gu rfl rfl rfl rfl ?_
          refine Rg.gn rfl rfl rfl rfl hb12 ?_
          refine Rg.od rfl rfl rfl (OpT.pickT rfl hb12 rfl ?_)
          refine Rg.od rfl rfl rfl (OpT.move rfl ?_)
          refine Rg.gn rfl rfl rfl rfl rfl ?_
          refine Rg.gn rfl rfl rfl rfl rfl ?_
          refine Rg.gn rfl rfl rfl rfl rfl ?_
          refine Rg.gu rfl rfl rfl rfl ?_
          refine Rg.gu rfl rfl rfl rfl ?_
          refine Rg.gn rfl rfl rfl rfl rfl ?_
          refine Rg.od rfl rfl rfl (OpT.pickT rfl rfl rfl ?_)
          refine Rg.od rfl rfl rfl (OpT.move rfl ?_)
          refine Rg.gn rfl rfl rfl rfl rfl ?_
          refine Rg.gn rfl rfl rfl rfl rfl ?_
          refine Rg.od rfl rfl rfl (OpT.pickT rfl rfl rfl ?_)
          refine Rg.od rfl rfl rfl (OpT.move rfl ?_)
          refine Rg.gn rfl rfl rfl rfl rfl ?_
          refine Rg.gn rfl rfl rfl rfl rfl ?_
          refine Rg.od rfl rfl rfl (OpT.pickT rfl rfl rfl ?_)
          refine Rg.od rfl rfl rfl (OpT.move rfl ?_)
          refine Rg.gn rfl rfl rfl rfl rfl ?_
          refine Rg.gn rfl rfl rfl rfl rfl ?_
          refine Rg.od rfl rfl rfl (OpT.pickT rfl rfl rfl ?_)
          refine Rg.od rfl rfl rfl (OpT.assign rfl ?_)
          refine Rg.nil ?_
          exact ⟨⟨rfl, rfl, rfl, rfl, rfl, rfl, rfl, rfl, rfl, rfl, boolSlot (by first | exact letterN_true (by omega) | exact letterN_false (by omega) | exact letterN_last (by omega)) rfl, trivial⟩, Ext.refl _⟩
        · have hp12 := of_decide_eq_false hb12
          refine Rg.gy rfl rfl rfl rfl hb12 (OpT.move rfl ?_)
          refine Rg.gy rfl rfl rfl rfl hb12 (OpT.geq rfl rfl ?_)
          refine Rg.gy rfl rfl rfl rfl hb12 (OpT.move rfl ?_)
          rcases Bool.eq_false_or_eq_true (decide (65 ≤ ((s[s4]!.toNat : Nat) : Int))) with hb13 | hb13
          · have hp13 := of_decide_eq_true hb13
            refine Rg.gy rfl rfl rfl rfl hb13 (OpT.move rfl ?_)
            refine Rg.gy rfl rfl rfl rfl hb13 (OpT.leq rfl rfl ?_)
            refine Rg.gy rfl rfl rfl rfl hb12 (OpT.pickT rfl hb13 rfl ?_)
            refine Rg.od rfl rfl rfl (OpT.pickF rfl hb12 rfl ?_)
            refine Rg.od rfl rfl rfl (OpT.move rfl ?_)
            rcases Bool.eq_false_or_eq_true (decide (((s[s4]!.toNat : Nat) : Int) ≤ 90)) with hb14 | hb14
            · have hp14 := of_decide_eq_true hb14
              refine Rg.gn rfl rfl rfl rfl hb14 ?_
              refine Rg.gn rfl rfl rfl rfl hb14 ?_
              refine Rg.gn rfl rfl rfl rfl hb14 ?_
              refine Rg.gu rfl rfl rfl rfl ?_
              refine Rg.gu rfl rfl rfl rfl ?_
              refine Rg.gn rfl rfl rfl rfl hb14 ?_
              refine Rg.od rfl rfl rfl (OpT.pickT rfl hb14 rfl ?_)
              refine Rg.od rfl rfl rfl (OpT.move rfl ?_)
              refine Rg.gn rfl rfl rfl rfl rfl ?_
              refine Rg.gn rfl rfl rfl rfl rfl ?_
              refine Rg.od rfl rfl rfl (OpT.pickT rfl rfl rfl ?_)
              refine Rg.od rfl rfl rfl (OpT.move rfl ?_)
              refine Rg.gn rfl rfl rfl rfl rfl ?_
              refine Rg.gn rfl rfl rfl rfl rfl ?_
              refine Rg.od rfl rfl rfl (OpT.pickT rfl rfl rfl ?_)
              refine Rg.od rfl rfl rfl (OpT.move rfl ?_)
              refine Rg.gn rfl rfl rfl rfl rfl ?_
              refine Rg.gn rfl rfl rfl rfl rfl ?_
              refine Rg.od rfl rfl rfl (OpT.pickT rfl rfl rfl ?_)
              refine Rg.od rfl rfl rfl (OpT.assign rfl ?_)
              refine Rg.nil ?_
              exact ⟨⟨rfl, rfl, rfl, rfl, rfl, rfl, rfl, rfl, rfl, rfl, boolSlot (by first | exact letterN_true (by omega) | exact letterN_false (by omega) | exact letterN_last (by omega)) rfl, trivial⟩, Ext.refl _⟩
            · have hp14 := of_decide_eq_false hb14
              refine Rg.gy rfl rfl rfl rfl hb14 (OpT.move rfl ?_)
              refine Rg.gy rfl rfl rfl rfl hb14 (OpT.geq rfl rfl ?_)
              refine Rg.gy rfl rfl rfl rfl hb14 (OpT.move rfl ?_)
              rcases Bool.eq_false_or_eq_true (decide (48 ≤ ((s[s4]!.toNat : Nat) : Int))) with hb15 | hb15
              · have hp15 := of_decide_eq_true hb15
                refine Rg.gy rfl rfl rfl rfl hb15 (OpT.move rfl ?_)
                refine Rg.gy rfl rfl rfl rfl hb15 (OpT.leq rfl rfl ?_)
                refine Rg.gy rfl rfl rfl rfl hb14 (OpT.pickT rfl hb15 rfl ?_)
                refine Rg.od rfl rfl rfl (OpT.pickF rfl hb14 rfl ?_)
                refine Rg.od rfl rfl rfl (OpT.move rfl ?_)
                rcases Bool.eq_false_or_eq_true (decide (((s[s4]!.toNat : Nat) : Int) ≤ 57)) with hb16 | hb16
                · have hp16 := of_decide_eq_true hb16
                  refine Rg.gn rfl rfl rfl rfl hb16 ?_
                  refine Rg.gn rfl rfl rfl rfl hb16 ?_
                  refine Rg.od rfl rfl rfl (OpT.pickT rfl hb16 rfl ?_)
                  refine Rg.od rfl rfl rfl (OpT.move rfl ?_)
                  refine Rg.gn rfl rfl rfl rfl rfl ?_
                  refine Rg.gn rfl rfl rfl rfl rfl ?_
                  refine Rg.od rfl rfl rfl (OpT.pickT rfl rfl rfl ?_)
                  refine Rg.od rfl rfl rfl (OpT.move rfl ?_)
                  refine Rg.gn rfl rfl rfl rfl rfl ?_
                  refine Rg.gn rfl rfl rfl rfl rfl ?_
                  refine Rg.od rfl rfl rfl (OpT.pickT rfl rfl rfl ?_)
                  refine Rg.od rfl rfl rfl (OpT.assign rfl ?_)
                  refine Rg.nil ?_
                  exact ⟨⟨rfl, rfl, rfl, rfl, rfl, rfl, rfl, rfl, rfl, rfl, boolSlot (by first | exact letterN_true (by omega) | exact letterN_false (by omega) | exact letterN_last (by omega)) rfl, trivial⟩, Ext.refl _⟩
                · have hp16 := of_decide_eq_false hb16
                  refine Rg.gy rfl rfl rfl rfl hb16 (OpT.move rfl ?_)
                  refine Rg.gy rfl rfl rfl rfl hb16 (OpT.eqlI rfl rfl ?_)
                  refine Rg.od rfl rfl rfl (OpT.pickF rfl hb16 rfl ?_)
                  refine Rg.od rfl rfl rfl (OpT.move rfl ?_)
                  rcases Bool.eq_false_or_eq_true (decide (((s[s4]!.toNat : Nat) : Int) = 95)) with hb17 | hb17
                  · have hp17 := of_decide_eq_true hb17
                    refine Rg.gn rfl rfl rfl rfl hb17 ?_
                    refine Rg.gn rfl rfl rfl rfl hb17 ?_
                    refine Rg.od rfl rfl rfl (OpT.pickT rfl hb17 rfl ?_)
                    refine Rg.od rfl rfl rfl (OpT.move rfl ?_)
                    refine Rg.gn rfl rfl rfl rfl rfl ?_
                    refine Rg.gn rfl rfl rfl rfl rfl ?_
                    refine Rg.od rfl rfl rfl (OpT.pickT rfl rfl rfl ?_)
                    refine Rg.od rfl rfl rfl (OpT.assign rfl ?_)
                    refine Rg.nil ?_
                    exact ⟨⟨rfl, rfl, rfl, rfl, rfl, rfl, rfl, rfl, rfl, rfl, boolSlot (by first | exact letterN_true (by omega) | exact letterN_false (by omega) | exact letterN_last (by omega)) rfl, trivial⟩, Ext.refl _⟩
                  · have hp17 := of_decide_eq_false hb17
                    refine Rg.gy rfl rfl rfl rfl hb17 (OpT.move rfl ?_)
                    refine Rg.gy rfl rfl rfl rfl hb17 (OpT.eqlI rfl rfl ?_)
                    refine Rg.od rfl rfl rfl (OpT.pickF rfl hb17 rfl ?_)
                    refine Rg.od rfl rfl rfl (OpT.move rfl ?_)
                    rcases Bool.eq_false_or_eq_true (decide (((s[s4]!.toNat : Nat) : Int) = 46)) with hb18 | hb18
                    · have hp18 := of_decide_eq_true hb18
                      refine Rg.gn rfl rfl rfl rfl hb18 ?_
                      refine Rg.gn rfl rfl rfl rfl hb18 ?_
                      refine Rg.od rfl rfl rfl (OpT.pickT rfl hb18 rfl ?_)
                      refine Rg.od rfl rfl rfl (OpT.assign rfl ?_)
                      refine Rg.nil ?_
                      exact ⟨⟨rfl, rfl, rfl, rfl, rfl, rfl, rfl, rfl, rfl, rfl, boolSlot (by first | exact letterN_true (by omega) | exact letterN_false (by omega) | exact letterN_last (by omega)) rfl, trivial⟩, Ext.refl _⟩
                    · have hp18 := of_decide_eq_false hb18
                      refine Rg.gy rfl rfl rfl rfl hb18 (OpT.move rfl ?_)
                      refine Rg.gy rfl rfl rfl rfl hb18 (OpT.eqlI rfl rfl ?_)
                      refine Rg.od rfl rfl rfl (OpT.pickF rfl hb18 rfl ?_)
                      refine Rg.od rfl rfl rfl (OpT.assign rfl ?_)
                      refine Rg.nil ?_
                      exact ⟨⟨rfl, rfl, rfl, rfl, rfl, rfl, rfl, rfl, rfl, rfl, boolSlot (by first | exact letterN_true (by omega) | exact letterN_false (by omega) | exact letterN_last (by omega)) rfl, trivial⟩, Ext.refl _⟩
              · have hp15 := of_decide_eq_false hb15
                refine Rg.gn rfl rfl rfl rfl hb15 ?_
                refine Rg.gn rfl rfl rfl rfl hb15 ?_
                refine Rg.gy rfl rfl rfl rfl hb14 (OpT.pickF rfl hb15 rfl ?_)
                refine Rg.od rfl rfl rfl (OpT.pickF rfl hb14 rfl ?_)
                refine Rg.od rfl rfl rfl (OpT.move rfl ?_)
                refine Rg.gy rfl rfl rfl rfl rfl (OpT.move rfl ?_)
                refine Rg.gy rfl rfl rfl rfl rfl (OpT.eqlI rfl rfl ?_)
                refine Rg.od rfl rfl rfl (OpT.pickF rfl rfl rfl ?_)
                refine Rg.od rfl rfl rfl (OpT.move rfl ?_)
                rcases Bool.eq_false_or_eq_true (decide (((s[s4]!.toNat : Nat) : Int) = 95)) with hb19 | hb19
                · have hp19 := of_decide_eq_true hb19
                  refine Rg.gn rfl rfl rfl rfl hb19 ?_
                  refine Rg.gn rfl rfl rfl rfl hb19 ?_
                  refine Rg.od rfl rfl rfl (OpT.pickT rfl hb19 rfl ?_)
                  refine Rg.od rfl rfl rfl (OpT.move rfl ?_)
                  refine Rg.gn rfl rfl rfl rfl rfl ?_
                  refine Rg.gn rfl rfl rfl rfl rfl ?_
                  refine Rg.od rfl rfl rfl (OpT.pickT rfl rfl rfl ?_)
                  refine Rg.od rfl rfl rfl (OpT.assign rfl ?_)
                  refine Rg.nil ?_
                  exact ⟨⟨rfl, rfl, rfl, rfl, rfl, rfl, rfl, rfl, rfl, rfl, boolSlot (by first | exact letterN_true (by omega) | exact letterN_false (by omega) | exact letterN_last (by omega)) rfl, trivial⟩, Ext.refl _⟩
                · have hp19 := of_decide_eq_false hb19
                  refine Rg.gy rfl rfl rfl rfl hb19 (OpT.move rfl ?_)
                  refine Rg.gy rfl rfl rfl rfl hb19 (OpT.eqlI rfl rfl ?_)
                  refine Rg.od rfl rfl rfl (OpT.pickF rfl hb19 rfl ?_)
                  refine Rg.od rfl rfl rfl (OpT.move rfl ?_)
                  rcases Bool.eq_false_or_eq_true (decide (((s[s4]!.toNat : Nat) : Int) = 46)) with hb20 | hb20
                  · have hp20 := of_decide_eq_true hb20
                    refine Rg.gn rfl rfl rfl rfl hb20 ?_
                    refine Rg.gn rfl rfl rfl rfl hb20 ?_
                    refine Rg.od rfl rfl rfl (OpT.pickT rfl hb20 rfl ?_)
                    refine Rg.od rfl rfl rfl (OpT.assign rfl ?_)
                    refine Rg.nil ?_
                    exact ⟨⟨rfl, rfl, rfl, rfl, rfl, rfl, rfl, rfl, rfl, rfl, boolSlot (by first | exact letterN_true (by omega) | exact letterN_false (by omega) | exact letterN_last (by omega)) rfl, trivial⟩, Ext.refl _⟩
                  · have hp20 := of_decide_eq_false hb20
                    refine Rg.gy rfl rfl rfl rfl hb20 (OpT.move rfl ?_)
                    refine Rg.gy rfl rfl rfl rfl hb20 (OpT.eqlI rfl rfl ?_)
                    refine Rg.od rfl rfl rfl (OpT.pickF rfl hb20 rfl ?_)
                    refine Rg.od rfl rfl rfl (OpT.assign rfl ?_)
                    refine Rg.nil ?_
                    exact ⟨⟨rfl, rfl, rfl, rfl, rfl, rfl, rfl, rfl, rfl, rfl, boolSlot (by first | exact letterN_true (by omega) | exact letterN_false (by omega) | exact letterN_last (by omega)) rfl, trivial⟩, Ext.refl _⟩
          · have hp13 := of_decide_eq_false hb13
            refine Rg.gn rfl rfl rfl rfl hb13 ?_
            refine Rg.gn rfl rfl rfl rfl hb13 ?_
            refine Rg.gy rfl rfl rfl rfl hb12 (OpT.pickF rfl hb13 rfl ?_)
            refine Rg.od rfl rfl rfl (OpT.pickF rfl hb12 rfl ?_)
            refine Rg.od rfl rfl rfl (OpT.move rfl ?_)
            refine Rg.gy rfl rfl rfl rfl rfl (OpT.move rfl ?_)
            refine Rg.gy rfl rfl rfl rfl rfl (OpT.geq rfl rfl ?_)
            refine Rg.gy rfl rfl rfl rfl rfl (OpT.move rfl ?_)
            rcases Bool.eq_false_or_eq_true (decide (48 ≤ ((s[s4]!.toNat : Nat) : Int))) with hb21 | hb21
            · have hp21 := of_decide_eq_true hb21
              refine Rg.gy rfl rfl rfl rfl hb21 (OpT.move rfl ?_)
              refine Rg.gy rfl rfl rfl rfl hb21 (OpT.leq rfl rfl ?_)
              refine Rg.gy rfl rfl rfl rfl rfl (OpT.pickT rfl hb21 rfl ?_)
              refine Rg.od rfl rfl rfl (OpT.pickF rfl rfl rfl ?_)
              refine Rg.od rfl rfl rfl (OpT.move rfl ?_)
              rcases Bool.eq_false_or_eq_true (decide (((s[s4]!.toNat : Nat) : Int) ≤ 57)) with hb22 | hb22
              · have hp22 := of_decide_eq_true hb22
                refine Rg.gn rfl rfl rfl rfl hb22 ?_
                refine Rg.gn rfl rfl rfl rfl hb22 ?_
                refine Rg.od rfl rfl rfl (OpT.pickT rfl hb22 rfl ?_)
                refine Rg.od rfl rfl rfl (OpT.move rfl ?_)
                refine Rg.gn rfl rfl rfl rfl rfl ?_
                refine Rg.gn rfl rfl rfl rfl rfl ?_
                refine Rg.od rfl rfl rfl (OpT.pickT rfl rfl rfl ?_)
                refine Rg.od rfl rfl rfl (OpT.move rfl ?_)
                refine Rg.gn rfl rfl rfl rfl rfl ?_
                refine Rg.gn rfl rfl rfl rfl rfl ?_
                refine Rg.od rfl rfl rfl (OpT.pickT rfl rfl rfl ?_)
                refine Rg.od rfl rfl rfl (OpT.assign rfl ?_)
                refine Rg.nil ?_
                exact ⟨⟨rfl, rfl, rfl, rfl, rfl, rfl, rfl, rfl, rfl, rfl, boolSlot (by first | exact letterN_true (by omega) | exact letterN_false (by omega) | exact letterN_last (by omega)) rfl, trivial⟩, Ext.refl _⟩
              · have hp22 := of_decide_eq_false hb22
                refine Rg.gy rfl rfl rfl rfl hb22 (OpT.move rfl ?_)
                refine Rg.gy rfl rfl rfl rfl hb22 (OpT.eqlI rfl rfl ?_)
                refine Rg.od rfl rfl rfl (OpT.pickF rfl hb22 rfl ?_)
                refine Rg.od rfl rfl rfl (OpT.move rfl ?_)
                rcases Bool.eq_false_or_eq_true (decide (((s[s4]!.toNat : Nat) : Int) = 95)) with hb23 | hb23
                · have hp23 := of_decide_eq_true hb23
                  refine Rg.gn rfl rfl rfl rfl hb23 ?_
                  refine Rg.gn rfl rfl rfl rfl hb23 ?_
                  refine Rg.od rfl rfl rfl (OpT.pickT rfl hb23 rfl ?_)
                  refine Rg.od rfl rfl rfl (OpT.move rfl ?_)
                  refine Rg.gn rfl rfl rfl rfl rfl ?_
                  refine Rg.gn rfl rfl rfl rfl rfl ?_
                  refine Rg.od rfl rfl rfl (OpT.pickT rfl rfl rfl ?_)
                  refine Rg.od rfl rfl rfl (OpT.assign rfl ?_)
                  refine Rg.nil ?_
                  exact ⟨⟨rfl, rfl, rfl, rfl, rfl, rfl, rfl, rfl, rfl, rfl, boolSlot (by first | exact letterN_true (by omega) | exact letterN_false (by omega) | exact letterN_last (by omega)) rfl, trivial⟩, Ext.refl _⟩
                · have hp23 := of_decide_eq_false hb23
                  refine Rg.gy rfl rfl rfl rfl hb23 (OpT.move rfl ?_)
                  refine Rg.gy rfl rfl rfl rfl hb23 (OpT.eqlI rfl rfl ?_)
                  refine Rg.od rfl rfl rfl (OpT.pickF rfl hb23 rfl ?_)
                  refine Rg.od rfl rfl rfl (OpT.move rfl ?_)
                  rcases Bool.eq_false_or_eq_true (decide (((s[s4]!.toNat : Nat) : Int) = 46)) with hb24 | hb24
                  · have hp24 := of_decide_eq_true hb24
                    refine Rg.gn rfl rfl rfl rfl hb24 ?_
                    refine Rg.gn rfl rfl rfl rfl hb24 ?_
                    refine Rg.od rfl rfl rfl (OpT.pickT rfl hb24 rfl ?_)
                    refine Rg.od rfl rfl rfl (OpT.assign rfl ?_)
                    refine Rg.nil ?_
                    exact ⟨⟨rfl, rfl, rfl, rfl, rfl, rfl, rfl, rfl, rfl, rfl, boolSlot (by first | exact letterN_true (by omega) | exact letterN_false (by omega) | exact letterN_last (by omega)) rfl, trivial⟩, Ext.refl _⟩
                  · have hp24 := of_decide_eq_false hb24
                    refine Rg.gy rfl rfl rfl rfl hb24 (OpT.move rfl ?_)
                    refine Rg.gy rfl rfl rfl rfl hb24 (OpT.eqlI rfl rfl ?_)
                    refine Rg.od rfl rfl rfl (OpT.pickF rfl hb24 rfl ?_)
                    refine Rg.od rfl rfl rfl (OpT.assign rfl ?_)
                    refine Rg.nil ?_
                    exact ⟨⟨rfl, rfl, rfl, rfl, rfl, rfl, rfl, rfl, rfl, rfl, boolSlot (by first | exact letterN_true (by omega) | exact letterN_false (by omega) | exact letterN_last (by omega)) rfl, trivial⟩, Ext.refl _⟩
            · have hp21 := of_decide_eq_false hb21
              refine Rg.gn rfl rfl rfl rfl hb21 ?_
              refine Rg.gn rfl rfl rfl rfl hb21 ?_
              refine Rg.gy rfl rfl rfl rfl rfl (OpT.pickF rfl hb21 rfl ?_)
              refine Rg.od rfl rfl rfl (OpT.pickF rfl rfl rfl ?_)
              refine Rg.od rfl rfl rfl (OpT.move rfl ?_)
              refine Rg.gy rfl rfl rfl rfl rfl (OpT.move rfl ?_)
              refine Rg.gy rfl rfl rfl rfl rfl (OpT.eqlI rfl rfl ?_)
              refine Rg.od rfl rfl rfl (OpT.pickF rfl rfl rfl ?_)
              refine Rg.od rfl rfl rfl (OpT.move rfl ?_)
              rcases Bool.eq_false_or_eq_true (decide (((s[s4]!.toNat : Nat) : Int) = 95)) with hb25 | hb25
              · have hp25 := of_decide_eq_true hb25
                refine Rg.gn rfl rfl rfl rfl hb25 ?_
                refine Rg.gn rfl rfl rfl rfl hb25 ?_
                refine Rg.od rfl rfl rfl (OpT.pickT rfl hb25 rfl ?_)
                refine Rg.od rfl rfl rfl (OpT.move rfl ?_)
                refine Rg.gn rfl rfl rfl rfl rfl ?_
                refine Rg.gn rfl rfl rfl rfl rfl ?_
                refine Rg.od rfl rfl rfl (OpT.pickT rfl rfl rfl ?_)
                refine Rg.od rfl rfl rfl (OpT.assign rfl ?_)
                refine Rg.nil ?_
                exact ⟨⟨rfl, rfl, rfl, rfl, rfl, rfl, rfl, rfl, rfl, rfl, boolSlot (by first | exact letterN_true (by omega) | exact letterN_false (by omega) | exact letterN_last (by omega)) rfl, trivial⟩, Ext.refl _⟩
              · have hp25 := of_decide_eq_false hb25
                refine Rg.gy rfl rfl rfl rfl hb25 (OpT.move rfl ?_)
                refine Rg.gy rfl rfl rfl rfl hb25 (OpT.eqlI rfl rfl ?_)
                refine Rg.od rfl rfl rfl (OpT.pickF rfl hb25 rfl ?_)
                refine Rg.od rfl rfl rfl (OpT.move rfl ?_)
                rcases Bool.eq_false_or_eq_true (decide (((s[s4]!.toNat : Nat) : Int) = 46)) with hb26 | hb26
                · have hp26 := of_decide_eq_true hb26
                  refine Rg.gn rfl rfl rfl rfl hb26 ?_
                  refine Rg.gn rfl rfl rfl rfl hb26 ?_
                  refine Rg.od rfl rfl rfl (OpT.pickT rfl hb26 rfl ?_)
                  refine Rg.od rfl rfl rfl (OpT.assign rfl ?_)
                  refine Rg.nil ?_
                  exact ⟨⟨rfl, rfl, rfl, rfl, rfl, rfl, rfl, rfl, rfl, rfl, boolSlot (by first | exact letterN_true (by omega) | exact letterN_false (by omega) | exact letterN_last (by omega)) rfl, trivial⟩, Ext.refl _⟩
                · have hp26 := of_decide_eq_false hb26
                  refine Rg.gy rfl rfl rfl rfl hb26 (OpT.move rfl ?_)
                  refine Rg.gy rfl rfl rfl rfl hb26 (OpT.eqlI rfl rfl ?_)
                  refine Rg.od rfl rfl rfl (OpT.pickF rfl hb26 rfl ?_)
                  refine Rg.od rfl rfl rfl (OpT.assign rfl ?_)
                  refine Rg.nil ?_
                  exact ⟨⟨rfl, rfl, rfl, rfl, rfl, rfl, rfl, rfl, rfl, rfl, boolSlot (by first | exact letterN_true (by omega) | exact letterN_false (by omega) | exact letterN_last (by omega)) rfl, trivial⟩, Ext.refl _⟩
      · have hp11 := of_decide_eq_false hb11
        refine Rg.gn rfl rfl rfl rfl hb11 ?_
        refine Rg.gn rfl rfl rfl rfl hb11 ?_
        refine Rg.od rfl rfl rfl (OpT.pickF rfl hb11 rfl ?_)
        refine Rg.od rfl rfl rfl (OpT.move rfl ?_)
        refine Rg.gy rfl rfl rfl rfl rfl (OpT.move rfl ?_)
        refine Rg.gy rfl rfl rfl rfl rfl (OpT.geq rfl rfl ?_)
        refine Rg.gy rfl rfl rfl rfl rfl (OpT.move rfl ?_)
        rcases Bool.eq_false_or_eq_true (decide (65 ≤ ((s[s4]!.toNat : Nat) : Int))) with hb27 | hb27
        · have hp27 := of_decide_eq_true hb27
          refine Rg.gy rfl rfl rfl rfl hb27 (OpT.move rfl ?_)
          refine Rg.gy rfl rfl rfl rfl hb27 (OpT.leq rfl rfl ?_)
          refine Rg.gy rfl rfl rfl rfl rfl (OpT.pickT rfl hb27 rfl ?_)
          refine Rg.od rfl rfl rfl (OpT.pickF rfl rfl rfl ?_)
          refine Rg.od rfl rfl rfl (OpT.move rfl ?_)
          rcases Bool.eq_false_or_eq_true (decide (((s[s4]!.toNat : Nat) : Int) ≤ 90)) with hb28 | hb28
          · have hp28 := of_decide_eq_true hb28
            refine Rg.gn rfl rfl rfl rfl hb28 ?_
            refine Rg.gn rfl rfl rfl rfl hb28 ?_
            refine Rg.gn rfl rfl rfl rfl hb28 ?_
            refine Rg.gu rfl rfl rfl rfl ?_
            refine Rg.gu rfl rfl rfl rfl ?_
            refine Rg.gn rfl rfl rfl rfl hb28 ?_
            refine Rg.od rfl rfl rfl (OpT.pickT rfl hb28 rfl ?_)
            refine Rg.od rfl rfl rfl (OpT.move rfl ?_)
            refine Rg.gn rfl rfl rfl rfl rfl ?_
            refine Rg.gn rfl rfl rfl rfl rfl ?_
            refine Rg.od rfl rfl rfl (OpT.pickT rfl rfl rfl ?_)
            refine Rg.od rfl rfl rfl (OpT.move rfl ?_)
            refine Rg.gn rfl rfl rfl rfl rfl ?_
            refine Rg.gn rfl rfl rfl rfl rfl ?_
            refine Rg.od rfl rfl rfl (OpT.pickT rfl rfl rfl ?_)
            refine Rg.od rfl rfl rfl (OpT.move rfl ?_)
            refine Rg.gn rfl rfl rfl rfl rfl ?_
            refine Rg.gn rfl rfl rfl rfl rfl ?_
            refine Rg.od rfl rfl rfl (OpT.pickT rfl rfl rfl ?_)
            refine Rg.od rfl rfl rfl (OpT.assign rfl ?_)
            refine Rg.nil ?_
            exact ⟨⟨rfl, rfl, rfl, rfl, rfl, rfl, rfl, rfl, rfl, rfl, boolSlot (by first | exact letterN_true (by omega) | exact letterN_false (by omega) | exact letterN_last (by omega)) rfl, trivial⟩, Ext.refl _⟩
          · have hp28 := of_decide_eq_false hb28
            refine Rg.gy rfl rfl rfl rfl hb28 (OpT.move rfl ?_)
            refine Rg.gy rfl rfl rfl rfl hb28 (OpT.geq rfl rfl ?_)
            refine Rg.gy rfl rfl rfl rfl hb28 (OpT.move rfl ?_)
            rcases Bool.eq_false_or_eq_true (decide (48 ≤ ((s[s4]!.toNat : Nat) : Int))) with hb29 | hb29
            · have hp29 := of_decide_eq_true hb29
              refine Rg.gy rfl rfl rfl rfl hb29 (OpT.move rfl ?_)
              refine Rg.gy rfl rfl rfl rfl hb29 (OpT.leq rfl rfl ?_)
              refine Rg.gy rfl rfl rfl rfl hb28 (OpT.pickT rfl hb29 rfl ?_)
              refine Rg.od rfl rfl rfl (OpT.pickF rfl hb28 rfl ?_)
              refine Rg.od rfl rfl rfl (OpT.move rfl ?_)
              rcases Bool.eq_false_or_eq_true (decide (((s[s4]!.toNat : Nat) : Int) ≤ 57)) with hb30 | hb30
              · have hp30 := of_decide_eq_true hb30
                refine Rg.gn rfl rfl rfl rfl hb30 ?_
                refine Rg.gn rfl rfl rfl rfl hb30 ?_
                refine Rg.od rfl rfl rfl (OpT.pickT rfl hb30 rfl ?_)
                refine Rg.od rfl rfl rfl (OpT.move rfl ?_)
                refine Rg.gn rfl rfl rfl rfl rfl ?_
                refine Rg.gn rfl rfl rfl rfl rfl ?_
                refine Rg.od rfl rfl rfl (OpT.pickT rfl rfl rfl ?_)
                refine Rg.od rfl rfl rfl (OpT.move rfl ?_)
                refine Rg.gn rfl rfl rfl rfl rfl ?_
                refine Rg.gn rfl rfl rfl rfl rfl ?_
                refine Rg.od rfl rfl rfl (OpT.pickT rfl rfl rfl ?_)
                refine Rg.od rfl rfl rfl (OpT.assign rfl ?_)
                refine Rg.nil ?_
                exact ⟨⟨rfl, rfl, rfl, rfl, rfl, rfl, rfl, rfl, rfl, rfl, boolSlot (by first | exact letterN_true (by omega) | exact letterN_false (by omega) | exact letterN_last (by omega)) rfl, trivial⟩, Ext.refl _⟩
              · have hp30 := of_decide_eq_false hb30
                refine Rg.gy rfl rfl rfl rfl hb30 (OpT.move rfl ?_)
                refine Rg.gy rfl rfl rfl rfl hb30 (OpT.eqlI rfl rfl ?_)
                refine Rg.od rfl rfl rfl (OpT.pickF rfl hb30 rfl ?_)
                refine Rg.od rfl rfl rfl (OpT.move rfl ?_)
                rcases Bool.eq_false_or_eq_true (decide (((s[s4]!.toNat : Nat) : Int) = 95)) with hb31 | hb31
                · have hp31 := of_decide_eq_true hb31
                  refine Rg.gn rfl rfl rfl rfl hb31 ?_
                  refine Rg.gn rfl rfl rfl rfl hb31 ?_
                  refine Rg.od rfl rfl rfl (OpT.pickT rfl hb31 rfl ?_)
                  refine Rg.od rfl rfl rfl (OpT.move rfl ?_)
                  refine Rg.gn rfl rfl rfl rfl rfl ?_
                  refine Rg.gn rfl rfl rfl rfl rfl ?_
                  refine Rg.od rfl rfl rfl (OpT.pickT rfl rfl rfl ?_)
                  refine Rg.od rfl rfl rfl (OpT.assign rfl ?_)
                  refine Rg.nil ?_
                  exact ⟨⟨rfl, rfl, rfl, rfl, rfl, rfl, rfl, rfl, rfl, rfl, boolSlot (by first | exact letterN_true (by omega) | exact letterN_false (by omega) | exact letterN_last (by omega)) rfl, trivial⟩, Ext.refl _⟩
                · have hp31 := of_decide_eq_false hb31
                  refine Rg.gy rfl rfl rfl rfl hb31 (OpT.move rfl ?_)
                  refine Rg.gy rfl rfl rfl rfl hb31 (OpT.eqlI rfl rfl ?_)
                  refine Rg.od rfl rfl rfl (OpT.pickF rfl hb31 rfl ?_)
                  refine Rg.od rfl rfl rfl (OpT.move rfl ?_)
                  rcases Bool.eq_false_or_eq_true (decide (((s[s4]!.toNat : Nat) : Int) = 46)) with hb32 | hb32
                  · have hp32 := of_decide_eq_true hb32
                    refine Rg.gn rfl rfl rfl rfl hb32 ?_
                    refine Rg.gn rfl rfl rfl rfl hb32 ?_
                    refine Rg.od rfl rfl rfl (OpT.pickT rfl hb32 rfl ?_)
                    refine Rg.od rfl rfl rfl (OpT.assign rfl ?_)
                    refine Rg.nil ?_
                    exact ⟨⟨rfl, rfl, rfl, rfl, rfl, rfl, rfl, rfl, rfl, rfl, boolSlot (by first | exact letterN_true (by omega) | exact letterN_false (by omega) | exact letterN_last (by omega)) rfl, trivial⟩, Ext.refl _⟩
                  · have hp32 := of_decide_eq_false hb32
                    refine Rg.gy rfl rfl rfl rfl hb32 (OpT.move rfl ?_)
                    refine Rg.gy rfl rfl rfl rfl hb32 (OpT.eqlI rfl rfl ?_)
                    refine Rg.od rfl rfl rfl (OpT.pickF rfl hb32 rfl ?_)
                    refine Rg.od rfl rfl rfl (OpT.assign rfl ?_)
                    refine Rg.nil ?_
                    exact ⟨⟨rfl, rfl, rfl, rfl, rfl, rfl, rfl, rfl, rfl, rfl, boolSlot (by first | exact letterN_true (by omega) | exact letterN_false (by omega) | exact letterN_last (by omega)) rfl, trivial⟩, Ext.refl _⟩
            · have hp29 := of_decide_eq_false hb29
              refine Rg.gn rfl rfl rfl rfl hb29 ?_
              refine Rg.gn rfl rfl rfl rfl hb29 ?_
              refine Rg.gy rfl rfl rfl rfl hb28 (OpT.pickF rfl hb29 rfl ?_)
              refine Rg.od rfl rfl rfl (OpT.pickF rfl hb28 rfl ?_)
              refine Rg.od rfl rfl rfl (OpT.move rfl ?_)
              refine Rg.gy rfl rfl rfl rfl rfl (OpT.move rfl ?_)
              refine Rg.gy rfl rfl rfl rfl rfl (OpT.eqlI rfl rfl ?_)
              refine Rg.od rfl rfl rfl (OpT.pickF rfl rfl rfl ?_)
              refine Rg.od rfl rfl rfl (OpT.move rfl ?_)
              rcases Bool.eq_false_or_eq_true (decide (((s[s4]!.toNat : Nat) : Int) = 95)) with hb33 | hb33
              · have hp33 := of_decide_eq_true hb33
                refine Rg.gn rfl rfl rfl rfl hb33 ?_
                refine Rg.gn rfl rfl rfl rfl hb33 ?_
                refine Rg.od rfl rfl rfl (OpT.pickT rfl hb33 rfl ?_)
                refine Rg.od rfl rfl rfl (OpT.move rfl ?_)
                refine Rg.gn rfl rfl rfl rfl rfl ?_
                refine Rg.gn rfl rfl rfl rfl rfl ?_
                refine Rg.od rfl rfl rfl (OpT.pickT rfl rfl rfl ?_)
                refine Rg.od rfl rfl rfl (OpT.assign rfl ?_)
                refine Rg.nil ?_
                exact ⟨⟨rfl, rfl, rfl, rfl, rfl, rfl, rfl, rfl, rfl, rfl, boolSlot (by first | exact letterN_true (by omega) | exact letterN_false (by omega) | exact letterN_last (by omega)) rfl, trivial⟩, Ext.refl _⟩
              · have hp33 := of_decide_eq_false hb33
                refine Rg.gy rfl rfl rfl rfl hb33 (OpT.move rfl ?_)
                refine Rg.gy rfl rfl rfl rfl hb33 (OpT.eqlI rfl rfl ?_)
                refine Rg.od rfl rfl rfl (OpT.pickF rfl hb33 rfl ?_)
                refine Rg.od rfl rfl rfl (OpT.move rfl ?_)
                rcases Bool.eq_false_or_eq_true (decide (((s[s4]!.toNat : Nat) : Int) = 46)) with hb34 | hb34
                · have hp34 := of_decide_eq_true hb34
                  refine Rg.gn rfl rfl rfl rfl hb34 ?_
                  refine Rg.gn rfl rfl rfl rfl hb34 ?_
                  refine Rg.od rfl rfl rfl (OpT.pickT rfl hb34 rfl ?_)
                  refine Rg.od rfl rfl rfl (OpT.assign rfl ?_)
                  refine Rg.nil ?_
                  exact ⟨⟨rfl, rfl, rfl, rfl, rfl, rfl, rfl, rfl, rfl, rfl, boolSlot (by first | exact letterN_true (by omega) | exact letterN_false (by omega) | exact letterN_last (by omega)) rfl, trivial⟩, Ext.refl _⟩
                · have hp34 := of_decide_eq_false hb34
                  refine Rg.gy rfl rfl rfl rfl hb34 (OpT.move rfl ?_)
                  refine Rg.gy rfl rfl rfl rfl hb34 (OpT.eqlI rfl rfl ?_)
                  refine Rg.od rfl rfl rfl (OpT.pickF rfl hb34 rfl ?_)
                  refine Rg.od rfl rfl rfl (OpT.assign rfl ?_)
                  refine Rg.nil ?_
                  exact ⟨⟨rfl, rfl, rfl, rfl, rfl, rfl, rfl, rfl, rfl, rfl, boolSlot (by first | exact letterN_true (by omega) | exact letterN_false (by omega) | exact letterN_last (by omega)) rfl, trivial⟩, Ext.refl _⟩
        · have hp27 := of_decide_eq_false hb27
          refine Rg.gn rfl rfl rfl rfl hb27 ?_
          refine Rg.gn rfl rfl rfl rfl hb27 ?_
          refine Rg.gy rfl rfl rfl rfl rfl (OpT.pickF rfl hb27 rfl ?_)
          refine Rg.od rfl rfl rfl (OpT.pickF rfl rfl rfl ?_)
          refine Rg.od rfl rfl rfl (OpT.move rfl ?_)
          refine Rg.gy rfl rfl rfl rfl rfl (OpT.move rfl ?_)
          refine Rg.gy rfl rfl rfl rfl rfl (OpT.geq rfl rfl ?_)
          refine Rg.gy rfl rfl rfl rfl rfl (OpT.move rfl ?_)
          rcases Bool.eq_false_or_eq_true (decide (48 ≤ ((s[s4]!.toNat : Nat) : Int))) with hb35 | hb35
          · have hp35 := of_decide_eq_true hb35
            refine Rg.gy rfl rfl rfl rfl hb35 (OpT.move rfl ?_)
            refine Rg.gy rfl rfl rfl rfl hb35 (OpT.leq rfl rfl ?_)
            refine Rg.gy rfl rfl rfl rfl rfl (OpT.pickT rfl hb35 rfl ?_)
            refine Rg.od rfl rfl rfl (OpT.pickF rfl rfl rfl ?_)
            refine Rg.od rfl rfl rfl (OpT.move rfl ?_)
            rcases Bool.eq_false_or_eq_true (decide (((s[s4]!.toNat : Nat) : Int) ≤ 57)) with hb36 | hb36
            · have hp36 := of_decide_eq_true hb36
              refine Rg.gn rfl rfl rfl rfl hb36 ?_
              refine Rg.gn rfl rfl rfl rfl hb36 ?_
              refine Rg.od rfl rfl rfl (OpT.pickT rfl hb36 rfl ?_)
              refine Rg.od rfl rfl rfl (OpT.move rfl ?_)
              refine Rg.gn rfl rfl rfl rfl rfl ?_
              refine Rg.gn rfl rfl rfl rfl rfl ?_
              refine Rg.od rfl rfl rfl (OpT.pickT rfl rfl rfl ?_)
              refine Rg.od rfl rfl rfl (OpT.move rfl ?_)
              refine Rg.gn rfl rfl rfl rfl rfl ?_
              refine Rg.gn rfl rfl rfl rfl rfl ?_
              refine Rg.od rfl rfl rfl (OpT.pickT rfl rfl rfl ?_)
              refine Rg.od rfl rfl rfl (OpT.assign rfl ?_)
              refine Rg.nil ?_
              exact ⟨⟨rfl, rfl, rfl, rfl, rfl, rfl, rfl, rfl, rfl, rfl, boolSlot (by first | exact letterN_true (by omega) | exact letterN_false (by omega) | exact letterN_last (by omega)) rfl, trivial⟩, Ext.refl _⟩
            · have hp36 := of_decide_eq_false hb36
              refine Rg.gy rfl rfl rfl rfl hb36 (OpT.move rfl ?_)
              refine Rg.gy rfl rfl rfl rfl hb36 (OpT.eqlI rfl rfl ?_)
              refine Rg.od rfl rfl rfl (OpT.pickF rfl hb36 rfl ?_)
              refine Rg.od rfl rfl rfl (OpT.move rfl ?_)
              rcases Bool.eq_false_or_eq_true (decide (((s[s4]!.toNat : Nat) : Int) = 95)) with hb37 | hb37
              · have hp37 := of_decide_eq_true hb37
                refine Rg.gn rfl rfl rfl rfl hb37 ?_
                refine Rg.gn rfl rfl rfl rfl hb37 ?_
                refine Rg.od rfl rfl rfl (OpT.pickT rfl hb37 rfl ?_)
                refine Rg.od rfl rfl rfl (OpT.move rfl ?_)
                refine Rg.gn rfl rfl rfl rfl rfl ?_
                refine Rg.gn rfl rfl rfl rfl rfl ?_
                refine Rg.od rfl rfl rfl (OpT.pickT rfl rfl rfl ?_)
                refine Rg.od rfl rfl rfl (OpT.assign rfl ?_)
                refine Rg.nil ?_
                exact ⟨⟨rfl, rfl, rfl, rfl, rfl, rfl, rfl, rfl, rfl, rfl, boolSlot (by first | exact letterN_true (by omega) | exact letterN_false (by omega) | exact letterN_last (by omega)) rfl, trivial⟩, Ext.refl _⟩
              · have hp37 := of_decide_eq_false hb37
                refine Rg.gy rfl rfl rfl rfl hb37 (OpT.move rfl ?_)
                refine Rg.gy rfl rfl rfl rfl hb37 (OpT.eqlI rfl rfl ?_)
                refine Rg.od rfl rfl rfl (OpT.pickF rfl hb37 rfl ?_)
                refine Rg.od rfl rfl rfl (OpT.move rfl ?_)
                rcases Bool.eq_false_or_eq_true (decide (((s[s4]!.toNat : Nat) : Int) = 46)) with hb38 | hb38
                · have hp38 := of_decide_eq_true hb38
                  refine Rg.gn rfl rfl rfl rfl hb38 ?_
                  refine Rg.gn rfl rfl rfl rfl hb38 ?_
                  refine Rg.od rfl rfl rfl (OpT.pickT rfl hb38 rfl ?_)
                  refine Rg.od rfl rfl rfl (OpT.assign rfl ?_)
                  refine Rg.nil ?_
                  exact ⟨⟨rfl, rfl, rfl, rfl, rfl, rfl, rfl, rfl, rfl, rfl, boolSlot (by first | exact letterN_true (by omega) | exact letterN_false (by omega) | exact letterN_last (by omega)) rfl, trivial⟩, Ext.refl _⟩
                · have hp38 := of_decide_eq_false hb38
                  refine Rg.gy rfl rfl rfl rfl hb38 (OpT.move rfl ?_)
                  refine Rg.gy rfl rfl rfl rfl hb38 (OpT.eqlI rfl rfl ?_)
                  refine Rg.od rfl rfl rfl (OpT.pickF rfl hb38 rfl ?_)
                  refine Rg.od rfl rfl rfl (OpT.assign rfl ?_)
                  refine Rg.nil ?_
                  exact ⟨⟨rfl, rfl, rfl, rfl, rfl, rfl, rfl, rfl, rfl, rfl, boolSlot (by first | exact letterN_true (by omega) | exact letterN_false (by omega) | exact letterN_last (by omega)) rfl, trivial⟩, Ext.refl _⟩
          · have hp35 := of_decide_eq_false hb35
            refine Rg.gn rfl rfl rfl rfl hb35 ?_
            refine Rg.gn rfl rfl rfl rfl hb35 ?_
            refine Rg.gy rfl rfl rfl rfl rfl (OpT.pickF rfl hb35 rfl ?_)
            refine Rg.od rfl rfl rfl (OpT.pickF rfl rfl rfl ?_)
            refine Rg.od rfl rfl rfl (OpT.move rfl ?_)
            refine Rg.gy rfl rfl rfl rfl rfl (OpT.move rfl ?_)
            refine Rg.gy rfl rfl rfl rfl rfl (OpT.eqlI rfl rfl ?_)
            refine Rg.od rfl rfl rfl (OpT.pickF rfl rfl rfl ?_)
            refine Rg.od rfl rfl rfl (OpT.move rfl ?_)
            rcases Bool.eq_false_or_eq_true (decide (((s[s4]!.toNat : Nat) : Int) = 95)) with hb39 | hb39
            · have hp39 := of_decide_eq_true hb39
              refine Rg.gn rfl rfl rfl rfl hb39 ?_
              refine Rg.gn rfl rfl rfl rfl hb39 ?_
              refine Rg.od rfl rfl rfl (OpT.pickT rfl hb39 rfl ?_)
              refine Rg.od rfl rfl rfl (OpT.move rfl ?_)
              refine Rg.gn rfl rfl rfl rfl rfl ?_
              refine Rg.gn rfl rfl rfl rfl rfl ?_
              refine Rg.od rfl rfl rfl (OpT.pickT rfl rfl rfl ?_)
              refine Rg.od rfl rfl rfl (OpT.assign rfl ?_)
              refine Rg.nil ?_
              exact ⟨⟨rfl, rfl, rfl, rfl, rfl, rfl, rfl, rfl, rfl, rfl, boolSlot (by first | exact letterN_true (by omega) | exact letterN_false (by omega) | exact letterN_last (by omega)) rfl, trivial⟩, Ext.refl _⟩
            · have hp39 := of_decide_eq_false hb39
              refine Rg.gy rfl rfl rfl rfl hb39 (OpT.move rfl ?_)
              refine Rg.gy rfl rfl rfl rfl hb39 (OpT.eqlI rfl rfl ?_)
              refine Rg.od rfl rfl rfl (OpT.pickF rfl hb39 rfl ?_)
              refine Rg.od rfl rfl rfl (OpT.move rfl ?_)
              rcases Bool.eq_false_or_eq_true (decide (((s[s4]!.toNat : Nat) : Int) = 46)) with hb40 | hb40
              · have hp40 := of_decide_eq_true hb40
                refine Rg.gn rfl rfl rfl rfl hb40 ?_
                refine Rg.gn rfl rfl rfl rfl hb40 ?_
                refine Rg.od rfl rfl rfl (OpT.pickT rfl hb40 rfl ?_)
                refine Rg.od rfl rfl rfl (OpT.assign rfl ?_)
                refine Rg.nil ?_
                exact ⟨⟨rfl, rfl, rfl, rfl, rfl, rfl, rfl, rfl, rfl, rfl, boolSlot (by first | exact letterN_true (by omega) | exact letterN_false (by omega) | exact letterN_last (by omega)) rfl, trivial⟩, Ext.refl _⟩
              · have hp40 := of_decide_eq_false hb40
                refine Rg.gy rfl rfl rfl rfl hb40 (OpT.move rfl ?_)
                refine Rg.gy rfl rfl rfl rfl hb40 (OpT.eqlI rfl rfl ?_)
                refine Rg.od rfl rfl rfl (OpT.pickF rfl hb40 rfl ?_)
                refine Rg.od rfl rfl rfl (OpT.assign rfl ?_)
                refine Rg.nil ?_
                exact ⟨⟨rfl, rfl, rfl, rfl, rfl, rfl, rfl, rfl, rfl, rfl, boolSlot (by first | exact letterN_true (by omega) | exact letterN_false (by omega) | exact letterN_last (by omega)) rfl, trivial⟩, Ext.refl _⟩
    · rintro en10 w10 ⟨hs10, x10⟩
      refine W.sub hs10 ?_
      refine W.seqK fun K41 hK41 => ?_
      refine W.region ?_
      refine Rg.od rfl rfl rfl (OpT.move rfl ?_)
      refine Rg.od rfl rfl rfl (OpT.notB rfl ?_)
      refine Rg.nil ?_
      refine hK41 _ _ ?_
      rcases Bool.eq_false_or_eq_true (letterN s[s4]!.toNat) with hb42 | hb42
      · have hp42 := hb42
        refine W.condFb rfl (nT hb42) ?_
        refine W.skip ?_
        refine hK8 _ _ ?_
        refine W.region ?_
        refine Rg.od rfl rfl rfl (OpT.move rfl ?_)
        refine Rg.od rfl rfl rfl (OpT.add rfl rfl (by omega) ?_)
        refine Rg.od rfl rfl rfl (OpT.assign rfl ?_)
        refine Rg.nil ?_
        have hok : letterN s[s4]!.toNat = true := hb42
        exact ⟨s4 + 1, ⟨⟨rfl, rfl, rfl, trivial⟩, (x4.trans x10), by omega, by rw [nameTo_succ s s4 (by omega), hi4_1, hok]; rfl⟩, by omega⟩
      · have hp42 := hb42
        refine W.condTb rfl (nF hb42) ?_
        refine W.seqK fun K43 hK43 => ?_
        refine W.region ?_
        refine Rg.od rfl rfl rfl (OpT.assign rfl ?_)
        refine Rg.nil ?_
        refine hK43 _ _ ?_
        refine W.ret ?_
        refine ⟨_, Res.one rfl rfl, ?_⟩
        exact ⟨congrArg Value.bool (nameB_no s s4 (by omega) hb42).symm, (x4.trans x10)⟩
  · have hp7 := of_decide_eq_false hb7
    refine W.condFb rfl hb7 ?_
    refine W.exit ?_
    refine hK2 _ _ ?_
    refine W.seqK fun K44 hK44 => ?_
    refine W.region ?_
    refine Rg.od rfl rfl rfl (OpT.move rfl ?_)
    refine Rg.od rfl rfl rfl (OpT.lenStr Tryz.underlying9 rfl ?_)
    refine Rg.od rfl rfl rfl (OpT.geq rfl rfl ?_)
    refine Rg.od rfl rfl rfl (OpT.move rfl ?_)
    rcases Bool.eq_false_or_eq_true (decide (1 ≤ ((s.size : Nat) : Int))) with hb45 | hb45
    · have hp45 := of_decide_eq_true hb45
      refine Rg.gy rfl rfl rfl rfl hb45 (OpT.move rfl ?_)
      refine Rg.gy rfl rfl rfl rfl hb45 (OpT.lenStr Tryz.underlying9 rfl ?_)
      refine Rg.gy rfl rfl rfl rfl hb45 (OpT.leq rfl rfl ?_)
      refine Rg.od rfl rfl rfl (OpT.pickT rfl hb45 rfl ?_)
      refine Rg.od rfl rfl rfl (OpT.assign rfl ?_)
      refine Rg.nil ?_
      refine hK44 _ _ ?_
      refine W.ret ?_
      refine ⟨_, Res.one rfl rfl, ?_⟩
      have hsz : s4 = s.size := by omega
      rw [hsz] at hi4_1
      exact ⟨congrArg Value.bool (by rw [← nameTo_size s, hi4_1, Bool.true_and]; first | (symm; exact decide_eq_false (by omega)) | exact decide_eq_decide.2 (by omega)), x4⟩
    · have hp45 := of_decide_eq_false hb45
      refine Rg.gn rfl rfl rfl rfl hb45 ?_
      refine Rg.gn rfl rfl rfl rfl hb45 ?_
      refine Rg.gn rfl rfl rfl rfl hb45 ?_
      refine Rg.od rfl rfl rfl (OpT.pickF rfl hb45 rfl ?_)
      refine Rg.od rfl rfl rfl (OpT.assign rfl ?_)
      refine Rg.nil ?_
      refine hK44 _ _ ?_
      refine W.ret ?_
      refine ⟨_, Res.one rfl rfl, ?_⟩
      have hsz : s4 = s.size := by omega
      rw [hsz] at hi4_1
      exact ⟨congrArg Value.bool (by rw [← nameTo_size s, hi4_1, Bool.true_and]; first | (symm; exact decide_eq_false (by omega)) | exact decide_eq_decide.2 (by omega)), x4⟩
set_option maxHeartbeats 1000000 in
set_option maxRecDepth 20000 in
theorem rmay_runs (l : L) (w0 : World) : Runs Tryz.prog 80 #[.agg l.cells.toArray] w0 fun v w' => v = .bool l.may ∧ Ext w0 w' := by
  refine Runs.of_W (vs := [_]) Tryz.func80 rfl rfl ?_
  refine W.seqK fun K1 hK1 => ?_
  refine W.region ?_
  refine Rg.od rfl rfl rfl (OpT.box rfl fun w2 g2 e2 x2 z2 b2 => ?_)
  replace b2 : Box w2 g2 [.int .i64 l.c, .int .i64 l.p0, .int .i64 l.p1, .int .i64 l.p2, .int .i64 l.p3] := b2
  refine Rg.od rfl rfl rfl (OpT.assign rfl ?_)
  refine Rg.nil ?_
  refine hK1 _ _ ?_
  refine W.seqK fun K3 hK3 => ?_
  refine W.seqK fun K4 hK4 => ?_
  refine W.region ?_
  refine Rg.od rfl rfl rfl (OpT.fieldAddrB (off := 0) Tryz.underlying69 rfl Tryz.sizeOf3 rfl rfl ?_)
  refine Rg.od rfl rfl rfl (OpT.loadB Tryz.isAgg3 rfl b2 rfl ?_)
  refine Rg.od rfl rfl rfl (OpT.lss rfl rfl ?_)
  refine Rg.od rfl rfl rfl (OpT.move rfl ?_)
  rcases Bool.eq_false_or_eq_true (decide (l.c < 0)) with hb5 | hb5
  · have hp5 := of_decide_eq_true hb5
    refine Rg.gn rfl rfl rfl rfl hb5 ?_
    refine Rg.gn rfl rfl rfl rfl hb5 ?_
    refine Rg.gn rfl rfl rfl rfl hb5 ?_
    refine Rg.od rfl rfl rfl (OpT.pickT rfl hb5 rfl ?_)
    refine Rg.nil ?_
    refine hK4 _ _ ?_
    refine W.condTb rfl rfl ?_
    refine W.seqK fun K6 hK6 => ?_
    refine W.region ?_
    refine Rg.od rfl rfl rfl (OpT.assign rfl ?_)
    refine Rg.nil ?_
    refine hK6 _ _ ?_
    refine W.ret ?_
    refine ⟨_, Res.one rfl rfl, ?_⟩
    exact ⟨congrArg Value.bool (L.may_no (by omega)).symm, x2⟩
  · have hp5 := of_decide_eq_false hb5
    refine Rg.gy rfl rfl rfl rfl hb5 (OpT.fieldAddrB (off := 0) Tryz.underlying69 rfl Tryz.sizeOf3 rfl rfl ?_)
    refine Rg.gy rfl rfl rfl rfl hb5 (OpT.loadB Tryz.isAgg3 rfl b2 rfl ?_)
    refine Rg.gy rfl rfl rfl rfl hb5 (OpT.gtr rfl rfl ?_)
    refine Rg.od rfl rfl rfl (OpT.pickF rfl hb5 rfl ?_)
    refine Rg.nil ?_
    refine hK4 _ _ ?_
    rcases Bool.eq_false_or_eq_true (decide (1099511627776 < l.c)) with hb7 | hb7
    · have hp7 := of_decide_eq_true hb7
      refine W.condTb rfl hb7 ?_
      refine W.seqK fun K8 hK8 => ?_
      refine W.region ?_
      refine Rg.od rfl rfl rfl (OpT.assign rfl ?_)
      refine Rg.nil ?_
      refine hK8 _ _ ?_
      refine W.ret ?_
      refine ⟨_, Res.one rfl rfl, ?_⟩
      exact ⟨congrArg Value.bool (L.may_no (by omega)).symm, x2⟩
    · have hp7 := of_decide_eq_false hb7
      refine W.condFb rfl hb7 ?_
      refine W.skip ?_
      refine hK3 _ _ ?_
      refine W.seqK fun K9 hK9 => ?_
      refine W.seqK fun K10 hK10 => ?_
      refine W.region ?_
      refine Rg.od rfl rfl rfl (OpT.assign rfl ?_)
      refine Rg.nil ?_
      refine hK10 _ _ ?_
      refine W.block ?_
      refine W.loop (σ := Nat) (fun q e w' => Sub [(0, .agg ([.int .i64 l.c, .int .i64 l.p0, .int .i64 l.p1, .int .i64 l.p2, .int .i64 l.p3].toArray)), (1, .pointer (some ⟨g2, 0, none⟩)), (2, .bool false), (3, .int .i64 ((q : Nat) : Int)), (4, .pointer (some ⟨g2, 0, none⟩)), (5, .int .i64 l.c), (6, .bool (decide (l.c < 0))), (7, .bool (decide (l.c < 0))), (8, .pointer (some ⟨g2, 0, none⟩)), (9, .int .i64 l.c), (10, .bool (decide (1099511627776 < l.c))), (11, .bool (decide (1099511627776 < l.c)))] e ∧ Ext w2 w' ∧ q ≤ 4 ∧ ∀ i, i < q → l.okAt i = true) (fun q => 4 - q) 0
        ⟨⟨rfl, rfl, rfl, rfl, rfl, rfl, rfl, rfl, rfl, rfl, rfl, rfl, trivial⟩, Mod.refl _ _, by omega, fun i hi => by omega⟩ ?_
      rintro s11 en11 w11 ⟨hs11, x11, hi11_0, hi11_1⟩
      refine W.sub hs11 ?_
      refine W.seqK fun K12 hK12 => ?_
      refine W.seqK fun K13 hK13 => ?_
      refine W.region ?_
      refine Rg.od rfl rfl rfl (OpT.move rfl ?_)
      refine Rg.od rfl rfl rfl (OpT.lss rfl rfl ?_)
      refine Rg.nil ?_
      refine hK13 _ _ ?_
      rcases Bool.eq_false_or_eq_true (decide (((s11 : Nat) : Int) < 4)) with hb14 | hb14
      · have hp14 := of_decide_eq_true hb14
        refine W.condTb rfl hb14 ?_
        refine W.skip ?_
        refine hK12 _ _ ?_
        refine W.seqK fun K15 hK15 => ?_
        refine W.block ?_
        refine W.seqM (fun e w' => Sub [(0, .agg ([.int .i64 l.c, .int .i64 l.p0, .int .i64 l.p1, .int .i64 l.p2, .int .i64 l.p3].toArray)), (1, .pointer (some ⟨g2, 0, none⟩)), (2, .bool false), (3, .int .i64 ((s11 : Nat) : Int)), (4, .pointer (some ⟨g2, 0, none⟩)), (5, .int .i64 l.c), (6, .bool (decide (l.c < 0))), (7, .bool (decide (l.c < 0))), (8, .pointer (some ⟨g2, 0, none⟩)), (9, .int .i64 l.c), (10, .bool (decide (1099511627776 < l.c))), (11, .bool (decide (1099511627776 < l.c))), (12, .int .i64 ((s11 : Nat) : Int)), (13, .bool (decide (((s11 : Nat) : Int) < 4))), (48, .bool (!l.okAt s11))] e ∧ Ext w11 w') ?_ ?_
        · rcases Bool.eq_false_or_eq_true (decide (l.p s11 < (-1))) with hb17 | hb17
          · have hp17 := of_decide_eq_true hb17
            refine W.draw (VS.ex _ :: VS.ex _ :: VS.ex _ :: VS.ex _ :: VS.ex _ :: VS.ex _ :: VS.ex undef :: VS.ex undef :: VS.ex undef :: VS.ex undef :: VS.ex undef :: VS.ex _ :: VS.ex _ :: VS.ex undef :: VS.ex undef :: VS.ex undef :: VS.ex undef :: VS.ex undef :: VS.ex undef :: VS.ex undef :: VS.ex undef :: VS.ex undef :: VS.ex undef :: VS.ex undef :: VS.ex undef :: VS.ex undef :: VS.ex undef :: VS.ex undef :: VS.ex undef :: VS.ex undef :: VS.ex undef :: VS.ex undef :: VS.ex _ :: []) mixed rfl rfl ⟨trivial, trivial, trivial, trivial, trivial, trivial, trivial, trivial, trivial, trivial, trivial, trivial, trivial, trivial, trivial, trivial, trivial, trivial, trivial, trivial, trivial, trivial, trivial, trivial, trivial, trivial, trivial, trivial, trivial, trivial, trivial, trivial, trivial, trivial⟩
              ⟨fun w' hx _ => OpT.move rfl VS.ok,
              fun w' hx _ => OpT.fieldAddrB (off := 1) Tryz.underlying69 rfl Tryz.sizeOf67 rfl rfl VS.ok,
              fun w' hx _ => OpT.indexAddrArr Tryz.underlying67 Tryz.sizeOf3 rfl rfl (by omega) VS.ok,
              fun w' hx _ => OpT.load Tryz.isAgg3 rfl (levp_cell (l := l) (i := s11) (b2.ext (x11.trans hx)) (by omega)) VS.ok,
              fun w' hx _ => OpT.lss rfl rfl VS.ok,
              fun w' hx _ => OpT.move rfl VS.ok,
              fun w' hx _ => .inl ⟨_, rfl, fun h => absurd ((hb17).symm.trans h) (by decide), fun _ => VS.okn⟩,
              fun w' hx _ => .inl ⟨_, rfl, fun h => absurd ((hb17).symm.trans h) (by decide), fun _ => VS.okn⟩,
              fun w' hx _ => .inl ⟨_, rfl, fun h => absurd ((hb17).symm.trans h) (by decide), fun _ => VS.okn⟩,
              fun w' hx _ => .inl ⟨_, rfl, fun h => absurd ((hb17).symm.trans h) (by decide), fun _ => VS.okn⟩,
              fun w' hx _ => .inl ⟨_, rfl, fun h => absurd ((hb17).symm.trans h) (by decide), fun _ => VS.okn⟩,
              fun w' hx _ => OpT.pickT rfl hb17 rfl VS.ok,
              fun w' hx _ => OpT.move rfl VS.ok,
              fun w' hx _ => .inl ⟨_, rfl, fun h => absurd ((rfl).symm.trans h) (by decide), fun _ => VS.okn⟩,
              fun w' hx _ => .inl ⟨_, rfl, fun h => absurd ((rfl).symm.trans h) (by decide), fun _ => VS.okn⟩,
              fun w' hx _ => .inl ⟨_, rfl, fun h => absurd ((rfl).symm.trans h) (by decide), fun _ => VS.okn⟩,
              fun w' hx _ => .inl ⟨_, rfl, fun h => absurd ((rfl).symm.trans h) (by decide), fun _ => VS.okn⟩,
              fun w' hx _ => .inl ⟨_, rfl, fun h => absurd ((rfl).symm.trans h) (by decide), fun _ => VS.okn⟩,
              fun w' hx _ => .inl ⟨_, rfl, fun h => absurd ((rfl).symm.trans h) (by decide), fun _ => VS.okn⟩,
              fun w' hx _ => .inl ⟨_, rfl, fun h => absurd ((rfl).symm.trans h) (by decide), fun _ => VS.okn⟩,
              fun w' hx _ => .inl ⟨_, rfl, fun h => absurd ((rfl).symm.trans h) (by decide), fun _ => VS.okn⟩,
              fun w' hx _ => .inr ⟨rfl, VS.okn⟩,
              fun w' hx _ => .inr ⟨rfl, VS.okn⟩,
              fun w' hx _ => .inr ⟨rfl, VS.okn⟩,
              fun w' hx _ => .inr ⟨rfl, VS.okn⟩,
              fun w' hx _ => .inr ⟨rfl, VS.okn⟩,
              fun w' hx _ => .inl ⟨_, rfl, fun h => absurd ((rfl).symm.trans h) (by decide), fun _ => VS.okn⟩,
              fun w' hx _ => .inl ⟨_, rfl, fun h => absurd ((rfl).symm.trans h) (by decide), fun _ => VS.okn⟩,
              fun w' hx _ => .inr ⟨rfl, VS.okn⟩,
              fun w' hx _ => .inr ⟨rfl, VS.okn⟩,
              fun w' hx _ => .inr ⟨rfl, VS.okn⟩,
              fun w' hx _ => .inl ⟨_, rfl, fun h => absurd ((rfl).symm.trans h) (by decide), fun _ => VS.okn⟩,
              fun w' hx _ => OpT.pickT rfl rfl rfl VS.ok,
              trivial⟩ ?_
            intro w18 x18
            exact ⟨⟨rfl, rfl, rfl, rfl, rfl, rfl, rfl, rfl, rfl, rfl, rfl, rfl, rfl, rfl, boolSlot (by first | exact L.okAt_t (by omega) | exact L.okAt_f (by omega) | exact L.okAt_last (by omega)) rfl, trivial⟩, x18⟩
          · have hp17 := of_decide_eq_false hb17
            rcases Bool.eq_false_or_eq_true (decide (1099511627776 < l.p s11)) with hb19 | hb19
            · have hp19 := of_decide_eq_true hb19
              refine W.draw (VS.ex _ :: VS.ex _ :: VS.ex _ :: VS.ex _ :: VS.ex _ :: VS.ex _ :: VS.ex _ :: VS.ex _ :: VS.ex _ :: VS.ex _ :: VS.ex _ :: VS.ex _ :: VS.ex _ :: VS.ex undef :: VS.ex undef :: VS.ex undef :: VS.ex undef :: VS.ex undef :: VS.ex undef :: VS.ex undef :: VS.ex undef :: VS.ex undef :: VS.ex undef :: VS.ex undef :: VS.ex undef :: VS.ex undef :: VS.ex undef :: VS.ex undef :: VS.ex undef :: VS.ex undef :: VS.ex undef :: VS.ex undef :: VS.ex _ :: []) mixed rfl rfl ⟨trivial, trivial, trivial, trivial, trivial, trivial, trivial, trivial, trivial, trivial, trivial, trivial, trivial, trivial, trivial, trivial, trivial, trivial, trivial, trivial, trivial, trivial, trivial, trivial, trivial, trivial, trivial, trivial, trivial, trivial, trivial, trivial, trivial, trivial⟩
                ⟨fun w' hx _ => OpT.move rfl VS.ok,
                fun w' hx _ => OpT.fieldAddrB (off := 1) Tryz.underlying69 rfl Tryz.sizeOf67 rfl rfl VS.ok,
                fun w' hx _ => OpT.indexAddrArr Tryz.underlying67 Tryz.sizeOf3 rfl rfl (by omega) VS.ok,
                fun w' hx _ => OpT.load Tryz.isAgg3 rfl (levp_cell (l := l) (i := s11) (b2.ext (x11.trans hx)) (by omega)) VS.ok,
                fun w' hx _ => OpT.lss rfl rfl VS.ok,
                fun w' hx _ => OpT.move rfl VS.ok,
                fun w' hx _ => .inl ⟨_, rfl, fun _ => OpT.move rfl VS.ok, fun h => absurd hb17 h⟩,
                fun w' hx _ => .inl ⟨_, rfl, fun _ => OpT.fieldAddrB (off := 1) Tryz.underlying69 rfl Tryz.sizeOf67 rfl rfl VS.ok, fun h => absurd hb17 h⟩,
                fun w' hx _ => .inl ⟨_, rfl, fun _ => OpT.indexAddrArr Tryz.underlying67 Tryz.sizeOf3 rfl rfl (by omega) VS.ok, fun h => absurd hb17 h⟩,
                fun w' hx _ => .inl ⟨_, rfl, fun _ => OpT.load Tryz.isAgg3 rfl (levp_cell (l := l) (i := s11) (b2.ext (x11.trans hx)) (by omega)) VS.ok, fun h => absurd hb17 h⟩,
                fun w' hx _ => .inl ⟨_, rfl, fun _ => OpT.gtr rfl rfl VS.ok, fun h => absurd hb17 h⟩,
                fun w' hx _ => OpT.pickF rfl hb17 rfl VS.ok,
                fun w' hx _ => OpT.move rfl VS.ok,
                fun w' hx _ => .inl ⟨_, rfl, fun h => absurd ((hb19).symm.trans h) (by decide), fun _ => VS.okn⟩,
                fun w' hx _ => .inl ⟨_, rfl, fun h => absurd ((hb19).symm.trans h) (by decide), fun _ => VS.okn⟩,
                fun w' hx _ => .inl ⟨_, rfl, fun h => absurd ((hb19).symm.trans h) (by decide), fun _ => VS.okn⟩,
                fun w' hx _ => .inl ⟨_, rfl, fun h => absurd ((hb19).symm.trans h) (by decide), fun _ => VS.okn⟩,
                fun w' hx _ => .inl ⟨_, rfl, fun h => absurd ((hb19).symm.trans h) (by decide), fun _ => VS.okn⟩,
                fun w' hx _ => .inl ⟨_, rfl, fun h => absurd ((hb19).symm.trans h) (by decide), fun _ => VS.okn⟩,
                fun w' hx _ => .inl ⟨_, rfl, fun h => absurd ((hb19).symm.trans h) (by decide), fun _ => VS.okn⟩,
                fun w' hx _ => .inl ⟨_, rfl, fun h => absurd ((hb19).symm.trans h) (by decide), fun _ => VS.okn⟩,
                fun w' hx _ => .inr ⟨rfl, VS.okn⟩,
                fun w' hx _ => .inr ⟨rfl, VS.okn⟩,
                fun w' hx _ => .inr ⟨rfl, VS.okn⟩,
                fun w' hx _ => .inr ⟨rfl, VS.okn⟩,
                fun w' hx _ => .inr ⟨rfl, VS.okn⟩,
                fun w' hx _ => .inl ⟨_, rfl, fun h => absurd ((hb19).symm.trans h) (by decide), fun _ => VS.okn⟩,
                fun w' hx _ => .inl ⟨_, rfl, fun h => absurd ((hb19).symm.trans h) (by decide), fun _ => VS.okn⟩,
                fun w' hx _ => .inr ⟨rfl, VS.okn⟩,
                fun w' hx _ => .inr ⟨rfl, VS.okn⟩,
                fun w' hx _ => .inr ⟨rfl, VS.okn⟩,
                fun w' hx _ => .inl ⟨_, rfl, fun h => absurd ((hb19).symm.trans h) (by decide), fun _ => VS.okn⟩,
                fun w' hx _ => OpT.pickT rfl hb19 rfl VS.ok,
                trivial⟩ ?_
              intro w20 x20
              exact ⟨⟨rfl, rfl, rfl, rfl, rfl, rfl, rfl, rfl, rfl, rfl, rfl, rfl, rfl, rfl, boolSlot (by first | exact L.okAt_t (by omega) | exact L.okAt_f (by omega) | exact L.okAt_last (by omega)) rfl, trivial⟩, x20⟩
            · have hp19 := of_decide_eq_false hb19
              rcases Bool.eq_false_or_eq_true (decide (l.c ≤ l.p s11)) with hb21 | hb21
              · have hp21 := of_decide_eq_true hb21
                rcases Bool.eq_false_or_eq_true (decide (0 ≤ l.p s11)) with hb22 | hb22
                · have hp22 := of_decide_eq_true hb22
                  refine W.draw (VS.ex _ :: VS.ex _ :: VS.ex _ :: VS.ex _ :: VS.ex _ :: VS.ex _ :: VS.ex _ :: VS.ex _ :: VS.ex _ :: VS.ex _ :: VS.ex _ :: VS.ex _ :: VS.ex _ :: VS.ex _ :: VS.ex _ :: VS.ex _ :: VS.ex _ :: VS.ex _ :: VS.ex _ :: VS.ex _ :: VS.ex _ :: VS.ex _ :: VS.ex _ :: VS.ex _ :: VS.ex _ :: VS.ex _ :: VS.ex _ :: VS.ex _ :: VS.ex _ :: VS.ex _ :: VS.ex _ :: VS.ex _ :: VS.ex _ :: []) mixed rfl rfl ⟨trivial, trivial, trivial, trivial, trivial, trivial, trivial, trivial, trivial, trivial, trivial, trivial, trivial, trivial, trivial, trivial, trivial, trivial, trivial, trivial, trivial, trivial, trivial, trivial, trivial, trivial, trivial, trivial, trivial, trivial, trivial, trivial, trivial, trivial⟩
                    ⟨fun w' hx _ => OpT.move rfl VS.ok,
                    fun w' hx _ => OpT.fieldAddrB (off := 1) Tryz.underlying69 rfl Tryz.sizeOf67 rfl rfl VS.ok,
                    fun w' hx _ => OpT.indexAddrArr Tryz.underlying67 Tryz.sizeOf3 rfl rfl (by omega) VS.ok,
                    fun w' hx _ => OpT.load Tryz.isAgg3 rfl (levp_cell (l := l) (i := s11) (b2.ext (x11.trans hx)) (by omega)) VS.ok,
                    fun w' hx _ => OpT.lss rfl rfl VS.ok,
                    fun w' hx _ => OpT.move rfl VS.ok,
                    fun w' hx _ => .inl ⟨_, rfl, fun _ => OpT.move rfl VS.ok, fun h => absurd hb17 h⟩,
                    fun w' hx _ => .inl ⟨_, rfl, fun _ => OpT.fieldAddrB (off := 1) Tryz.underlying69 rfl Tryz.sizeOf67 rfl rfl VS.ok, fun h => absurd hb17 h⟩,
                    fun w' hx _ => .inl ⟨_, rfl, fun _ => OpT.indexAddrArr Tryz.underlying67 Tryz.sizeOf3 rfl rfl (by omega) VS.ok, fun h => absurd hb17 h⟩,
                    fun w' hx _ => .inl ⟨_, rfl, fun _ => OpT.load Tryz.isAgg3 rfl (levp_cell (l := l) (i := s11) (b2.ext (x11.trans hx)) (by omega)) VS.ok, fun h => absurd hb17 h⟩,
                    fun w' hx _ => .inl ⟨_, rfl, fun _ => OpT.gtr rfl rfl VS.ok, fun h => absurd hb17 h⟩,
                    fun w' hx _ => OpT.pickF rfl hb17 rfl VS.ok,
                    fun w' hx _ => OpT.move rfl VS.ok,
                    fun w' hx _ => .inl ⟨_, rfl, fun _ => OpT.move rfl VS.ok, fun h => absurd hb19 h⟩,
                    fun w' hx _ => .inl ⟨_, rfl, fun _ => OpT.fieldAddrB (off := 1) Tryz.underlying69 rfl Tryz.sizeOf67 rfl rfl VS.ok, fun h => absurd hb19 h⟩,
                    fun w' hx _ => .inl ⟨_, rfl, fun _ => OpT.indexAddrArr Tryz.underlying67 Tryz.sizeOf3 rfl rfl (by omega) VS.ok, fun h => absurd hb19 h⟩,
                    fun w' hx _ => .inl ⟨_, rfl, fun _ => OpT.load Tryz.isAgg3 rfl (levp_cell (l := l) (i := s11) (b2.ext (x11.trans hx)) (by omega)) VS.ok, fun h => absurd hb19 h⟩,
                    fun w' hx _ => .inl ⟨_, rfl, fun _ => OpT.fieldAddrB (off := 0) Tryz.underlying69 rfl Tryz.sizeOf3 rfl rfl VS.ok, fun h => absurd hb19 h⟩,
                    fun w' hx _ => .inl ⟨_, rfl, fun _ => OpT.loadB Tryz.isAgg3 rfl (b2.ext (x11.trans hx)) rfl VS.ok, fun h => absurd hb19 h⟩,
                    fun w' hx _ => .inl ⟨_, rfl, fun _ => OpT.geq rfl rfl VS.ok, fun h => absurd hb19 h⟩,
                    fun w' hx _ => .inl ⟨_, rfl, fun _ => OpT.move rfl VS.ok, fun h => absurd hb19 h⟩,
                    fun w' hx _ => .inl ⟨_, rfl, fun _ => OpT.move rfl VS.ok, fun h => absurd hb21 h⟩,
                    fun w' hx _ => .inl ⟨_, rfl, fun _ => OpT.fieldAddrB (off := 1) Tryz.underlying69 rfl Tryz.sizeOf67 rfl rfl VS.ok, fun h => absurd hb21 h⟩,
                    fun w' hx _ => .inl ⟨_, rfl, fun _ => OpT.indexAddrArr Tryz.underlying67 Tryz.sizeOf3 rfl rfl (by omega) VS.ok, fun h => absurd hb21 h⟩,
                    fun w' hx _ => .inl ⟨_, rfl, fun _ => OpT.load Tryz.isAgg3 rfl (levp_cell (l := l) (i := s11) (b2.ext (x11.trans hx)) (by omega)) VS.ok, fun h => absurd hb21 h⟩,
                    fun w' hx _ => .inl ⟨_, rfl, fun _ => OpT.geq rfl rfl VS.ok, fun h => absurd hb21 h⟩,
                    fun w' hx _ => .inl ⟨_, rfl, fun _ => OpT.pickT rfl hb21 rfl VS.ok, fun h => absurd hb19 h⟩,
                    fun w' hx _ => .inl ⟨_, rfl, fun _ => OpT.move rfl VS.ok, fun h => absurd hb19 h⟩,
                    fun w' hx _ => .inl ⟨_, rfl, fun _ => OpT.fieldAddrB (off := 0) Tryz.underlying69 rfl Tryz.sizeOf3 rfl rfl VS.ok, fun h => absurd hb22 h⟩,
                    fun w' hx _ => .inl ⟨_, rfl, fun _ => OpT.loadB Tryz.isAgg3 rfl (b2.ext (x11.trans hx)) rfl VS.ok, fun h => absurd hb22 h⟩,
                    fun w' hx _ => .inl ⟨_, rfl, fun _ => OpT.gtr rfl rfl VS.ok, fun h => absurd hb22 h⟩,
                    fun w' hx _ => .inl ⟨_, rfl, fun _ => OpT.pickT rfl hb22 rfl VS.ok, fun h => absurd hb19 h⟩,
                    fun w' hx _ => OpT.pickF rfl hb19 rfl VS.ok,
                    trivial⟩ ?_
                  intro w23 x23
                  exact ⟨⟨rfl, rfl, rfl, rfl, rfl, rfl, rfl, rfl, rfl, rfl, rfl, rfl, rfl, rfl, boolSlot (by first | exact L.okAt_t (by omega) | exact L.okAt_f (by omega) | exact L.okAt_last (by omega)) rfl, trivial⟩, x23⟩
                · have hp22 := of_decide_eq_false hb22
                  refine W.draw (VS.ex _ :: VS.ex _ :: VS.ex _ :: VS.ex _ :: VS.ex _ :: VS.ex _ :: VS.ex _ :: VS.ex _ :: VS.ex _ :: VS.ex _ :: VS.ex _ :: VS.ex _ :: VS.ex _ :: VS.ex _ :: VS.ex _ :: VS.ex _ :: VS.ex _ :: VS.ex _ :: VS.ex _ :: VS.ex _ :: VS.ex _ :: VS.ex _ :: VS.ex _ :: VS.ex _ :: VS.ex _ :: VS.ex _ :: VS.ex _ :: VS.ex _ :: VS.ex undef :: VS.ex undef :: VS.ex undef :: VS.ex _ :: VS.ex _ :: []) mixed rfl rfl ⟨trivial, trivial, trivial, trivial, trivial, trivial, trivial, trivial, trivial, trivial, trivial, trivial, trivial, trivial, trivial, trivial, trivial, trivial, trivial, trivial, trivial, trivial, trivial, trivial, trivial, trivial, trivial, trivial, trivial, trivial, trivial, trivial, trivial, trivial⟩
                    ⟨fun w' hx _ => OpT.move rfl VS.ok,
                    fun w' hx _ => OpT.fieldAddrB (off := 1) Tryz.underlying69 rfl Tryz.sizeOf67 rfl rfl VS.ok,
                    fun w' hx _ => OpT.indexAddrArr Tryz.underlying67 Tryz.sizeOf3 rfl rfl (by omega) VS.ok,
                    fun w' hx _ => OpT.load Tryz.isAgg3 rfl (levp_cell (l := l) (i := s11) (b2.ext (x11.trans hx)) (by omega)) VS.ok,
                    fun w' hx _ => OpT.lss rfl rfl VS.ok,
                    fun w' hx _ => OpT.move rfl VS.ok,
                    fun w' hx _ => .inl ⟨_, rfl, fun _ => OpT.move rfl VS.ok, fun h => absurd hb17 h⟩,
                    fun w' hx _ => .inl ⟨_, rfl, fun _ => OpT.fieldAddrB (off := 1) Tryz.underlying69 rfl Tryz.sizeOf67 rfl rfl VS.ok, fun h => absurd hb17 h⟩,
                    fun w' hx _ => .inl ⟨_, rfl, fun _ => OpT.indexAddrArr Tryz.underlying67 Tryz.sizeOf3 rfl rfl (by omega) VS.ok, fun h => absurd hb17 h⟩,
                    fun w' hx _ => .inl ⟨_, rfl, fun _ => OpT.load Tryz.isAgg3 rfl (levp_cell (l := l) (i := s11) (b2.ext (x11.trans hx)) (by omega)) VS.ok, fun h => absurd hb17 h⟩,
                    fun w' hx _ => .inl ⟨_, rfl, fun _ => OpT.gtr rfl rfl VS.ok, fun h => absurd hb17 h⟩,
                    fun w' hx _ => OpT.pickF rfl hb17 rfl VS.ok,
                    fun w' hx _ => OpT.move rfl VS.ok,
                    fun w' hx _ => .inl ⟨_, rfl, fun _ => OpT.move rfl VS.ok, fun h => absurd hb19 h⟩,
                    fun w' hx _ => .inl ⟨_, rfl, fun _ => OpT.fieldAddrB (off := 1) Tryz.underlying69 rfl Tryz.sizeOf67 rfl rfl VS.ok, fun h => absurd hb19 h⟩,
                    fun w' hx _ => .inl ⟨_, rfl, fun _ => OpT.indexAddrArr Tryz.underlying67 Tryz.sizeOf3 rfl rfl (by omega) VS.ok, fun h => absurd hb19 h⟩,
                    fun w' hx _ => .inl ⟨_, rfl, fun _ => OpT.load Tryz.isAgg3 rfl (levp_cell (l := l) (i := s11) (b2.ext (x11.trans hx)) (by omega)) VS.ok, fun h => absurd hb19 h⟩,
                    fun w' hx _ => .inl ⟨_, rfl, fun _ => OpT.fieldAddrB (off := 0) Tryz.underlying69 rfl Tryz.sizeOf3 rfl rfl VS.ok, fun h => absurd hb19 h⟩,
                    fun w' hx _ => .inl ⟨_, rfl, fun _ => OpT.loadB Tryz.isAgg3 rfl (b2.ext (x11.trans hx)) rfl VS.ok, fun h => absurd hb19 h⟩,
                    fun w' hx _ => .inl ⟨_, rfl, fun _ => OpT.geq rfl rfl VS.ok, fun h => absurd hb19 h⟩,
                    fun w' hx _ => .inl ⟨_, rfl, fun _ => OpT.move rfl VS.ok, fun h => absurd hb19 h⟩,
                    fun w' hx _ => .inl ⟨_, rfl, fun _ => OpT.move rfl VS.ok, fun h => absurd hb21 h⟩,
                    fun w' hx _ => .inl ⟨_, rfl, fun _ => OpT.fieldAddrB (off := 1) Tryz.underlying69 rfl Tryz.sizeOf67 rfl rfl VS.ok, fun h => absurd hb21 h⟩,
                    fun w' hx _ => .inl ⟨_, rfl, fun _ => OpT.indexAddrArr Tryz.underlying67 Tryz.sizeOf3 rfl rfl (by omega) VS.ok, fun h => absurd hb21 h⟩,
                    fun w' hx _ => .inl ⟨_, rfl, fun _ => OpT.load Tryz.isAgg3 rfl (levp_cell (l := l) (i := s11) (b2.ext (x11.trans hx)) (by omega)) VS.ok, fun h => absurd hb21 h⟩,
                    fun w' hx _ => .inl ⟨_, rfl, fun _ => OpT.geq rfl rfl VS.ok, fun h => absurd hb21 h⟩,
                    fun w' hx _ => .inl ⟨_, rfl, fun _ => OpT.pickT rfl hb21 rfl VS.ok, fun h => absurd hb19 h⟩,
                    fun w' hx _ => .inl ⟨_, rfl, fun _ => OpT.move rfl VS.ok, fun h => absurd hb19 h⟩,
                    fun w' hx _ => .inl ⟨_, rfl, fun h => absurd ((hb22).symm.trans h) (by decide), fun _ => VS.okn⟩,
                    fun w' hx _ => .inl ⟨_, rfl, fun h => absurd ((hb22).symm.trans h) (by decide), fun _ => VS.okn⟩,
                    fun w' hx _ => .inl ⟨_, rfl, fun h => absurd ((hb22).symm.trans h) (by decide), fun _ => VS.okn⟩,
                    fun w' hx _ => .inl ⟨_, rfl, fun _ => OpT.pickF rfl hb22 rfl VS.ok, fun h => absurd hb19 h⟩,
                    fun w' hx _ => OpT.pickF rfl hb19 rfl VS.ok,
                    trivial⟩ ?_
                  intro w24 x24
                  exact ⟨⟨rfl, rfl, rfl, rfl, rfl, rfl, rfl, rfl, rfl, rfl, rfl, rfl, rfl, rfl, boolSlot (by first | exact L.okAt_t (by omega) | exact L.okAt_f (by omega) | exact L.okAt_last (by omega)) rfl, trivial⟩, x24⟩
              · have hp21 := of_decide_eq_false hb21
                refine W.draw (VS.ex _ :: VS.ex _ :: VS.ex _ :: VS.ex _ :: VS.ex _ :: VS.ex _ :: VS.ex _ :: VS.ex _ :: VS.ex _ :: VS.ex _ :: VS.ex _ :: VS.ex _ :: VS.ex _ :: VS.ex _ :: VS.ex _ :: VS.ex _ :: VS.ex _ :: VS.ex _ :: VS.ex _ :: VS.ex _ :: VS.ex _ :: VS.ex undef :: VS.ex undef :: VS.ex undef :: VS.ex undef :: VS.ex undef :: VS.ex _ :: VS.ex _ :: VS.ex undef :: VS.ex undef :: VS.ex undef :: VS.ex _ :: VS.ex _ :: []) mixed rfl rfl ⟨trivial, trivial, trivial, trivial, trivial, trivial, trivial, trivial, trivial, trivial, trivial, trivial, trivial, trivial, trivial, trivial, trivial, trivial, trivial, trivial, trivial, trivial, trivial, trivial, trivial, trivial, trivial, trivial, trivial, trivial, trivial, trivial, trivial, trivial⟩
                  ⟨fun w' hx _ => OpT.move rfl VS.ok,
                  fun w' hx _ => OpT.fieldAddrB (off := 1) Tryz.underlying69 rfl Tryz.sizeOf67 rfl rfl VS.ok,
                  fun w' hx _ => OpT.indexAddrArr Tryz.underlying67 Tryz.sizeOf3 rfl rfl (by omega) VS.ok,
                  fun w' hx _ => OpT.load Tryz.isAgg3 rfl (levp_cell (l := l) (i := s11) (b2.ext (x11.trans hx)) (by omega)) VS.ok,
                  fun w' hx _ => OpT.lss rfl rfl VS.ok,
                  fun w' hx _ => OpT.move rfl VS.ok,
                  fun w' hx _ => .inl ⟨_, rfl, fun _ => OpT.move rfl VS.ok, fun h => absurd hb17 h⟩,
                  fun w' hx _ => .inl ⟨_, rfl, fun _ => OpT.fieldAddrB (off := 1) Tryz.underlying69 rfl Tryz.sizeOf67 rfl rfl VS.ok, fun h => absurd hb17 h⟩,
                  fun w' hx _ => .inl ⟨_, rfl, fun _ => OpT.indexAddrArr Tryz.underlying67 Tryz.sizeOf3 rfl rfl (by omega) VS.ok, fun h => absurd hb17 h⟩,
                  fun w' hx _ => .inl ⟨_, rfl, fun _ => OpT.load Tryz.isAgg3 rfl (levp_cell (l := l) (i := s11) (b2.ext (x11.trans hx)) (by omega)) VS.ok, fun h => absurd hb17 h⟩,
                  fun w' hx _ => .inl ⟨_, rfl, fun _ => OpT.gtr rfl rfl VS.ok, fun h => absurd hb17 h⟩,
                  fun w' hx _ => OpT.pickF rfl hb17 rfl VS.ok,
                  fun w' hx _ => OpT.move rfl VS.ok,
                  fun w' hx _ => .inl ⟨_, rfl, fun _ => OpT.move rfl VS.ok, fun h => absurd hb19 h⟩,
                  fun w' hx _ => .inl ⟨_, rfl, fun _ => OpT.fieldAddrB (off := 1) Tryz.underlying69 rfl Tryz.sizeOf67 rfl rfl VS.ok, fun h => absurd hb19 h⟩,
                  fun w' hx _ => .inl ⟨_, rfl, fun _ => OpT.indexAddrArr Tryz.underlying67 Tryz.sizeOf3 rfl rfl (by omega) VS.ok, fun h => absurd hb19 h⟩,
                  fun w' hx _ => .inl ⟨_, rfl, fun _ => OpT.load Tryz.isAgg3 rfl (levp_cell (l := l) (i := s11) (b2.ext (x11.trans hx)) (by omega)) VS.ok, fun h => absurd hb19 h⟩,
                  fun w' hx _ => .inl ⟨_, rfl, fun _ => OpT.fieldAddrB (off := 0) Tryz.underlying69 rfl Tryz.sizeOf3 rfl rfl VS.ok, fun h => absurd hb19 h⟩,
                  fun w' hx _ => .inl ⟨_, rfl, fun _ => OpT.loadB Tryz.isAgg3 rfl (b2.ext (x11.trans hx)) rfl VS.ok, fun h => absurd hb19 h⟩,
                  fun w' hx _ => .inl ⟨_, rfl, fun _ => OpT.geq rfl rfl VS.ok, fun h => absurd hb19 h⟩,
                  fun w' hx _ => .inl ⟨_, rfl, fun _ => OpT.move rfl VS.ok, fun h => absurd hb19 h⟩,
                  fun w' hx _ => .inl ⟨_, rfl, fun h => absurd ((hb21).symm.trans h) (by decide), fun _ => VS.okn⟩,
                  fun w' hx _ => .inl ⟨_, rfl, fun h => absurd ((hb21).symm.trans h) (by decide), fun _ => VS.okn⟩,
                  fun w' hx _ => .inl ⟨_, rfl, fun h => absurd ((hb21).symm.trans h) (by decide), fun _ => VS.okn⟩,
                  fun w' hx _ => .inl ⟨_, rfl, fun h => absurd ((hb21).symm.trans h) (by decide), fun _ => VS.okn⟩,
                  fun w' hx _ => .inl ⟨_, rfl, fun h => absurd ((hb21).symm.trans h) (by decide), fun _ => VS.okn⟩,
                  fun w' hx _ => .inl ⟨_, rfl, fun _ => OpT.pickF rfl hb21 rfl VS.ok, fun h => absurd hb19 h⟩,
                  fun w' hx _ => .inl ⟨_, rfl, fun _ => OpT.move rfl VS.ok, fun h => absurd hb19 h⟩,
                  fun w' hx _ => .inl ⟨_, rfl, fun h => absurd ((rfl).symm.trans h) (by decide), fun _ => VS.okn⟩,
                  fun w' hx _ => .inl ⟨_, rfl, fun h => absurd ((rfl).symm.trans h) (by decide), fun _ => VS.okn⟩,
                  fun w' hx _ => .inl ⟨_, rfl, fun h => absurd ((rfl).symm.trans h) (by decide), fun _ => VS.okn⟩,
                  fun w' hx _ => .inl ⟨_, rfl, fun _ => OpT.pickF rfl rfl rfl VS.ok, fun h => absurd hb19 h⟩,
                  fun w' hx _ => OpT.pickF rfl hb19 rfl VS.ok,
                  trivial⟩ ?_
                intro w25 x25
                exact ⟨⟨rfl, rfl, rfl, rfl, rfl, rfl, rfl, rfl, rfl, rfl, rfl, rfl, rfl, rfl, boolSlot (by first | exact L.okAt_t (by omega) | exact L.okAt_f (by omega) | exact L.okAt_last (by omega)) rfl, trivial⟩, x25⟩
        · rintro en16 w16 ⟨hs16, x16⟩
          refine W.sub hs16 ?_
          rcases Bool.eq_false_or_eq_true (l.okAt s11) with hb26 | hb26
          · have hp26 := hb26
            refine W.condFb rfl (nT hb26) ?_
            refine W.skip ?_
            refine hK15 _ _ ?_
            refine W.region ?_
            refine Rg.od rfl rfl rfl (OpT.move rfl ?_)
            refine Rg.od rfl rfl rfl (OpT.add rfl rfl (by omega) ?_)
            refine Rg.od rfl rfl rfl (OpT.assign rfl ?_)
            refine Rg.nil ?_
            exact ⟨s11 + 1, ⟨⟨rfl, rfl, rfl, rfl, rfl, rfl, rfl, rfl, rfl, rfl, rfl, rfl, trivial⟩, (x11.trans x16), by omega, all_succ hi11_1 hb26⟩, by omega⟩
          · have hp26 := hb26
            refine W.condTb rfl (nF hb26) ?_
            refine W.seqK fun K27 hK27 => ?_
            refine W.region ?_
            refine Rg.od rfl rfl rfl (OpT.assign rfl ?_)
            refine Rg.nil ?_
            refine hK27 _ _ ?_
            refine W.ret ?_
            refine ⟨_, Res.one rfl rfl, ?_⟩
            exact ⟨congrArg Value.bool (L.may_noAt (i := s11) (by omega) hb26).symm, ((x2.trans x11).trans x16)⟩
      · have hp14 := of_decide_eq_false hb14
        refine W.condFb rfl hb14 ?_
        refine W.exit ?_
        refine hK9 _ _ ?_
        refine W.seqK fun K28 hK28 => ?_
        refine W.region ?_
        refine Rg.od rfl rfl rfl (OpT.assign rfl ?_)
        refine Rg.nil ?_
        refine hK28 _ _ ?_
        refine W.ret ?_
        refine ⟨_, Res.one rfl rfl, ?_⟩
        exact ⟨congrArg Value.bool (L.may_yes (by omega) (fun i hi => hi11_1 i (by omega))).symm, (x2.trans x11)⟩
set_option maxHeartbeats 1000000 in
set_option maxRecDepth 20000 in
theorem lmay_runs (l : L) (w0 : World) : Runs Tryz.prog 94 #[.agg l.cells.toArray] w0 fun v w' => v = .bool l.may ∧ Ext w0 w' := by
  refine Runs.of_W (vs := [_]) Tryz.func94 rfl rfl ?_
  refine W.seqK fun K1 hK1 => ?_
  refine W.region ?_
  refine Rg.od rfl rfl rfl (OpT.box rfl fun w2 g2 e2 x2 z2 b2 => ?_)
  replace b2 : Box w2 g2 [.int .i64 l.c, .int .i64 l.p0, .int .i64 l.p1, .int .i64 l.p2, .int .i64 l.p3] := b2
  refine Rg.od rfl rfl rfl (OpT.assign rfl ?_)
  refine Rg.nil ?_
  refine hK1 _ _ ?_
  refine W.seqK fun K3 hK3 => ?_
  refine W.seqK fun K4 hK4 => ?_
  refine W.region ?_
  refine Rg.od rfl rfl rfl (OpT.fieldAddrB (off := 0) Tryz.underlying69 rfl Tryz.sizeOf3 rfl rfl ?_)
  refine Rg.od rfl rfl rfl (OpT.loadB Tryz.isAgg3 rfl b2 rfl ?_)
  refine Rg.od rfl rfl rfl (OpT.lss rfl rfl ?_)
  refine Rg.od rfl rfl rfl (OpT.move rfl ?_)
  rcases Bool.eq_false_or_eq_true (decide (l.c < 0)) with hb5 | hb5
  · have hp5 := of_decide_eq_true hb5
    refine Rg.gn rfl rfl rfl rfl hb5 ?_
    refine Rg.gn rfl rfl rfl rfl hb5 ?_
    refine Rg.gn rfl rfl rfl rfl hb5 ?_
    refine Rg.od rfl rfl rfl (OpT.pickT rfl hb5 rfl ?_)
    refine Rg.nil ?_
    refine hK4 _ _ ?_
    refine W.condTb rfl rfl ?_
    refine W.seqK fun K6 hK6 => ?_
    refine W.region ?_
    refine Rg.od rfl rfl rfl (OpT.assign rfl ?_)
    refine Rg.nil ?_
    refine hK6 _ _ ?_
    refine W.ret ?_
    refine ⟨_, Res.one rfl rfl, ?_⟩
    exact ⟨congrArg Value.bool (L.may_no (by omega)).symm, x2⟩
  · have hp5 := of_decide_eq_false hb5
    refine Rg.gy rfl rfl rfl rfl hb5 (OpT.fieldAddrB (off := 0) Tryz.underlying69 rfl Tryz.sizeOf3 rfl rfl ?_)
    refine Rg.gy rfl rfl rfl rfl hb5 (OpT.loadB Tryz.isAgg3 rfl b2 rfl ?_)
    refine Rg.gy rfl rfl rfl rfl hb5 (OpT.gtr rfl rfl ?_)
    refine Rg.od rfl rfl rfl (OpT.pickF rfl hb5 rfl ?_)
    refine Rg.nil ?_
    refine hK4 _ _ ?_
    rcases Bool.eq_false_or_eq_true (decide (1099511627776 < l.c)) with hb7 | hb7
    · have hp7 := of_decide_eq_true hb7
      refine W.condTb rfl hb7 ?_
      refine W.seqK fun K8 hK8 => ?_
      refine W.region ?_
      refine Rg.od rfl rfl rfl (OpT.assign rfl ?_)
      refine Rg.nil ?_
      refine hK8 _ _ ?_
      refine W.ret ?_
      refine ⟨_, Res.one rfl rfl, ?_⟩
      exact ⟨congrArg Value.bool (L.may_no (by omega)).symm, x2⟩
    · have hp7 := of_decide_eq_false hb7
      refine W.condFb rfl hb7 ?_
      refine W.skip ?_
      refine hK3 _ _ ?_
      refine W.seqK fun K9 hK9 => ?_
      refine W.seqK fun K10 hK10 => ?_
      refine W.region ?_
      refine Rg.od rfl rfl rfl (OpT.fieldAddrB (off := 1) Tryz.underlying69 rfl Tryz.sizeOf67 rfl rfl ?_)
      refine Rg.od rfl rfl rfl (OpT.loadABo Tryz.isAgg67 Tryz.sizeOf67 rfl b2 (cs := [.int .i64 l.p0, .int .i64 l.p1, .int .i64 l.p2, .int .i64 l.p3]) rfl rfl ?_)
      refine Rg.od rfl rfl rfl (OpT.move rfl ?_)
      refine Rg.nil ?_
      refine hK10 _ _ ?_
      refine W.block ?_
      refine W.loop (σ := Nat) (fun q e w' => Sub [(0, .agg ([.int .i64 l.c, .int .i64 l.p0, .int .i64 l.p1, .int .i64 l.p2, .int .i64 l.p3].toArray)), (1, .pointer (some ⟨g2, 0, none⟩)), (2, .bool false), (5, .pointer (some ⟨g2, 0, none⟩)), (6, .int .i64 l.c), (7, .bool (decide (l.c < 0))), (8, .bool (decide (l.c < 0))), (9, .pointer (some ⟨g2, 0, none⟩)), (10, .int .i64 l.c), (11, .bool (decide (1099511627776 < l.c))), (12, .bool (decide (1099511627776 < l.c))), (13, .pointer (some ⟨g2, 1, none⟩)), (14, .agg ([.int .i64 l.p0, .int .i64 l.p1, .int .i64 l.p2, .int .i64 l.p3].toArray)), (15, .int .i64 ((q : Nat) : Int))] e ∧ Ext w2 w' ∧ q ≤ 4 ∧ ∀ i, i < q → -1 ≤ l.p i ∧ l.p i ≤ 1099511627776) (fun q => 4 - q) 0
        ⟨⟨rfl, rfl, rfl, rfl, rfl, rfl, rfl, rfl, rfl, rfl, rfl, rfl, rfl, rfl, trivial⟩, Mod.refl _ _, by omega, fun i hi => by omega⟩ ?_
      rintro s11 en11 w11 ⟨hs11, x11, hi11_0, hi11_1⟩
      refine W.sub hs11 ?_
      refine W.seqK fun K12 hK12 => ?_
      refine W.region ?_
      refine Rg.od rfl rfl rfl (OpT.lss rfl rfl ?_)
      refine Rg.nil ?_
      refine hK12 _ _ ?_
      refine W.seqK fun K13 hK13 => ?_
      rcases Bool.eq_false_or_eq_true (decide (((s11 : Nat) : Int) < 4)) with hb14 | hb14
      · have hp14 := of_decide_eq_true hb14
        refine W.condTb rfl hb14 ?_
        refine W.skip ?_
        refine hK13 _ _ ?_
        refine W.seqK fun K15 hK15 => ?_
        refine W.block ?_
        refine W.seqK fun K16 hK16 => ?_
        refine W.region ?_
        refine Rg.od rfl rfl rfl (OpT.indexArr Tryz.underlying67 Tryz.sizeOf3 Tryz.isAgg3 rfl rfl (by omega) (levp_arr (l := l) (i := s11) (by omega)) ?_)
        refine Rg.od rfl rfl rfl (OpT.assign rfl ?_)
        refine Rg.nil ?_
        refine hK16 _ _ ?_
        refine W.seqK fun K17 hK17 => ?_
        refine W.region ?_
        refine Rg.od rfl rfl rfl (OpT.move rfl ?_)
        refine Rg.od rfl rfl rfl (OpT.lss rfl rfl ?_)
        refine Rg.od rfl rfl rfl (OpT.move rfl ?_)
        rcases Bool.eq_false_or_eq_true (decide (l.p s11 < (-1))) with hb18 | hb18
        · have hp18 := of_decide_eq_true hb18
          refine Rg.gn rfl rfl rfl rfl hb18 ?_
          refine Rg.gn rfl rfl rfl rfl hb18 ?_
          refine Rg.od rfl rfl rfl (OpT.pickT rfl hb18 rfl ?_)
          refine Rg.nil ?_
          refine hK17 _ _ ?_
          refine W.condTb rfl rfl ?_
          refine W.seqK fun K19 hK19 => ?_
          refine W.region ?_
          refine Rg.od rfl rfl rfl (OpT.assign rfl ?_)
          refine Rg.nil ?_
          refine hK19 _ _ ?_
          refine W.ret ?_
          refine ⟨_, Res.one rfl rfl, ?_⟩
          exact ⟨congrArg Value.bool (L.may_noP (i := s11) (by omega) (by omega)).symm, (x2.trans x11)⟩
        · have hp18 := of_decide_eq_false hb18
          refine Rg.gy rfl rfl rfl rfl hb18 (OpT.move rfl ?_)
          refine Rg.gy rfl rfl rfl rfl hb18 (OpT.gtr rfl rfl ?_)
          refine Rg.od rfl rfl rfl (OpT.pickF rfl hb18 rfl ?_)
          refine Rg.nil ?_
          refine hK17 _ _ ?_
          rcases Bool.eq_false_or_eq_true (decide (1099511627776 < l.p s11)) with hb20 | hb20
          · have hp20 := of_decide_eq_true hb20
            refine W.condTb rfl hb20 ?_
            refine W.seqK fun K21 hK21 => ?_
            refine W.region ?_
            refine Rg.od rfl rfl rfl (OpT.assign rfl ?_)
            refine Rg.nil ?_
            refine hK21 _ _ ?_
            refine W.ret ?_
            refine ⟨_, Res.one rfl rfl, ?_⟩
            exact ⟨congrArg Value.bool (L.may_noP (i := s11) (by omega) (by omega)).symm, (x2.trans x11)⟩
          · have hp20 := of_decide_eq_false hb20
            refine W.condFb rfl hb20 ?_
            refine W.skip ?_
            refine hK15 _ _ ?_
            refine W.region ?_
            refine Rg.od rfl rfl rfl (OpT.add rfl rfl (by omega) ?_)
            refine Rg.od rfl rfl rfl (OpT.move rfl ?_)
            refine Rg.nil ?_
            exact ⟨s11 + 1, ⟨⟨rfl, rfl, rfl, rfl, rfl, rfl, rfl, rfl, rfl, rfl, rfl, rfl, rfl, rfl, trivial⟩, x11, by omega, all_succ hi11_1 (by omega)⟩, by omega⟩
      · have hp14 := of_decide_eq_false hb14
        refine W.condFb rfl hb14 ?_
        refine W.exit ?_
        refine hK9 _ _ ?_
        refine W.seqK fun K22 hK22 => ?_
        refine W.draw (VS.ex _ :: VS.ex _ :: VS.ex _ :: VS.ex _ :: VS.ex _ :: []) mixed rfl rfl ⟨trivial, trivial, trivial, trivial, trivial, trivial⟩
          ⟨fun w' hx _ => OpT.loadAB Tryz.isAgg69 Tryz.sizeOf69 rfl (b2.ext (x11.trans hx)) rfl VS.ok,
          fun w' hx _ => OpT.call Tryz.call116 (.cons rfl .nil) (Runs.mono (form_runs _ _) fun v w h => VS.okx h.1 h.2),
          fun w' hx _ => OpT.loadAB Tryz.isAgg69 Tryz.sizeOf69 rfl (b2.ext (x11.trans hx)) rfl VS.ok,
          fun w' hx _ => OpT.eqlL (a := (L.form l)) (b := l) rfl rfl VS.ok,
          fun w' hx _ => OpT.assign rfl VS.ok,
          trivial⟩ ?_
        intro w23 x23
        refine hK22 _ _ ?_
        refine W.ret ?_
        refine ⟨_, Res.one rfl rfl, ?_⟩
        exact ⟨congrArg Value.bool (L.may_form (by omega) (fun i hi => hi11_1 i (by omega))), ((x2.trans x11).trans x23)⟩
set_option maxHeartbeats 1000000 in
set_option maxRecDepth 20000 in
theorem node1_runs (l : L) (w0 : World) : Runs Tryz.prog 93 #[.agg l.cells.toArray] w0 fun v w' => v = .bool (!l.may) ∧ Ext w0 w' := by
  refine Runs.of_W (vs := [_]) Tryz.func93 rfl rfl ?_
  refine W.seqK fun K1 hK1 => ?_
  refine W.region ?_
  refine Rg.od rfl rfl rfl (OpT.box rfl fun w2 g2 e2 x2 z2 b2 => ?_)
  replace b2 : Box w2 g2 [.int .i64 l.c, .int .i64 l.p0, .int .i64 l.p1, .int .i64 l.p2, .int .i64 l.p3] := b2
  refine Rg.od rfl rfl rfl (OpT.assign rfl ?_)
  refine Rg.nil ?_
  refine hK1 _ _ ?_
  refine W.seqK fun K3 hK3 => ?_
  refine W.region ?_
  refine Rg.od rfl rfl rfl (OpT.loadAB Tryz.isAgg69 Tryz.sizeOf69 rfl b2 rfl ?_)
  refine Rg.od rfl rfl rfl (OpT.call Tryz.call94 (.cons rfl .nil) (Runs.mono (lmay_runs _ _) ?_))
  rintro _ w4 ⟨rfl, x4⟩
  refine Rg.od rfl rfl rfl (OpT.notB rfl ?_)
  refine Rg.od rfl rfl rfl (OpT.assign rfl ?_)
  refine Rg.nil ?_
  refine hK3 _ _ ?_
  refine W.ret ?_
  refine ⟨_, Res.one rfl rfl, ?_⟩
  exact ⟨rfl, (x2.trans x4)⟩
set_option maxHeartbeats 1000000 in
set_option maxRecDepth 20000 in
theorem indexL_runs (la : Option Addr) (lc : Nat) (ls : List L) (w0 : World) (R : Nat → Prop) (hL : SlL w0 R la ls) (hl : lenOk ls.length lc) :
    Runs Tryz.prog 115 #[.slice la ls.length lc, .func (.func 93) #[] #[]] w0 fun v w' => ∃ i : Int, v = .int .i64 i ∧ (0 ≤ i ↔ ls.all L.may = false) ∧ Ext w0 w' := by
  refine Runs.of_W (vs := [_, _]) Tryz.func115 rfl rfl ?_
  refine W.seqK fun K1 hK1 => ?_
  refine W.region ?_
  refine Rg.od rfl rfl rfl (OpT.assign rfl ?_)
  refine Rg.nil ?_
  refine hK1 _ _ ?_
  refine W.seqK fun K2 hK2 => ?_
  refine W.seqK fun K3 hK3 => ?_
  refine W.region ?_
  refine Rg.od rfl rfl rfl (OpT.move rfl ?_)
  refine Rg.od rfl rfl rfl (OpT.lenS Tryz.underlying24 rfl ?_)
  refine Rg.od rfl rfl rfl (OpT.move rfl ?_)
  refine Rg.nil ?_
  refine hK3 _ _ ?_
  refine W.block ?_
  refine W.loop (σ := Nat) (fun q e w' => Sub [(0, .slice la ls.length lc), (1, .func (.func 93) #[] #[]), (4, .int .i64 0), (6, .slice la ls.length lc), (7, .int .i64 ((ls.length : Nat) : Int)), (8, .int .i64 ((q : Nat) : Int))] e ∧ Ext w0 w' ∧ q ≤ ls.length ∧ ∀ i, i < q → ∀ l, ls[i]? = some l → l.may = true) (fun q => ls.length - q) 0
    ⟨⟨rfl, rfl, rfl, rfl, rfl, rfl, trivial⟩, Mod.refl _ _, Nat.zero_le _, fun i hi => by omega⟩ ?_
  rintro s4 en4 w4 ⟨hs4, x4, hi4_0, hi4_1⟩
  refine W.sub hs4 ?_
  refine W.seqK fun K5 hK5 => ?_
  refine W.region ?_
  refine Rg.od rfl rfl rfl (OpT.lss rfl rfl ?_)
  refine Rg.nil ?_
  refine hK5 _ _ ?_
  refine W.seqK fun K6 hK6 => ?_
  rcases Bool.eq_false_or_eq_true (decide (((s4 : Nat) : Int) < ((ls.length : Nat) : Int))) with hb7 | hb7
  · have hp7 := of_decide_eq_true hb7
    refine W.condTb rfl hb7 ?_
    refine W.skip ?_
    refine hK6 _ _ ?_
    refine W.seqK fun K8 hK8 => ?_
    refine W.block ?_
    refine W.seqK fun K9 hK9 => ?_
    refine W.region ?_
    refine Rg.od rfl rfl rfl (OpT.move rfl ?_)
    refine Rg.od rfl rfl rfl (OpT.assign rfl ?_)
    refine Rg.nil ?_
    refine hK9 _ _ ?_
    refine W.seqK fun K10 hK10 => ?_
    refine W.region ?_
    refine Rg.od rfl rfl rfl (OpT.move rfl ?_)
    refine Rg.od rfl rfl rfl (OpT.move rfl ?_)
    refine Rg.od rfl rfl rfl (OpT.move rfl ?_)
    obtain ⟨a11, ha11, hr11, hw11, hv11⟩ := hL.at (i := s4) (by first | omega | (unfold lenOk at *; omega))
    refine Rg.od rfl rfl rfl (OpT.indexAddr Tryz.underlying24 Tryz.sizeOf69 rfl rfl ha11 (by first | omega | (unfold lenOk at *; omega)) ?_)
    refine Rg.od rfl rfl rfl (OpT.loadA (cs := [.int .i64 (ls[s4].c), .int .i64 (ls[s4].p0), .int .i64 (ls[s4].p1), .int .i64 (ls[s4].p2), .int .i64 (ls[s4].p3)]) Tryz.isAgg69 Tryz.sizeOf69 rfl (hw11.ext x4) ?_)
    refine Rg.od rfl rfl rfl (OpT.callV Tryz.call93 rfl (.cons rfl .nil) (Runs.mono (node1_runs _ _) ?_))
    rintro _ w12 ⟨rfl, x12⟩
    refine Rg.nil ?_
    refine hK10 _ _ ?_
    rcases Bool.eq_false_or_eq_true ((ls[s4]).may) with hb13 | hb13
    · have hp13 := hb13
      refine W.condFb rfl (nT hb13) ?_
      refine W.skip ?_
      refine hK8 _ _ ?_
      refine W.region ?_
      refine Rg.od rfl rfl rfl (OpT.add rfl rfl (by first | omega | (unfold lenOk at *; omega)) ?_)
      refine Rg.od rfl rfl rfl (OpT.move rfl ?_)
      refine Rg.nil ?_
      exact ⟨s4 + 1, ⟨⟨rfl, rfl, rfl, rfl, rfl, rfl, trivial⟩, (x4.trans x12), by omega, all_succ hi4_1 (fun l hl => by rw [List.getElem?_eq_getElem (by omega)] at hl; cases hl; exact hb13)⟩, by omega⟩
    · have hp13 := hb13
      refine W.condTb rfl (nF hb13) ?_
      refine W.seqK fun K14 hK14 => ?_
      refine W.region ?_
      refine Rg.od rfl rfl rfl (OpT.move rfl ?_)
      refine Rg.od rfl rfl rfl (OpT.assign rfl ?_)
      refine Rg.nil ?_
      refine hK14 _ _ ?_
      refine W.ret ?_
      refine ⟨_, Res.one rfl rfl, ?_⟩
      exact ⟨_, rfl, ⟨fun _ => all_no (by omega) hb13, fun _ => by omega⟩, (x4.trans x12)⟩
  · have hp7 := of_decide_eq_false hb7
    refine W.condFb rfl hb7 ?_
    refine W.exit ?_
    refine hK2 _ _ ?_
    refine W.seqK fun K15 hK15 => ?_
    refine W.region ?_
    refine Rg.od rfl rfl rfl (OpT.assign rfl ?_)
    refine Rg.nil ?_
    refine hK15 _ _ ?_
    refine W.ret ?_
    refine ⟨_, Res.one rfl rfl, ?_⟩
    exact ⟨_, rfl, ⟨fun h => by omega, fun h => absurd (all_of_idx hi4_1 (by omega)) (by simp [h])⟩, x4⟩
set_option maxHeartbeats 1000000 in
set_option maxRecDepth 20000 in
theorem containsL_runs (la : Option Addr) (lc : Nat) (ls : List L) (w0 : World) (R : Nat → Prop) (hL : SlL w0 R la ls) (hl : lenOk ls.length lc) :
    Runs Tryz.prog 92 #[.slice la ls.length lc, .func (.func 93) #[] #[]] w0 fun v w' => v = .bool (!ls.all L.may) ∧ Ext w0 w' := by
  refine Runs.of_W (vs := [_, _]) Tryz.func92 rfl rfl ?_
  refine W.seqK fun K1 hK1 => ?_
  refine W.region ?_
  refine Rg.od rfl rfl rfl (OpT.assign rfl ?_)
  refine Rg.nil ?_
  refine hK1 _ _ ?_
  refine W.seqK fun K2 hK2 => ?_
  refine W.region ?_
  refine Rg.od rfl rfl rfl (OpT.move rfl ?_)
  refine Rg.od rfl rfl rfl (OpT.move rfl ?_)
  refine Rg.od rfl rfl rfl (OpT.call Tryz.call115 (.cons rfl (.cons rfl .nil)) (Runs.mono (indexL_runs _ _ _ _ _ hL hl) ?_))
  rintro _ w3 ⟨i3, rfl, hi3, x3⟩
  refine Rg.od rfl rfl rfl (OpT.geq rfl rfl ?_)
  refine Rg.od rfl rfl rfl (OpT.assign rfl ?_)
  refine Rg.nil ?_
  refine hK2 _ _ ?_
  refine W.ret ?_
  refine ⟨_, Res.one rfl rfl, ?_⟩
  exact ⟨congrArg Value.bool (by rw [Bool.eq_iff_iff, decide_eq_true_eq, hi3]; simp), x3⟩
set_option maxHeartbeats 1000000 in
set_option maxRecDepth 20000 in
theorem tname_runs (s : ByteArray) (hsz : s.size ≤ 9223372036854775807) (w0 : World) : Runs Tryz.prog 43 #[.string s] w0 fun v w' => v = .bool (nameB s) ∧ Ext w0 w' := by
  refine Runs.of_W (vs := [_]) Tryz.func43 rfl rfl ?_
  refine W.seqK fun K1 hK1 => ?_
  refine W.region ?_
  refine Rg.od rfl rfl rfl (OpT.assign rfl ?_)
  refine Rg.nil ?_
  refine hK1 _ _ ?_
  refine W.seqK fun K2 hK2 => ?_
  refine W.seqK fun K3 hK3 => ?_
  refine W.region ?_
  refine Rg.od rfl rfl rfl (OpT.move rfl ?_)
  refine Rg.od rfl rfl rfl (OpT.strBytes Tryz.underlying9 Tryz.underlying23 Tryz.underlying5 rfl (by first | assumption | omega) fun w4 g4 c4 e4 x4 z4 hs4 hc4 hd4 => ?_)
  refine Rg.od rfl rfl rfl (OpT.lenS Tryz.underlying23 rfl ?_)
  refine Rg.od rfl rfl rfl (OpT.move rfl ?_)
  refine Rg.nil ?_
  refine hK3 _ _ ?_
  refine W.block ?_
  refine W.loop (σ := Nat) (fun q e w' => Sub [(0, .string s), (2, .bool false), (5, .string s), (6, .slice (some ⟨g4, 0, none⟩) s.size c4), (7, .int .i64 ((s.size : Nat) : Int)), (8, .int .i64 ((q : Nat) : Int))] e ∧ Ext w4 w' ∧ q ≤ s.size ∧ nameTo s q = true) (fun q => s.size - q) 0
    ⟨⟨rfl, rfl, rfl, rfl, rfl, rfl, trivial⟩, Mod.refl _ _, Nat.zero_le _, rfl⟩ ?_
  rintro s5 en5 w5 ⟨hs5, x5, hi5_0, hi5_1⟩
  refine W.sub hs5 ?_
  refine W.seqK fun K6 hK6 => ?_
  refine W.region ?_
  refine Rg.od rfl rfl rfl (OpT.lss rfl rfl ?_)
  refine Rg.nil ?_
  refine hK6 _ _ ?_
  refine W.seqK fun K7 hK7 => ?_
  rcases Bool.eq_false_or_eq_true (decide (((s5 : Nat) : Int) < ((s.size : Nat) : Int))) with hb8 | hb8
  · have hp8 := of_decide_eq_true hb8
    refine W.condTb rfl hb8 ?_
    refine W.skip ?_
    refine hK7 _ _ ?_
    refine W.seqK fun K9 hK9 => ?_
    refine W.block ?_
    refine W.seqK fun K10 hK10 => ?_
    refine W.region ?_
    obtain ⟨a11, ha11, hw11⟩ := hs4 s5 (by omega)
    refine Rg.od rfl rfl rfl (OpT.indexAddr Tryz.underlying23 Tryz.sizeOf5 rfl rfl ha11 (by omega) ?_)
    refine Rg.od rfl rfl rfl (OpT.load Tryz.isAgg5 rfl (cell_mod x5 hw11 id) ?_)
    refine Rg.od rfl rfl rfl (OpT.assign rfl ?_)
    refine Rg.nil ?_
    refine hK10 _ _ ?_
    refine W.block ?_
    refine W.seqK fun K12 hK12 => ?_
    refine W.seqK fun K13 hK13 => ?_
    refine W.region ?_
    refine Rg.od rfl rfl rfl (OpT.move rfl ?_)
    refine Rg.od rfl rfl rfl (OpT.geq rfl rfl ?_)
    refine Rg.od rfl rfl rfl (OpT.move rfl ?_)
    rcases Bool.eq_false_or_eq_true (decide (97 ≤ ((s[s5]!.toNat : Nat) : Int))) with hb14 | hb14
    · have hp14 := of_decide_eq_true hb14
      refine Rg.gy rfl rfl rfl rfl hb14 (OpT.move rfl ?_)
      refine Rg.gy rfl rfl rfl rfl hb14 (OpT.leq rfl rfl ?_)
      refine Rg.od rfl rfl rfl (OpT.pickT rfl hb14 rfl ?_)
      refine Rg.od rfl rfl rfl (OpT.assign rfl ?_)
      refine Rg.nil ?_
      refine hK13 _ _ ?_
      rcases Bool.eq_false_or_eq_true (decide (((s[s5]!.toNat : Nat) : Int) ≤ 122)) with hb15 | hb15
      · have hp15 := of_decide_eq_true hb15
        refine W.condTb rfl hb15 ?_
        refine W.skip ?_
        refine hK12 _ _ ?_
        refine W.condTb rfl hb15 ?_
        refine W.skip ?_
        refine hK9 _ _ ?_
        refine W.region ?_
        refine Rg.od rfl rfl rfl (OpT.add rfl rfl (by omega) ?_)
        refine Rg.od rfl rfl rfl (OpT.move rfl ?_)
        refine Rg.nil ?_
        exact ⟨s5 + 1, ⟨⟨rfl, rfl, rfl, rfl, rfl, rfl, trivial⟩, x5, by omega, by rw [nameTo_succ s s5 (by omega), hi5_1, ← letterN_true (by omega)]; rfl⟩, by omega⟩
      · have hp15 := of_decide_eq_false hb15
        refine W.condFb rfl hb15 ?_
        refine W.region ?_
        refine Rg.od rfl rfl rfl (OpT.move rfl ?_)
        refine Rg.od rfl rfl rfl (OpT.geq rfl rfl ?_)
        refine Rg.od rfl rfl rfl (OpT.move rfl ?_)
        rcases Bool.eq_false_or_eq_true (decide (65 ≤ ((s[s5]!.toNat : Nat) : Int))) with hb16 | hb16
        · have hp16 := of_decide_eq_true hb16
          refine Rg.gy rfl rfl rfl rfl hb16 (OpT.move rfl ?_)
          refine Rg.gy rfl rfl rfl rfl hb16 (OpT.leq rfl rfl ?_)
          refine Rg.od rfl rfl rfl (OpT.pickT rfl hb16 rfl ?_)
          refine Rg.od rfl rfl rfl (OpT.assign rfl ?_)
          refine Rg.nil ?_
          refine hK12 _ _ ?_
          rcases Bool.eq_false_or_eq_true (decide (((s[s5]!.toNat : Nat) : Int) ≤ 90)) with hb17 | hb17
          · have hp17 := of_decide_eq_true hb17
            refine W.condTb rfl hb17 ?_
            refine W.skip ?_
            refine hK9 _ _ ?_
            refine W.region ?_
            refine Rg.od rfl rfl rfl (OpT.add rfl rfl (by omega) ?_)
            refine Rg.od rfl rfl rfl (OpT.move rfl ?_)
            refine Rg.nil ?_
            exact ⟨s5 + 1, ⟨⟨rfl, rfl, rfl, rfl, rfl, rfl, trivial⟩, x5, by omega, by rw [nameTo_succ s s5 (by omega), hi5_1, ← letterN_true (by omega)]; rfl⟩, by omega⟩
          · have hp17 := of_decide_eq_false hb17
            refine W.condFb rfl hb17 ?_
            refine W.seqK fun K18 hK18 => ?_
            refine W.seqK fun K19 hK19 => ?_
            refine W.region ?_
            refine Rg.od rfl rfl rfl (OpT.move rfl ?_)
            refine Rg.od rfl rfl rfl (OpT.geq rfl rfl ?_)
            refine Rg.od rfl rfl rfl (OpT.move rfl ?_)
            rcases Bool.eq_false_or_eq_true (decide (48 ≤ ((s[s5]!.toNat : Nat) : Int))) with hb20 | hb20
            · have hp20 := of_decide_eq_true hb20
              refine Rg.gy rfl rfl rfl rfl hb20 (OpT.move rfl ?_)
              refine Rg.gy rfl rfl rfl rfl hb20 (OpT.leq rfl rfl ?_)
              refine Rg.od rfl rfl rfl (OpT.pickT rfl hb20 rfl ?_)
              refine Rg.od rfl rfl rfl (OpT.assign rfl ?_)
              refine Rg.nil ?_
              refine hK19 _ _ ?_
              rcases Bool.eq_false_or_eq_true (decide (((s[s5]!.toNat : Nat) : Int) ≤ 57)) with hb21 | hb21
              · have hp21 := of_decide_eq_true hb21
                refine W.condTb rfl hb21 ?_
                refine W.skip ?_
                refine hK18 _ _ ?_
                refine W.condTb rfl hb21 ?_
                refine W.skip ?_
                refine hK9 _ _ ?_
                refine W.region ?_
                refine Rg.od rfl rfl rfl (OpT.add rfl rfl (by omega) ?_)
                refine Rg.od rfl rfl rfl (OpT.move rfl ?_)
                refine Rg.nil ?_
                exact ⟨s5 + 1, ⟨⟨rfl, rfl, rfl, rfl, rfl, rfl, trivial⟩, x5, by omega, by rw [nameTo_succ s s5 (by omega), hi5_1, ← letterN_true (by omega)]; rfl⟩, by omega⟩
              · have hp21 := of_decide_eq_false hb21
                refine W.condFb rfl hb21 ?_
                refine W.seqK fun K22 hK22 => ?_
                refine W.region ?_
                refine Rg.od rfl rfl rfl (OpT.move rfl ?_)
                refine Rg.od rfl rfl rfl (OpT.eqlI rfl rfl ?_)
                refine Rg.od rfl rfl rfl (OpT.assign rfl ?_)
                refine Rg.nil ?_
                refine hK22 _ _ ?_
                rcases Bool.eq_false_or_eq_true (decide (((s[s5]!.toNat : Nat) : Int) = 95)) with hb23 | hb23
                · have hp23 := of_decide_eq_true hb23
                  refine W.condTb rfl hb23 ?_
                  refine W.skip ?_
                  refine hK18 _ _ ?_
                  refine W.condTb rfl hb23 ?_
                  refine W.skip ?_
                  refine hK9 _ _ ?_
                  refine W.region ?_
                  refine Rg.od rfl rfl rfl (OpT.add rfl rfl (by omega) ?_)
                  refine Rg.od rfl rfl rfl (OpT.move rfl ?_)
                  refine Rg.nil ?_
                  exact ⟨s5 + 1, ⟨⟨rfl, rfl, rfl, rfl, rfl, rfl, trivial⟩, x5, by omega, by rw [nameTo_succ s s5 (by omega), hi5_1, ← letterN_true (by omega)]; rfl⟩, by omega⟩
                · have hp23 := of_decide_eq_false hb23
                  refine W.condFb rfl hb23 ?_
                  refine W.seqK fun K24 hK24 => ?_
                  refine W.region ?_
                  refine Rg.od rfl rfl rfl (OpT.move rfl ?_)
                  refine Rg.od rfl rfl rfl (OpT.eqlI rfl rfl ?_)
                  refine Rg.od rfl rfl rfl (OpT.assign rfl ?_)
                  refine Rg.nil ?_
                  refine hK24 _ _ ?_
                  rcases Bool.eq_false_or_eq_true (decide (((s[s5]!.toNat : Nat) : Int) = 46)) with hb25 | hb25
                  · have hp25 := of_decide_eq_true hb25
                    refine W.condTb rfl hb25 ?_
                    refine W.skip ?_
                    refine hK18 _ _ ?_
                    refine W.condTb rfl hb25 ?_
                    refine W.skip ?_
                    refine hK9 _ _ ?_
                    refine W.region ?_
                    refine Rg.od rfl rfl rfl (OpT.add rfl rfl (by omega) ?_)
                    refine Rg.od rfl rfl rfl (OpT.move rfl ?_)
                    refine Rg.nil ?_
                    exact ⟨s5 + 1, ⟨⟨rfl, rfl, rfl, rfl, rfl, rfl, trivial⟩, x5, by omega, by rw [nameTo_succ s s5 (by omega), hi5_1, ← letterN_true (by omega)]; rfl⟩, by omega⟩
                  · have hp25 := of_decide_eq_false hb25
                    refine W.condFb rfl hb25 ?_
                    refine W.region ?_
                    refine Rg.od rfl rfl rfl (OpT.move rfl ?_)
                    refine Rg.od rfl rfl rfl (OpT.eqlI rfl rfl ?_)
                    refine Rg.od rfl rfl rfl (OpT.assign rfl ?_)
                    refine Rg.nil ?_
                    refine hK18 _ _ ?_
                    rcases Bool.eq_false_or_eq_true (decide (((s[s5]!.toNat : Nat) : Int) = 39)) with hb26 | hb26
                    · have hp26 := of_decide_eq_true hb26
                      refine W.condTb rfl hb26 ?_
                      refine W.skip ?_
                      refine hK9 _ _ ?_
                      refine W.region ?_
                      refine Rg.od rfl rfl rfl (OpT.add rfl rfl (by omega) ?_)
                      refine Rg.od rfl rfl rfl (OpT.move rfl ?_)
                      refine Rg.nil ?_
                      exact ⟨s5 + 1, ⟨⟨rfl, rfl, rfl, rfl, rfl, rfl, trivial⟩, x5, by omega, by rw [nameTo_succ s s5 (by omega), hi5_1, ← letterN_true (by omega)]; rfl⟩, by omega⟩
                    · have hp26 := of_decide_eq_false hb26
                      refine W.condFb rfl hb26 ?_
                      refine W.seqK fun K27 hK27 => ?_
                      refine W.region ?_
                      refine Rg.od rfl rfl rfl (OpT.assign rfl ?_)
                      refine Rg.nil ?_
                      refine hK27 _ _ ?_
                      refine W.ret ?_
                      refine ⟨_, Res.one rfl rfl, ?_⟩
                      exact ⟨congrArg Value.bool (nameB_no s s5 (by omega) (letterN_false (by omega)).symm).symm, (x4.trans x5)⟩
            · have hp20 := of_decide_eq_false hb20
              refine Rg.gn rfl rfl rfl rfl hb20 ?_
              refine Rg.gn rfl rfl rfl rfl hb20 ?_
              refine Rg.od rfl rfl rfl (OpT.pickF rfl hb20 rfl ?_)
              refine Rg.od rfl rfl rfl (OpT.assign rfl ?_)
              refine Rg.nil ?_
              refine hK19 _ _ ?_
              refine W.condFb rfl rfl ?_
              refine W.seqK fun K28 hK28 => ?_
              refine W.region ?_
              refine Rg.od rfl rfl rfl (OpT.move rfl ?_)
              refine Rg.od rfl rfl rfl (OpT.eqlI rfl rfl ?_)
              refine Rg.od rfl rfl rfl (OpT.assign rfl ?_)
              refine Rg.nil ?_
              refine hK28 _ _ ?_
              rcases Bool.eq_false_or_eq_true (decide (((s[s5]!.toNat : Nat) : Int) = 95)) with hb29 | hb29
              · have hp29 := of_decide_eq_true hb29
                refine W.condTb rfl hb29 ?_
                refine W.skip ?_
                refine hK18 _ _ ?_
                refine W.condTb rfl hb29 ?_
                refine W.skip ?_
                refine hK9 _ _ ?_
                refine W.region ?_
                refine Rg.od rfl rfl rfl (OpT.add rfl rfl (by omega) ?_)
                refine Rg.od rfl rfl rfl (OpT.move rfl ?_)
                refine Rg.nil ?_
                exact ⟨s5 + 1, ⟨⟨rfl, rfl, rfl, rfl, rfl, rfl, trivial⟩, x5, by omega, by rw [nameTo_succ s s5 (by omega), hi5_1, ← letterN_true (by omega)]; rfl⟩, by omega⟩
              · have hp29 := of_decide_eq_false hb29
                refine W.condFb rfl hb29 ?_
                refine W.seqK fun K30 hK30 => ?_
                refine W.region ?_
                refine Rg.od rfl rfl rfl (OpT.move rfl ?_)
                refine Rg.od rfl rfl rfl (OpT.eqlI rfl rfl ?_)
                refine Rg.od rfl rfl rfl (OpT.assign rfl ?_)
                refine Rg.nil ?_
                refine hK30 _ _ ?_
                rcases Bool.eq_false_or_eq_true (decide (((s[s5]!.toNat : Nat) : Int) = 46)) with hb31 | hb31
                · have hp31 := of_decide_eq_true hb31
                  refine W.condTb rfl hb31 ?_
                  refine W.skip ?_
                  refine hK18 _ _ ?_
                  refine W.condTb rfl hb31 ?_
                  refine W.skip ?_
                  refine hK9 _ _ ?_
                  refine W.region ?_
                  refine Rg.od rfl rfl rfl (OpT.add rfl rfl (by omega) ?_)
                  refine Rg.od rfl rfl rfl (OpT.move rfl ?_)
                  refine Rg.nil ?_
                  exact ⟨s5 + 1, ⟨⟨rfl, rfl, rfl, rfl, rfl, rfl, trivial⟩, x5, by omega, by rw [nameTo_succ s s5 (by omega), hi5_1, ← letterN_true (by omega)]; rfl⟩, by omega⟩
                · have hp31 := of_decide_eq_false hb31
                  refine W.condFb rfl hb31 ?_
                  refine W.region ?_
                  refine Rg.od rfl rfl rfl (OpT.move rfl ?_)
                  refine Rg.od rfl rfl rfl (OpT.eqlI rfl rfl ?_)
                  refine Rg.od rfl rfl rfl (OpT.assign rfl ?_)
                  refine Rg.nil ?_
                  refine hK18 _ _ ?_
                  rcases Bool.eq_false_or_eq_true (decide (((s[s5]!.toNat : Nat) : Int) = 39)) with hb32 | hb32
                  · have hp32 := of_decide_eq_true hb32
                    refine W.condTb rfl hb32 ?_
                    refine W.skip ?_
                    refine hK9 _ _ ?_
                    refine W.region ?_
                    refine Rg.od rfl rfl rfl (OpT.add rfl rfl (by omega) ?_)
                    refine Rg.od rfl rfl rfl (OpT.move rfl ?_)
                    refine Rg.nil ?_
                    exact ⟨s5 + 1, ⟨⟨rfl, rfl, rfl, rfl, rfl, rfl, trivial⟩, x5, by omega, by rw [nameTo_succ s s5 (by omega), hi5_1, ← letterN_true (by omega)]; rfl⟩, by omega⟩
                  · have hp32 := of_decide_eq_false hb32
                    refine W.condFb rfl hb32 ?_
                    refine W.seqK fun K33 hK33 => ?_
                    refine W.region ?_
                    refine Rg.od rfl rfl rfl (OpT.assign rfl ?_)
                    refine Rg.nil ?_
                    refine hK33 _ _ ?_
                    refine W.ret ?_
                    refine ⟨_, Res.one rfl rfl, ?_⟩
                    exact ⟨congrArg Value.bool (nameB_no s s5 (by omega) (letterN_false (by omega)).symm).symm, (x4.trans x5)⟩
        · have hp16 := of_decide_eq_false hb16
          refine Rg.gn rfl rfl rfl rfl hb16 ?_
          refine Rg.gn rfl rfl rfl rfl hb16 ?_
          refine Rg.od rfl rfl rfl (OpT.pickF rfl hb16 rfl ?_)
          refine Rg.od rfl rfl rfl (OpT.assign rfl ?_)
          refine Rg.nil ?_
          refine hK12 _ _ ?_
          refine W.condFb rfl rfl ?_
          refine W.seqK fun K34 hK34 => ?_
          refine W.seqK fun K35 hK35 => ?_
          refine W.region ?_
          refine Rg.od rfl rfl rfl (OpT.move rfl ?_)
          refine Rg.od rfl rfl rfl (OpT.geq rfl rfl ?_)
          refine Rg.od rfl rfl rfl (OpT.move rfl ?_)
          rcases Bool.eq_false_or_eq_true (decide (48 ≤ ((s[s5]!.toNat : Nat) : Int))) with hb36 | hb36
          · have hp36 := of_decide_eq_true hb36
            refine Rg.gy rfl rfl rfl rfl hb36 (OpT.move rfl ?_)
            refine Rg.gy rfl rfl rfl rfl hb36 (OpT.leq rfl rfl ?_)
            refine Rg.od rfl rfl rfl (OpT.pickT rfl hb36 rfl ?_)
            refine Rg.od rfl rfl rfl (OpT.assign rfl ?_)
            refine Rg.nil ?_
            refine hK35 _ _ ?_
            rcases Bool.eq_false_or_eq_true (decide (((s[s5]!.toNat : Nat) : Int) ≤ 57)) with hb37 | hb37
            · have hp37 := of_decide_eq_true hb37
              refine W.condTb rfl hb37 ?_
              refine W.skip ?_
              refine hK34 _ _ ?_
              refine W.condTb rfl hb37 ?_
              refine W.skip ?_
              refine hK9 _ _ ?_
              refine W.region ?_
              refine Rg.od rfl rfl rfl (OpT.add rfl rfl (by omega) ?_)
              refine Rg.od rfl rfl rfl (OpT.move rfl ?_)
              refine Rg.nil ?_
              exact ⟨s5 + 1, ⟨⟨rfl, rfl, rfl, rfl, rfl, rfl, trivial⟩, x5, by omega, by rw [nameTo_succ s s5 (by omega), hi5_1, ← letterN_true (by omega)]; rfl⟩, by omega⟩
            · have hp37 := of_decide_eq_false hb37
              refine W.condFb rfl hb37 ?_
              refine W.seqK fun K38 hK38 => ?_
              refine W.region ?_
              refine Rg.od rfl rfl rfl (OpT.move rfl ?_)
              refine Rg.od rfl rfl rfl (OpT.eqlI rfl rfl ?_)
              refine Rg.od rfl rfl rfl (OpT.assign rfl ?_)
              refine Rg.nil ?_
              refine hK38 _ _ ?_
              rcases Bool.eq_false_or_eq_true (decide (((s[s5]!.toNat : Nat) : Int) = 95)) with hb39 | hb39
              · have hp39 := of_decide_eq_true hb39
                refine W.condTb rfl hb39 ?_
                refine W.skip ?_
                refine hK34 _ _ ?_
                refine W.condTb rfl hb39 ?_
                refine W.skip ?_
                refine hK9 _ _ ?_
                refine W.region ?_
                refine Rg.od rfl rfl rfl (OpT.add rfl rfl (by omega) ?_)
                refine Rg.od rfl rfl rfl (OpT.move rfl ?_)
                refine Rg.nil ?_
                exact ⟨s5 + 1, ⟨⟨rfl, rfl, rfl, rfl, rfl, rfl, trivial⟩, x5, by omega, by rw [nameTo_succ s s5 (by omega), hi5_1, ← letterN_true (by omega)]; rfl⟩, by omega⟩
              · have hp39 := of_decide_eq_false hb39
                refine W.condFb rfl hb39 ?_
                refine W.seqK fun K40 hK40 => ?_
                refine W.region ?_
                refine Rg.od rfl rfl rfl (OpT.move rfl ?_)
                refine Rg.od rfl rfl rfl (OpT.eqlI rfl rfl ?_)
                refine Rg.od rfl rfl rfl (OpT.assign rfl ?_)
                refine Rg.nil ?_
                refine hK40 _ _ ?_
                rcases Bool.eq_false_or_eq_true (decide (((s[s5]!.toNat : Nat) : Int) = 46)) with hb41 | hb41
                · have hp41 := of_decide_eq_true hb41
                  refine W.condTb rfl hb41 ?_
                  refine W.skip ?_
                  refine hK34 _ _ ?_
                  refine W.condTb rfl hb41 ?_
                  refine W.skip ?_
                  refine hK9 _ _ ?_
                  refine W.region ?_
                  refine Rg.od rfl rfl rfl (OpT.add rfl rfl (by omega) ?_)
                  refine Rg.od rfl rfl rfl (OpT.move rfl ?_)
                  refine Rg.nil ?_
                  exact ⟨s5 + 1, ⟨⟨rfl, rfl, rfl, rfl, rfl, rfl, trivial⟩, x5, by omega, by rw [nameTo_succ s s5 (by omega), hi5_1, ← letterN_true (by omega)]; rfl⟩, by omega⟩
                · have hp41 := of_decide_eq_false hb41
                  refine W.condFb rfl hb41 ?_
                  refine W.region ?_
                  refine Rg.od rfl rfl rfl (OpT.move rfl ?_)
                  refine Rg.od rfl rfl rfl (OpT.eqlI rfl rfl ?_)
                  refine Rg.od rfl rfl rfl (OpT.assign rfl ?_)
                  refine Rg.nil ?_
                  refine hK34 _ _ ?_
                  rcases Bool.eq_false_or_eq_true (decide (((s[s5]!.toNat : Nat) : Int) = 39)) with hb42 | hb42
                  · have hp42 := of_decide_eq_true hb42
                    refine W.condTb rfl hb42 ?_
                    refine W.skip ?_
                    refine hK9 _ _ ?_
                    refine W.region ?_
                    refine Rg.od rfl rfl rfl (OpT.add rfl rfl (by omega) ?_)
                    refine Rg.od rfl rfl rfl (OpT.move rfl ?_)
                    refine Rg.nil ?_
                    exact ⟨s5 + 1, ⟨⟨rfl, rfl, rfl, rfl, rfl, rfl, trivial⟩, x5, by omega, by rw [nameTo_succ s s5 (by omega), hi5_1, ← letterN_true (by omega)]; rfl⟩, by omega⟩
                  · have hp42 := of_decide_eq_false hb42
                    refine W.condFb rfl hb42 ?_
                    refine W.seqK fun K43 hK43 => ?_
                    refine W.region ?_
                    refine Rg.od rfl rfl rfl (OpT.assign rfl ?_)
                    refine Rg.nil ?_
                    refine hK43 _ _ ?_
                    refine W.ret ?_
                    refine ⟨_, Res.one rfl rfl, ?_⟩
                    exact ⟨congrArg Value.bool (nameB_no s s5 (by omega) (letterN_false (by omega)).symm).symm, (x4.trans x5)⟩
          · have hp36 := of_decide_eq_false hb36
            refine Rg.gn rfl rfl rfl rfl hb36 ?_
            refine Rg.gn rfl rfl rfl rfl hb36 ?_
            refine Rg.od rfl rfl rfl (OpT.pickF rfl hb36 rfl ?_)
            refine Rg.od rfl rfl rfl (OpT.assign rfl ?_)
            refine Rg.nil ?_
            refine hK35 _ _ ?_
            refine W.condFb rfl rfl ?_
            refine W.seqK fun K44 hK44 => ?_
            refine W.region ?_
            refine Rg.od rfl rfl rfl (OpT.move rfl ?_)
            refine Rg.od rfl rfl rfl (OpT.eqlI rfl rfl ?_)
            refine Rg.od rfl rfl rfl (OpT.assign rfl ?_)
            refine Rg.nil ?_
            refine hK44 _ _ ?_
            rcases Bool.eq_false_or_eq_true (decide (((s[s5]!.toNat : Nat) : Int) = 95)) with hb45 | hb45
            · have hp45 := of_decide_eq_true hb45
              refine W.condTb rfl hb45 ?_
              refine W.skip ?_
              refine hK34 _ _ ?_
              refine W.condTb rfl hb45 ?_
              refine W.skip ?_
              refine hK9 _ _ ?_
              refine W.region ?_
              refine Rg.od rfl rfl rfl (OpT.add rfl rfl (by omega) ?_)
              refine Rg.od rfl rfl rfl (OpT.move rfl ?_)
              refine Rg.nil ?_
              exact ⟨s5 + 1, ⟨⟨rfl, rfl, rfl, rfl, rfl, rfl, trivial⟩, x5, by omega, by rw [nameTo_succ s s5 (by omega), hi5_1, ← letterN_true (by omega)]; rfl⟩, by omega⟩
            · have hp45 := of_decide_eq_false hb45
              refine W.condFb rfl hb45 ?_
              refine W.seqK fun K46 hK46 => ?_
              refine W.region ?_
              refine Rg.od rfl rfl rfl (OpT.move rfl ?_)
              refine Rg.od rfl rfl rfl (OpT.eqlI rfl rfl ?_)
              refine Rg.od rfl rfl rfl (OpT.assign rfl ?_)
              refine Rg.nil ?_
              refine hK46 _ _ ?_
              rcases Bool.eq_false_or_eq_true (decide (((s[s5]!.toNat : Nat) : Int) = 46)) with hb47 | hb47
              · have hp47 := of_decide_eq_true hb47
                refine W.condTb rfl hb47 ?_
                refine W.skip ?_
                refine hK34 _ _ ?_
                refine W.condTb rfl hb47 ?_
                refine W.skip ?_
                refine hK9 _ _ ?_
                refine W.region ?_
                refine Rg.od rfl rfl rfl (OpT.add rfl rfl (by omega) ?_)
                refine Rg.od rfl rfl rfl (OpT.move rfl ?_)
                refine Rg.nil ?_
                exact ⟨s5 + 1, ⟨⟨rfl, rfl, rfl, rfl, rfl, rfl, trivial⟩, x5, by omega, by rw [nameTo_succ s s5 (by omega), hi5_1, ← letterN_true (by omega)]; rfl⟩, by omega⟩
              · have hp47 := of_decide_eq_false hb47
                refine W.condFb rfl hb47 ?_
                refine W.region ?_
                refine Rg.od rfl rfl rfl (OpT.move rfl ?_)
                refine Rg.od rfl rfl rfl (OpT.eqlI rfl rfl ?_)
                refine Rg.od rfl rfl rfl (OpT.assign rfl ?_)
                refine Rg.nil ?_
                refine hK34 _ _ ?_
                rcases Bool.eq_false_or_eq_true (decide (((s[s5]!.toNat : Nat) : Int) = 39)) with hb48 | hb48
                · have hp48 := of_decide_eq_true hb48
                  refine W.condTb rfl hb48 ?_
                  refine W.skip ?_
                  refine hK9 _ _ ?_
                  refine W.region ?_
                  refine Rg.od rfl rfl rfl (OpT.add rfl rfl (by omega) ?_)
                  refine Rg.od rfl rfl rfl (OpT.move rfl ?_)
                  refine Rg.nil ?_
                  exact ⟨s5 + 1, ⟨⟨rfl, rfl, rfl, rfl, rfl, rfl, trivial⟩, x5, by omega, by rw [nameTo_succ s s5 (by omega), hi5_1, ← letterN_true (by omega)]; rfl⟩, by omega⟩
                · have hp48 := of_decide_eq_false hb48
                  refine W.condFb rfl hb48 ?_
                  refine W.seqK fun K49 hK49 => ?_
                  refine W.region ?_
                  refine Rg.od rfl rfl rfl (OpT.assign rfl ?_)
                  refine Rg.nil ?_
                  refine hK49 _ _ ?_
                  refine W.ret ?_
                  refine ⟨_, Res.one rfl rfl, ?_⟩
                  exact ⟨congrArg Value.bool (nameB_no s s5 (by omega) (letterN_false (by omega)).symm).symm, (x4.trans x5)⟩
    · have hp14 := of_decide_eq_false hb14
      refine Rg.gn rfl rfl rfl rfl hb14 ?_
      refine Rg.gn rfl rfl rfl rfl hb14 ?_
      refine Rg.od rfl rfl rfl (OpT.pickF rfl hb14 rfl ?_)
      refine Rg.od rfl rfl rfl (OpT.assign rfl ?_)
      refine Rg.nil ?_
      refine hK13 _ _ ?_
      refine W.condFb rfl rfl ?_
      refine W.region ?_
      refine Rg.od rfl rfl rfl (OpT.move rfl ?_)
      refine Rg.od rfl rfl rfl (OpT.geq rfl rfl ?_)
      refine Rg.od rfl rfl rfl (OpT.move rfl ?_)
      rcases Bool.eq_false_or_eq_true (decide (65 ≤ ((s[s5]!.toNat : Nat) : Int))) with hb50 | hb50
      · have hp50 := of_decide_eq_true hb50
        refine Rg.gy rfl rfl rfl rfl hb50 (OpT.move rfl ?_)
        refine Rg.gy rfl rfl rfl rfl hb50 (OpT.leq rfl rfl ?_)
        refine Rg.od rfl rfl rfl (OpT.pickT rfl hb50 rfl ?_)
        refine Rg.od rfl rfl rfl (OpT.assign rfl ?_)
        refine Rg.nil ?_
        refine hK12 _ _ ?_
        rcases Bool.eq_false_or_eq_true (decide (((s[s5]!.toNat : Nat) : Int) ≤ 90)) with hb51 | hb51
        · have hp51 := of_decide_eq_true hb51
          refine W.condTb rfl hb51 ?_
          refine W.skip ?_
          refine hK9 _ _ ?_
          refine W.region ?_
          refine Rg.od rfl rfl rfl (OpT.add rfl rfl (by omega) ?_)
          refine Rg.od rfl rfl rfl (OpT.move rfl ?_)
          refine Rg.nil ?_
          exact ⟨s5 + 1, ⟨⟨rfl, rfl, rfl, rfl, rfl, rfl, trivial⟩, x5, by omega, by rw [nameTo_succ s s5 (by omega), hi5_1, ← letterN_true (by omega)]; rfl⟩, by omega⟩
        · have hp51 := of_decide_eq_false hb51
          refine W.condFb rfl hb51 ?_
          refine W.seqK fun K52 hK52 => ?_
          refine W.seqK fun K53 hK53 => ?_
          refine W.region ?_
          refine Rg.od rfl rfl rfl (OpT.move rfl ?_)
          refine Rg.od rfl rfl rfl (OpT.geq rfl rfl ?_)
          refine Rg.od rfl rfl rfl (OpT.move rfl ?_)
          rcases Bool.eq_false_or_eq_true (decide (48 ≤ ((s[s5]!.toNat : Nat) : Int))) with hb54 | hb54
          · have hp54 := of_decide_eq_true hb54
            refine Rg.gy rfl rfl rfl rfl hb54 (OpT.move rfl ?_)
            refine Rg.gy rfl rfl rfl rfl hb54 (OpT.leq rfl rfl ?_)
            refine Rg.od rfl rfl rfl (OpT.pickT rfl hb54 rfl ?_)
            refine Rg.od rfl rfl rfl (OpT.assign rfl ?_)
            refine Rg.nil ?_
            refine hK53 _ _ ?_
            rcases Bool.eq_false_or_eq_true (decide (((s[s5]!.toNat : Nat) : Int) ≤ 57)) with hb55 | hb55
            · have hp55 := of_decide_eq_true hb55
              refine W.condTb rfl hb55 ?_
              refine W.skip ?_
              refine hK52 _ _ ?_
              refine W.condTb rfl hb55 ?_
              refine W.skip ?_
              refine hK9 _ _ ?_
              refine W.region ?_
              refine Rg.od rfl rfl rfl (OpT.add rfl rfl (by omega) ?_)
              refine Rg.od rfl rfl rfl (OpT.move rfl ?_)
              refine Rg.nil ?_
              exact ⟨s5 + 1, ⟨⟨rfl, rfl, rfl, rfl, rfl, rfl, trivial⟩, x5, by omega, by rw [nameTo_succ s s5 (by omega), hi5_1, ← letterN_true (by omega)]; rfl⟩, by omega⟩
            · have hp55 := of_decide_eq_false hb55
              refine W.condFb rfl hb55 ?_
              refine W.seqK fun K56 hK56 => ?_
              refine W.region ?_
              refine Rg.od rfl rfl rfl (OpT.move rfl ?_)
              refine Rg.od rfl rfl rfl (OpT.eqlI rfl rfl ?_)
              refine Rg.od rfl rfl rfl (OpT.assign rfl ?_)
              refine Rg.nil ?_
              refine hK56 _ _ ?_
              rcases Bool.eq_false_or_eq_true (decide (((s[s5]!.toNat : Nat) : Int) = 95)) with hb57 | hb57
              · have hp57 := of_decide_eq_true hb57
                refine W.condTb rfl hb57 ?_
                refine W.skip ?_
                refine hK52 _ _ ?_
                refine W.condTb rfl hb57 ?_
                refine W.skip ?_
                refine hK9 _ _ ?_
                refine W.region ?_
                refine Rg.od rfl rfl rfl (OpT.add rfl rfl (by omega) ?_)
                refine Rg.od rfl rfl rfl (OpT.move rfl ?_)
                refine Rg.nil ?_
                exact ⟨s5 + 1, ⟨⟨rfl, rfl, rfl, rfl, rfl, rfl, trivial⟩, x5, by omega, by rw [nameTo_succ s s5 (by omega), hi5_1, ← letterN_true (by omega)]; rfl⟩, by omega⟩
              · have hp57 := of_decide_eq_false hb57
                refine W.condFb rfl hb57 ?_
                refine W.seqK fun K58 hK58 => ?_
                refine W.region ?_
                refine Rg.od rfl rfl rfl (OpT.move rfl ?_)
                refine Rg.od rfl rfl rfl (OpT.eqlI rfl rfl ?_)
                refine Rg.od rfl rfl rfl (OpT.assign rfl ?_)
                refine Rg.nil ?_
                refine hK58 _ _ ?_
                rcases Bool.eq_false_or_eq_true (decide (((s[s5]!.toNat : Nat) : Int) = 46)) with hb59 | hb59
                · have hp59 := of_decide_eq_true hb59
                  refine W.condTb rfl hb59 ?_
                  refine W.skip ?_
                  refine hK52 _ _ ?_
                  refine W.condTb rfl hb59 ?_
                  refine W.skip ?_
                  refine hK9 _ _ ?_
                  refine W.region ?_
                  refine Rg.od rfl rfl rfl (OpT.add rfl rfl (by omega) ?_)
                  refine Rg.od rfl rfl rfl (OpT.move rfl ?_)
                  refine Rg.nil ?_
                  exact ⟨s5 + 1, ⟨⟨rfl, rfl, rfl, rfl, rfl, rfl, trivial⟩, x5, by omega, by rw [nameTo_succ s s5 (by omega), hi5_1, ← letterN_true (by omega)]; rfl⟩, by omega⟩
                · have hp59 := of_decide_eq_false hb59
                  refine W.condFb rfl hb59 ?_
                  refine W.region ?_
                  refine Rg.od rfl rfl rfl (OpT.move rfl ?_)
                  refine Rg.od rfl rfl rfl (OpT.eqlI rfl rfl ?_)
                  refine Rg.od rfl rfl rfl (OpT.assign rfl ?_)
                  refine Rg.nil ?_
                  refine hK52 _ _ ?_
                  rcases Bool.eq_false_or_eq_true (decide (((s[s5]!.toNat : Nat) : Int) = 39)) with hb60 | hb60
                  · have hp60 := of_decide_eq_true hb60
                    refine W.condTb rfl hb60 ?_
                    refine W.skip ?_
                    refine hK9 _ _ ?_
                    refine W.region ?_
                    refine Rg.od rfl rfl rfl (OpT.add rfl rfl (by omega) ?_)
                    refine Rg.od rfl rfl rfl (OpT.move rfl ?_)
                    refine Rg.nil ?_
                    exact ⟨s5 + 1, ⟨⟨rfl, rfl, rfl, rfl, rfl, rfl, trivial⟩, x5, by omega, by rw [nameTo_succ s s5 (by omega), hi5_1, ← letterN_true (by omega)]; rfl⟩, by omega⟩
                  · have hp60 := of_decide_eq_false hb60
                    refine W.condFb rfl hb60 ?_
                    refine W.seqK fun K61 hK61 => ?_
                    refine W.region ?_
                    refine Rg.od rfl rfl rfl (OpT.assign rfl ?_)
                    refine Rg.nil ?_
                    refine hK61 _ _ ?_
                    refine W.ret ?_
                    refine ⟨_, Res.one rfl rfl, ?_⟩
                    exact ⟨congrArg Value.bool (nameB_no s s5 (by omega) (letterN_false (by omega)).symm).symm, (x4.trans x5)⟩
          · have hp54 := of_decide_eq_false hb54
            refine Rg.gn rfl rfl rfl rfl hb54 ?_
            refine Rg.gn rfl rfl rfl rfl hb54 ?_
            refine Rg.od rfl rfl rfl (OpT.pickF rfl hb54 rfl ?_)
            refine Rg.od rfl rfl rfl (OpT.assign rfl ?_)
            refine Rg.nil ?_
            refine hK53 _ _ ?_
            refine W.condFb rfl rfl ?_
            refine W.seqK fun K62 hK62 => ?_
            refine W.region ?_
            refine Rg.od rfl rfl rfl (OpT.move rfl ?_)
            refine Rg.od rfl rfl rfl (OpT.eqlI rfl rfl ?_)
            refine Rg.od rfl rfl rfl (OpT.assign rfl ?_)
            refine Rg.nil ?_
            refine hK62 _ _ ?_
            rcases Bool.eq_false_or_eq_true (decide (((s[s5]!.toNat : Nat) : Int) = 95)) with hb63 | hb63
            · have hp63 := of_decide_eq_true hb63
              refine W.condTb rfl hb63 ?_
              refine W.skip ?_
              refine hK52 _ _ ?_
              refine W.condTb rfl hb63 ?_
              refine W.skip ?_
              refine hK9 _ _ ?_
              refine W.region ?_
              refine Rg.od rfl rfl rfl (OpT.add rfl rfl (by omega) ?_)
              refine Rg.od rfl rfl rfl (OpT.move rfl ?_)
              refine Rg.nil ?_
              exact ⟨s5 + 1, ⟨⟨rfl, rfl, rfl, rfl, rfl, rfl, trivial⟩, x5, by omega, by rw [nameTo_succ s s5 (by omega), hi5_1, ← letterN_true (by omega)]; rfl⟩, by omega⟩
            · have hp63 := of_decide_eq_false hb63
              refine W.condFb rfl hb63 ?_
              refine W.seqK fun K64 hK64 => ?_
              refine W.region ?_
              refine Rg.od rfl rfl rfl (OpT.move rfl ?_)
              refine Rg.od rfl rfl rfl (OpT.eqlI rfl rfl ?_)
              refine Rg.od rfl rfl rfl (OpT.assign rfl ?_)
              refine Rg.nil ?_
              refine hK64 _ _ ?_
              rcases Bool.eq_false_or_eq_true (decide (((s[s5]!.toNat : Nat) : Int) = 46)) with hb65 | hb65
              · have hp65 := of_decide_eq_true hb65
                refine W.condTb rfl hb65 ?_
                refine W.skip ?_
                refine hK52 _ _ ?_
                refine W.condTb rfl hb65 ?_
                refine W.skip ?_
                refine hK9 _ _ ?_
                refine W.region ?_
                refine Rg.od rfl rfl rfl (OpT.add rfl rfl (by omega) ?_)
                refine Rg.od rfl rfl rfl (OpT.move rfl ?_)
                refine Rg.nil ?_
                exact ⟨s5 + 1, ⟨⟨rfl, rfl, rfl, rfl, rfl, rfl, trivial⟩, x5, by omega, by rw [nameTo_succ s s5 (by omega), hi5_1, ← letterN_true (by omega)]; rfl⟩, by omega⟩
              · have hp65 := of_decide_eq_false hb65
                refine W.condFb rfl hb65 ?_
                refine W.region ?_
                refine Rg.od rfl rfl rfl (OpT.move rfl ?_)
                refine Rg.od rfl rfl rfl (OpT.eqlI rfl rfl ?_)
                refine Rg.od rfl rfl rfl (OpT.assign rfl ?_)
                refine Rg.nil ?_
                refine hK52 _ _ ?_
                rcases Bool.eq_false_or_eq_true (decide (((s[s5]!.toNat : Nat) : Int) = 39)) with hb66 | hb66
                · have hp66 := of_decide_eq_true hb66
                  refine W.condTb rfl hb66 ?_
                  refine W.skip ?_
                  refine hK9 _ _ ?_
                  refine W.region ?_
                  refine Rg.od rfl rfl rfl (OpT.add rfl rfl (by omega) ?_)
                  refine Rg.od rfl rfl rfl (OpT.move rfl ?_)
                  refine Rg.nil ?_
                  exact ⟨s5 + 1, ⟨⟨rfl, rfl, rfl, rfl, rfl, rfl, trivial⟩, x5, by omega, by rw [nameTo_succ s s5 (by omega), hi5_1, ← letterN_true (by omega)]; rfl⟩, by omega⟩
                · have hp66 := of_decide_eq_false hb66
                  refine W.condFb rfl hb66 ?_
                  refine W.seqK fun K67 hK67 => ?_
                  refine W.region ?_
                  refine Rg.od rfl rfl rfl (OpT.assign rfl ?_)
                  refine Rg.nil ?_
                  refine hK67 _ _ ?_
                  refine W.ret ?_
                  refine ⟨_, Res.one rfl rfl, ?_⟩
                  exact ⟨congrArg Value.bool (nameB_no s s5 (by omega) (letterN_false (by omega)).symm).symm, (x4.trans x5)⟩
      · have hp50 := of_decide_eq_false hb50
        refine Rg.gn rfl rfl rfl rfl hb50 ?_
        refine Rg.gn rfl rfl rfl rfl hb50 ?_
        refine Rg.od rfl rfl rfl (OpT.pickF rfl hb50 rfl ?_)
        refine Rg.od rfl rfl rfl (OpT.assign rfl ?_)
        refine Rg.nil ?_
        refine hK12 _ _ ?_
        refine W.condFb rfl rfl ?_
        refine W.seqK fun K68 hK68 => ?_
        refine W.seqK fun K69 hK69 => ?_
        refine W.region ?_
        refine Rg.od rfl rfl rfl (OpT.move rfl ?_)
        refine Rg.od rfl rfl rfl (OpT.geq rfl rfl ?_)
        refine Rg.od rfl rfl rfl (OpT.move rfl ?_)
        rcases Bool.eq_false_or_eq_true (decide (48 ≤ ((s[s5]!.toNat : Nat) : Int))) with hb70 | hb70
        · have hp70 := of_decide_eq_true hb70
          refine Rg.gy rfl rfl rfl rfl hb70 (OpT.move rfl ?_)
          refine Rg.gy rfl rfl rfl rfl hb70 (OpT.leq rfl rfl ?_)
          refine Rg.od rfl rfl rfl (OpT.pickT rfl hb70 rfl ?_)
          refine Rg.od rfl rfl rfl (OpT.assign rfl ?_)
          refine Rg.nil ?_
          refine hK69 _ _ ?_
          rcases Bool.eq_false_or_eq_true (decide (((s[s5]!.toNat : Nat) : Int) ≤ 57)) with hb71 | hb71
          · have hp71 := of_decide_eq_true hb71
            refine W.condTb rfl hb71 ?_
            refine W.skip ?_
            refine hK68 _ _ ?_
            refine W.condTb rfl hb71 ?_
            refine W.skip ?_
            refine hK9 _ _ ?_
            refine W.region ?_
            refine Rg.od rfl rfl rfl (OpT.add rfl rfl (by omega) ?_)
            refine Rg.od rfl rfl rfl (OpT.move rfl ?_)
            refine Rg.nil ?_
            exact ⟨s5 + 1, ⟨⟨rfl, rfl, rfl, rfl, rfl, rfl, trivial⟩, x5, by omega, by rw [nameTo_succ s s5 (by omega), hi5_1, ← letterN_true (by omega)]; rfl⟩, by omega⟩
          · have hp71 := of_decide_eq_false hb71
            refine W.condFb rfl hb71 ?_
            refine W.seqK fun K72 hK72 => ?_
            refine W.region ?_
            refine Rg.od rfl rfl rfl (OpT.move rfl ?_)
            refine Rg.od rfl rfl rfl (OpT.eqlI rfl rfl ?_)
            refine Rg.od rfl rfl rfl (OpT.assign rfl ?_)
            refine Rg.nil ?_
            refine hK72 _ _ ?_
            rcases Bool.eq_false_or_eq_true (decide (((s[s5]!.toNat : Nat) : Int) = 95)) with hb73 | hb73
            · have hp73 := of_decide_eq_true hb73
              refine W.condTb rfl hb73 ?_
              refine W.skip ?_
              refine hK68 _ _ ?_
              refine W.condTb rfl hb73 ?_
              refine W.skip ?_
              refine hK9 _ _ ?_
              refine W.region ?_
              refine Rg.od rfl rfl rfl (OpT.add rfl rfl (by omega) ?_)
              refine Rg.od rfl rfl rfl (OpT.move rfl ?_)
              refine Rg.nil ?_
              exact ⟨s5 + 1, ⟨⟨rfl, rfl, rfl, rfl, rfl, rfl, trivial⟩, x5, by omega, by rw [nameTo_succ s s5 (by omega), hi5_1, ← letterN_true (by omega)]; rfl⟩, by omega⟩
            · have hp73 := of_decide_eq_false hb73
              refine W.condFb rfl hb73 ?_
              refine W.seqK fun K74 hK74 => ?_
              refine W.region ?_
              refine Rg.od rfl rfl rfl (OpT.move rfl ?_)
              refine Rg.od rfl rfl rfl (OpT.eqlI rfl rfl ?_)
              refine Rg.od rfl rfl rfl (OpT.assign rfl ?_)
              refine Rg.nil ?_
              refine hK74 _ _ ?_
              rcases Bool.eq_false_or_eq_true (decide (((s[s5]!.toNat : Nat) : Int) = 46)) with hb75 | hb75
              · have hp75 := of_decide_eq_true hb75
                refine W.condTb rfl hb75 ?_
                refine W.skip ?_
                refine hK68 _ _ ?_
                refine W.condTb rfl hb75 ?_
                refine W.skip ?_
                refine hK9 _ _ ?_
                refine W.region ?_
                refine Rg.od rfl rfl rfl (OpT.add rfl rfl (by omega) ?_)
                refine Rg.od rfl rfl rfl (OpT.move rfl ?_)
                refine Rg.nil ?_
                exact ⟨s5 + 1, ⟨⟨rfl, rfl, rfl, rfl, rfl, rfl, trivial⟩, x5, by omega, by rw [nameTo_succ s s5 (by omega), hi5_1, ← letterN_true (by omega)]; rfl⟩, by omega⟩
              · have hp75 := of_decide_eq_false hb75
                refine W.condFb rfl hb75 ?_
                refine W.region ?_
                refine Rg.od rfl rfl rfl (OpT.move rfl ?_)
                refine Rg.od rfl rfl rfl (OpT.eqlI rfl rfl ?_)
                refine Rg.od rfl rfl rfl (OpT.assign rfl ?_)
                refine Rg.nil ?_
                refine hK68 _ _ ?_
                rcases Bool.eq_false_or_eq_true (decide (((s[s5]!.toNat : Nat) : Int) = 39)) with hb76 | hb76
                · have hp76 := of_decide_eq_true hb76
                  refine W.condTb rfl hb76 ?_
                  refine W.skip ?_
                  refine hK9 _ _ ?_
                  refine W.region ?_
                  refine Rg.od rfl rfl rfl (OpT.add rfl rfl (by omega) ?_)
                  refine Rg.od rfl rfl rfl (OpT.move rfl ?_)
                  refine Rg.nil ?_
                  exact ⟨s5 + 1, ⟨⟨rfl, rfl, rfl, rfl, rfl, rfl, trivial⟩, x5, by omega, by rw [nameTo_succ s s5 (by omega), hi5_1, ← letterN_true (by omega)]; rfl⟩, by omega⟩
                · have hp76 := of_decide_eq_false hb76
                  refine W.condFb rfl hb76 ?_
                  refine W.seqK fun K77 hK77 => ?_
                  refine W.region ?_
                  refine Rg.od rfl rfl rfl (OpT.assign rfl ?_)
                  refine Rg.nil ?_
                  refine hK77 _ _ ?_
                  refine W.ret ?_
                  refine ⟨_, Res.one rfl rfl, ?_⟩
                  exact ⟨congrArg Value.bool (nameB_no s s5 (by omega) (letterN_false (by omega)).symm).symm, (x4.trans x5)⟩
        · have hp70 := of_decide_eq_false hb70
          refine Rg.gn rfl rfl rfl rfl hb70 ?_
          refine Rg.gn rfl rfl rfl rfl hb70 ?_
          refine Rg.od rfl rfl rfl (OpT.pickF rfl hb70 rfl ?_)
          refine Rg.od rfl rfl rfl (OpT.assign rfl ?_)
          refine Rg.nil ?_
          refine hK69 _ _ ?_
          refine W.condFb rfl rfl ?_
          refine W.seqK fun K78 hK78 => ?_
          refine W.region ?_
          refine Rg.od rfl rfl rfl (OpT.move rfl ?_)
          refine Rg.od rfl rfl rfl (OpT.eqlI rfl rfl ?_)
          refine Rg.od rfl rfl rfl (OpT.assign rfl ?_)
          refine Rg.nil ?_
          refine hK78 _ _ ?_
          rcases Bool.eq_false_or_eq_true (decide (((s[s5]!.toNat : Nat) : Int) = 95)) with hb79 | hb79
          · have hp79 := of_decide_eq_true hb79
            refine W.condTb rfl hb79 ?_
            refine W.skip ?_
            refine hK68 _ _ ?_
            refine W.condTb rfl hb79 ?_
            refine W.skip ?_
            refine hK9 _ _ ?_
            refine W.region ?_
            refine Rg.od rfl rfl rfl (OpT.add rfl rfl (by omega) ?_)
            refine Rg.od rfl rfl rfl (OpT.move rfl ?_)
            refine Rg.nil ?_
            exact ⟨s5 + 1, ⟨⟨rfl, rfl, rfl, rfl, rfl, rfl, trivial⟩, x5, by omega, by rw [nameTo_succ s s5 (by omega), hi5_1, ← letterN_true (by omega)]; rfl⟩, by omega⟩
          · have hp79 := of_decide_eq_false hb79
            refine W.condFb rfl hb79 ?_
            refine W.seqK fun K80 hK80 => ?_
            refine W.region ?_
            refine Rg.od rfl rfl rfl (OpT.move rfl ?_)
            refine Rg.od rfl rfl rfl (OpT.eqlI rfl rfl ?_)
            refine Rg.od rfl rfl rfl (OpT.assign rfl ?_)
            refine Rg.nil ?_
            refine hK80 _ _ ?_
            rcases Bool.eq_false_or_eq_true (decide (((s[s5]!.toNat : Nat) : Int) = 46)) with hb81 | hb81
            · have hp81 := of_decide_eq_true hb81
              refine W.condTb rfl hb81 ?_
              refine W.skip ?_
              refine hK68 _ _ ?_
              refine W.condTb rfl hb81 ?_
              refine W.skip ?_
              refine hK9 _ _ ?_
              refine W.region ?_
              refine Rg.od rfl rfl rfl (OpT.add rfl rfl (by omega) ?_)
              refine Rg.od rfl rfl rfl (OpT.move rfl ?_)
              refine Rg.nil ?_
              exact ⟨s5 + 1, ⟨⟨rfl, rfl, rfl, rfl, rfl, rfl, trivial⟩, x5, by omega, by rw [nameTo_succ s s5 (by omega), hi5_1, ← letterN_true (by omega)]; rfl⟩, by omega⟩
            · have hp81 := of_decide_eq_false hb81
              refine W.condFb rfl hb81 ?_
              refine W.region ?_
              refine Rg.od rfl rfl rfl (OpT.move rfl ?_)
              refine Rg.od rfl rfl rfl (OpT.eqlI rfl rfl ?_)
              refine Rg.od rfl rfl rfl (OpT.assign rfl ?_)
              refine Rg.nil ?_
              refine hK68 _ _ ?_
              rcases Bool.eq_false_or_eq_true (decide (((s[s5]!.toNat : Nat) : Int) = 39)) with hb82 | hb82
              · have hp82 := of_decide_eq_true hb82
                refine W.condTb rfl hb82 ?_
                refine W.skip ?_
                refine hK9 _ _ ?_
                refine W.region ?_
                refine Rg.od rfl rfl rfl (OpT.add rfl rfl (by omega) ?_)
                refine Rg.od rfl rfl rfl (OpT.move rfl ?_)
                refine Rg.nil ?_
                exact ⟨s5 + 1, ⟨⟨rfl, rfl, rfl, rfl, rfl, rfl, trivial⟩, x5, by omega, by rw [nameTo_succ s s5 (by omega), hi5_1, ← letterN_true (by omega)]; rfl⟩, by omega⟩
              · have hp82 := of_decide_eq_false hb82
                refine W.condFb rfl hb82 ?_
                refine W.seqK fun K83 hK83 => ?_
                refine W.region ?_
                refine Rg.od rfl rfl rfl (OpT.assign rfl ?_)
                refine Rg.nil ?_
                refine hK83 _ _ ?_
                refine W.ret ?_
                refine ⟨_, Res.one rfl rfl, ?_⟩
                exact ⟨congrArg Value.bool (nameB_no s s5 (by omega) (letterN_false (by omega)).symm).symm, (x4.trans x5)⟩
  · have hp8 := of_decide_eq_false hb8
    refine W.condFb rfl hb8 ?_
    refine W.exit ?_
    refine hK2 _ _ ?_
    refine W.seqK fun K84 hK84 => ?_
    refine W.region ?_
    refine Rg.od rfl rfl rfl (OpT.move rfl ?_)
    refine Rg.od rfl rfl rfl (OpT.neqS rfl rfl ?_)
    refine Rg.od rfl rfl rfl (OpT.move rfl ?_)
    rcases Bool.eq_false_or_eq_true (s.toList == (⟨#[]⟩ : ByteArray).toList) with hb85 | hb85
    · have hp85 := hb85
      refine Rg.gn rfl rfl rfl rfl (nT hb85) ?_
      refine Rg.gn rfl rfl rfl rfl (nT hb85) ?_
      refine Rg.gn rfl rfl rfl rfl (nT hb85) ?_
      refine Rg.od rfl rfl rfl (OpT.pickF rfl (nT hb85) rfl ?_)
      refine Rg.od rfl rfl rfl (OpT.assign rfl ?_)
      refine Rg.nil ?_
      refine hK84 _ _ ?_
      refine W.ret ?_
      refine ⟨_, Res.one rfl rfl, ?_⟩
      have hsz : s5 = s.size := by omega
      rw [hsz] at hi5_1
      exact ⟨congrArg Value.bool (by rw [← nameTo_size s, hi5_1, Bool.true_and]; exact nameEnd0 hb85), (x4.trans x5)⟩
    · have hp85 := hb85
      refine Rg.gy rfl rfl rfl rfl (nF hb85) (OpT.move rfl ?_)
      refine Rg.gy rfl rfl rfl rfl (nF hb85) (OpT.lenStr Tryz.underlying9 rfl ?_)
      refine Rg.gy rfl rfl rfl rfl (nF hb85) (OpT.leq rfl rfl ?_)
      refine Rg.od rfl rfl rfl (OpT.pickT rfl (nF hb85) rfl ?_)
      refine Rg.od rfl rfl rfl (OpT.assign rfl ?_)
      refine Rg.nil ?_
      refine hK84 _ _ ?_
      refine W.ret ?_
      refine ⟨_, Res.one rfl rfl, ?_⟩
      have hsz : s5 = s.size := by omega
      rw [hsz] at hi5_1
      exact ⟨congrArg Value.bool (by rw [← nameTo_size s, hi5_1, Bool.true_and]; exact nameEnd1 hb85), (x4.trans x5)⟩
set_option maxHeartbeats 1000000 in
set_option maxRecDepth 20000 in
theorem node_runs (t : T) (cs : List Value) (w0 : World) (R : Nat → Prop) (hv : VT w0 R cs t) : Runs Tryz.prog 75 #[.agg cs.toArray] w0 fun v w' => v = .bool (nodeB t) ∧ Ext w0 w' := by
  obtain ⟨k, n, s, ls, ts, la, lc, ta, tc, rfl, rfl, hk, hn, hs, hl, ht, hL, hT⟩ := hv.inv
  refine Runs.of_W (vs := [_]) Tryz.func75 rfl rfl ?_
  refine W.seqK fun K1 hK1 => ?_
  refine W.region ?_
  refine Rg.od rfl rfl rfl (OpT.box rfl fun w2 g2 e2 x2 z2 b2 => ?_)
  replace b2 : Box w2 g2 [.int .u8 k, .int .i64 n, .string s, .slice la ls.length lc, .slice ta ts.length tc] := b2
  refine Rg.od rfl rfl rfl (OpT.assign rfl ?_)
  refine Rg.nil ?_
  refine hK1 _ _ ?_
  refine W.seqK fun K3 hK3 => ?_
  refine W.region ?_
  refine Rg.od rfl rfl rfl (OpT.fieldAddrB (off := 0) Tryz.underlying27 rfl Tryz.sizeOf5 rfl rfl ?_)
  refine Rg.od rfl rfl rfl (OpT.loadB Tryz.isAgg5 rfl b2 rfl ?_)
  refine Rg.od rfl rfl rfl (OpT.call Tryz.call91 (.cons rfl .nil) (Runs.mono (kids_runs _ _) ?_))
  rintro _ w4 ⟨rfl, x4⟩
  refine Rg.od rfl rfl rfl (OpT.move rfl ?_)
  refine Rg.od rfl rfl rfl (OpT.extract rfl rfl ?_)
  refine Rg.od rfl rfl rfl (OpT.extract rfl rfl ?_)
  refine Rg.od rfl rfl rfl (OpT.assign rfl ?_)
  refine Rg.od rfl rfl rfl (OpT.assign rfl ?_)
  refine Rg.nil ?_
  refine hK3 _ _ ?_
  refine W.seqK fun K5 hK5 => ?_
  refine W.seqK fun K6 hK6 => ?_
  refine W.region ?_
  refine Rg.od rfl rfl rfl (OpT.move rfl ?_)
  refine Rg.od rfl rfl rfl (OpT.notB rfl ?_)
  refine Rg.od rfl rfl rfl (OpT.move rfl ?_)
  rcases Bool.eq_false_or_eq_true (decide (0 ≤ kidsI k)) with hb7 | hb7
  · have hp7 := of_decide_eq_true hb7
    refine Rg.gy rfl rfl rfl rfl (nT hb7) (OpT.move rfl ?_)
    refine Rg.gy rfl rfl rfl rfl (nT hb7) (OpT.fieldAddrB (off := 4) Tryz.underlying27 rfl Tryz.sizeOf25 rfl rfl ?_)
    refine Rg.gy rfl rfl rfl rfl (nT hb7) (OpT.loadB Tryz.isAgg25 rfl (b2.ext x4) rfl ?_)
    refine Rg.gy rfl rfl rfl rfl (nT hb7) (OpT.lenS Tryz.underlying25 rfl ?_)
    refine Rg.gy rfl rfl rfl rfl (nT hb7) (OpT.neqI rfl rfl ?_)
    refine Rg.od rfl rfl rfl (OpT.pickF rfl (nT hb7) rfl ?_)
    refine Rg.od rfl rfl rfl (OpT.move rfl ?_)
    rcases Bool.eq_false_or_eq_true (decide ((if kidsI k < 0 then 0 else kidsI k) = ((ts.length : Nat) : Int))) with hb8 | hb8
    · have hp8 := of_decide_eq_true hb8
      refine Rg.gy rfl rfl rfl rfl (nT hb8) (OpT.fieldAddrB (off := 3) Tryz.underlying27 rfl Tryz.sizeOf24 rfl rfl ?_)
      refine Rg.gy rfl rfl rfl rfl (nT hb8) (OpT.loadB Tryz.isAgg24 rfl (b2.ext x4) rfl ?_)
      refine Rg.gy rfl rfl rfl rfl (nT hb8) (OpT.call Tryz.call92 (.cons rfl (.cons rfl .nil)) (Runs.mono (containsL_runs _ _ _ _ _ (hL.ext (x2.trans x4)) (by assumption)) ?_))
      rintro _ w9 ⟨rfl, x9⟩
      refine Rg.od rfl rfl rfl (OpT.pickF rfl (nT hb8) rfl ?_)
      refine Rg.nil ?_
      refine hK6 _ _ ?_
      rcases Bool.eq_false_or_eq_true (ls.all L.may) with hb10 | hb10
      · have hp10 := hb10
        refine W.condFb rfl (nT hb10) ?_
        refine W.skip ?_
        refine hK5 _ _ ?_
        refine W.seqK fun K11 hK11 => ?_
        refine W.draw (VS.ex _ :: VS.ex _ :: VS.ex _ :: VS.ex _ :: VS.ex _ :: VS.ex _ :: VS.ex _ :: VS.ex _ :: VS.ex _ :: VS.ex _ :: VS.ex _ :: VS.ex _ :: VS.ex _ :: []) mixed rfl rfl ⟨trivial, trivial, trivial, trivial, trivial, trivial, trivial, trivial, trivial, trivial, trivial, trivial, trivial, trivial⟩
          ⟨fun w' hx _ => OpT.fieldAddrB (off := 2) Tryz.underlying27 rfl Tryz.sizeOf9 rfl rfl VS.ok,
          fun w' hx _ => OpT.loadB Tryz.isAgg9 rfl (b2.ext ((x4.trans x9).trans hx)) rfl VS.ok,
          fun w' hx _ => OpT.eqlS rfl rfl VS.ok,
          fun w' hx _ => OpT.fieldAddrB (off := 1) Tryz.underlying27 rfl Tryz.sizeOf3 rfl rfl VS.ok,
          fun w' hx _ => OpT.loadB Tryz.isAgg3 rfl (b2.ext ((x4.trans x9).trans hx)) rfl VS.ok,
          fun w' hx _ => OpT.eqlI rfl rfl VS.ok,
          fun w' hx _ => OpT.fieldAddrB (off := 3) Tryz.underlying27 rfl Tryz.sizeOf24 rfl rfl VS.ok,
          fun w' hx _ => OpT.loadB Tryz.isAgg24 rfl (b2.ext ((x4.trans x9).trans hx)) rfl VS.ok,
          fun w' hx _ => OpT.lenS Tryz.underlying24 rfl VS.ok,
          fun w' hx _ => OpT.eqlI rfl rfl VS.ok,
          fun w' hx _ => OpT.assign rfl VS.ok,
          fun w' hx _ => OpT.assign rfl VS.ok,
          fun w' hx _ => OpT.assign rfl VS.ok,
          trivial⟩ ?_
        intro w12 x12
        refine hK11 _ _ ?_
        refine W.seqK fun K13 hK13 => ?_
        refine W.seqK fun K14 hK14 => ?_
        refine W.region ?_
        refine Rg.od rfl rfl rfl (OpT.fieldAddrB (off := 0) Tryz.underlying27 rfl Tryz.sizeOf5 rfl rfl ?_)
        refine Rg.od rfl rfl rfl (OpT.loadB Tryz.isAgg5 rfl (b2.ext ((x4.trans x9).trans x12)) rfl ?_)
        refine Rg.nil ?_
        refine hK14 _ _ ?_
        refine W.block ?_
        refine W.seqK fun K15 hK15 => ?_
        refine W.region ?_
        refine Rg.od rfl rfl rfl (OpT.eqlI rfl rfl ?_)
        refine Rg.od rfl rfl rfl (OpT.assign rfl ?_)
        refine Rg.nil ?_
        refine hK15 _ _ ?_
        rcases Bool.eq_false_or_eq_true (decide (k = 1)) with hb16 | hb16
        · have hp16 := of_decide_eq_true hb16
          refine W.condTb rfl hb16 ?_
          refine W.region ?_
          refine Rg.od rfl rfl rfl (OpT.fieldAddrB (off := 3) Tryz.underlying27 rfl Tryz.sizeOf24 rfl rfl ?_)
          refine Rg.od rfl rfl rfl (OpT.loadB Tryz.isAgg24 rfl (b2.ext ((x4.trans x9).trans x12)) rfl ?_)
          refine Rg.od rfl rfl rfl (OpT.lenS Tryz.underlying24 rfl ?_)
          refine Rg.od rfl rfl rfl (OpT.eqlI rfl rfl ?_)
          refine Rg.od rfl rfl rfl (OpT.assign rfl ?_)
          refine Rg.nil ?_
          refine hK13 _ _ ?_
          refine W.seqK fun K17 hK17 => ?_
          refine W.region ?_
          refine Rg.od rfl rfl rfl (OpT.move rfl ?_)
          refine Rg.od rfl rfl rfl (OpT.move rfl ?_)
          rcases Bool.eq_false_or_eq_true (s.toList == (⟨#[]⟩ : ByteArray).toList) with hb18 | hb18
          · have hp18 := hb18
            refine Rg.gy rfl rfl rfl rfl hb18 (OpT.move rfl ?_)
            refine Rg.od rfl rfl rfl (OpT.pickT rfl hb18 rfl ?_)
            refine Rg.od rfl rfl rfl (OpT.move rfl ?_)
            rcases Bool.eq_false_or_eq_true (decide (n = 0)) with hb19 | hb19
            · have hp19 := of_decide_eq_true hb19
              refine Rg.gy rfl rfl rfl rfl hb19 (OpT.move rfl ?_)
              refine Rg.od rfl rfl rfl (OpT.pickT rfl hb19 rfl ?_)
              refine Rg.od rfl rfl rfl (OpT.assign rfl ?_)
              refine Rg.nil ?_
              refine hK17 _ _ ?_
              refine W.ret ?_
              refine ⟨_, Res.one rfl rfl, ?_⟩
              refine ⟨congrArg Value.bool ?_, (((x2.trans x4).trans x9).trans x12)⟩
              refine nodeEq ?_
              have hz := empty_iff s
              clear hv hL hT hl ht hs hn 
              grind
            · have hp19 := of_decide_eq_false hb19
              refine Rg.gn rfl rfl rfl rfl hb19 ?_
              refine Rg.od rfl rfl rfl (OpT.pickF rfl hb19 rfl ?_)
              refine Rg.od rfl rfl rfl (OpT.assign rfl ?_)
              refine Rg.nil ?_
              refine hK17 _ _ ?_
              refine W.ret ?_
              refine ⟨_, Res.one rfl rfl, ?_⟩
              refine ⟨congrArg Value.bool ?_, (((x2.trans x4).trans x9).trans x12)⟩
              refine nodeEq ?_
              have hz := empty_iff s
              clear hv hL hT hl ht hs hn 
              grind
          · have hp18 := hb18
            refine Rg.gn rfl rfl rfl rfl hb18 ?_
            refine Rg.od rfl rfl rfl (OpT.pickF rfl hb18 rfl ?_)
            refine Rg.od rfl rfl rfl (OpT.move rfl ?_)
            refine Rg.gn rfl rfl rfl rfl rfl ?_
            refine Rg.od rfl rfl rfl (OpT.pickF rfl rfl rfl ?_)
            refine Rg.od rfl rfl rfl (OpT.assign rfl ?_)
            refine Rg.nil ?_
            refine hK17 _ _ ?_
            refine W.ret ?_
            refine ⟨_, Res.one rfl rfl, ?_⟩
            refine ⟨congrArg Value.bool ?_, (((x2.trans x4).trans x9).trans x12)⟩
            refine nodeEq ?_
            have hz := empty_iff s
            clear hv hL hT hl ht hs hn 
            grind
        · have hp16 := of_decide_eq_false hb16
          refine W.condFb rfl hb16 ?_
          refine W.seqK fun K20 hK20 => ?_
          refine W.region ?_
          refine Rg.od rfl rfl rfl (OpT.eqlI rfl rfl ?_)
          refine Rg.od rfl rfl rfl (OpT.assign rfl ?_)
          refine Rg.nil ?_
          refine hK20 _ _ ?_
          rcases Bool.eq_false_or_eq_true (decide (k = 2)) with hb21 | hb21
          · have hp21 := of_decide_eq_true hb21
            refine W.condTb rfl hb21 ?_
            refine W.region ?_
            refine Rg.od rfl rfl rfl (OpT.fieldAddrB (off := 1) Tryz.underlying27 rfl Tryz.sizeOf3 rfl rfl ?_)
            refine Rg.od rfl rfl rfl (OpT.loadB Tryz.isAgg3 rfl (b2.ext ((x4.trans x9).trans x12)) rfl ?_)
            refine Rg.od rfl rfl rfl (OpT.geq rfl rfl ?_)
            refine Rg.od rfl rfl rfl (OpT.move rfl ?_)
            rcases Bool.eq_false_or_eq_true (decide (0 ≤ n)) with hb22 | hb22
            · have hp22 := of_decide_eq_true hb22
              refine Rg.gy rfl rfl rfl rfl hb22 (OpT.fieldAddrB (off := 1) Tryz.underlying27 rfl Tryz.sizeOf3 rfl rfl ?_)
              refine Rg.gy rfl rfl rfl rfl hb22 (OpT.loadB Tryz.isAgg3 rfl (b2.ext ((x4.trans x9).trans x12)) rfl ?_)
              refine Rg.gy rfl rfl rfl rfl hb22 (OpT.leq rfl rfl ?_)
              refine Rg.od rfl rfl rfl (OpT.pickT rfl hb22 rfl ?_)
              refine Rg.od rfl rfl rfl (OpT.assign rfl ?_)
              refine Rg.nil ?_
              refine hK13 _ _ ?_
              refine W.seqK fun K23 hK23 => ?_
              refine W.region ?_
              refine Rg.od rfl rfl rfl (OpT.move rfl ?_)
              refine Rg.od rfl rfl rfl (OpT.move rfl ?_)
              rcases Bool.eq_false_or_eq_true (s.toList == (⟨#[]⟩ : ByteArray).toList) with hb24 | hb24
              · have hp24 := hb24
                refine Rg.gy rfl rfl rfl rfl hb24 (OpT.move rfl ?_)
                refine Rg.od rfl rfl rfl (OpT.pickT rfl hb24 rfl ?_)
                refine Rg.od rfl rfl rfl (OpT.move rfl ?_)
                rcases Bool.eq_false_or_eq_true (decide (n ≤ 1048576)) with hb25 | hb25
                · have hp25 := of_decide_eq_true hb25
                  refine Rg.gy rfl rfl rfl rfl hb25 (OpT.move rfl ?_)
                  refine Rg.od rfl rfl rfl (OpT.pickT rfl hb25 rfl ?_)
                  refine Rg.od rfl rfl rfl (OpT.assign rfl ?_)
                  refine Rg.nil ?_
                  refine hK23 _ _ ?_
                  refine W.ret ?_
                  refine ⟨_, Res.one rfl rfl, ?_⟩
                  refine ⟨congrArg Value.bool ?_, (((x2.trans x4).trans x9).trans x12)⟩
                  refine nodeEq ?_
                  have hz := empty_iff s
                  clear hv hL hT hl ht hs hn 
                  grind
                · have hp25 := of_decide_eq_false hb25
                  refine Rg.gn rfl rfl rfl rfl hb25 ?_
                  refine Rg.od rfl rfl rfl (OpT.pickF rfl hb25 rfl ?_)
                  refine Rg.od rfl rfl rfl (OpT.assign rfl ?_)
                  refine Rg.nil ?_
                  refine hK23 _ _ ?_
                  refine W.ret ?_
                  refine ⟨_, Res.one rfl rfl, ?_⟩
                  refine ⟨congrArg Value.bool ?_, (((x2.trans x4).trans x9).trans x12)⟩
                  refine nodeEq ?_
                  have hz := empty_iff s
                  clear hv hL hT hl ht hs hn 
                  grind
              · have hp24 := hb24
                refine Rg.gn rfl rfl rfl rfl hb24 ?_
                refine Rg.od rfl rfl rfl (OpT.pickF rfl hb24 rfl ?_)
                refine Rg.od rfl rfl rfl (OpT.move rfl ?_)
                refine Rg.gn rfl rfl rfl rfl rfl ?_
                refine Rg.od rfl rfl rfl (OpT.pickF rfl rfl rfl ?_)
                refine Rg.od rfl rfl rfl (OpT.assign rfl ?_)
                refine Rg.nil ?_
                refine hK23 _ _ ?_
                refine W.ret ?_
                refine ⟨_, Res.one rfl rfl, ?_⟩
                refine ⟨congrArg Value.bool ?_, (((x2.trans x4).trans x9).trans x12)⟩
                refine nodeEq ?_
                have hz := empty_iff s
                clear hv hL hT hl ht hs hn 
                grind
            · have hp22 := of_decide_eq_false hb22
              refine Rg.gn rfl rfl rfl rfl hb22 ?_
              refine Rg.gn rfl rfl rfl rfl hb22 ?_
              refine Rg.gn rfl rfl rfl rfl hb22 ?_
              refine Rg.od rfl rfl rfl (OpT.pickF rfl hb22 rfl ?_)
              refine Rg.od rfl rfl rfl (OpT.assign rfl ?_)
              refine Rg.nil ?_
              refine hK13 _ _ ?_
              refine W.seqK fun K26 hK26 => ?_
              refine W.region ?_
              refine Rg.od rfl rfl rfl (OpT.move rfl ?_)
              refine Rg.od rfl rfl rfl (OpT.move rfl ?_)
              rcases Bool.eq_false_or_eq_true (s.toList == (⟨#[]⟩ : ByteArray).toList) with hb27 | hb27
              · have hp27 := hb27
                refine Rg.gy rfl rfl rfl rfl hb27 (OpT.move rfl ?_)
                refine Rg.od rfl rfl rfl (OpT.pickT rfl hb27 rfl ?_)
                refine Rg.od rfl rfl rfl (OpT.move rfl ?_)
                refine Rg.gn rfl rfl rfl rfl rfl ?_
                refine Rg.od rfl rfl rfl (OpT.pickF rfl rfl rfl ?_)
                refine Rg.od rfl rfl rfl (OpT.assign rfl ?_)
                refine Rg.nil ?_
                refine hK26 _ _ ?_
                refine W.ret ?_
                refine ⟨_, Res.one rfl rfl, ?_⟩
                refine ⟨congrArg Value.bool ?_, (((x2.trans x4).trans x9).trans x12)⟩
                refine nodeEq ?_
                have hz := empty_iff s
                clear hv hL hT hl ht hs hn 
                grind
              · have hp27 := hb27
                refine Rg.gn rfl rfl rfl rfl hb27 ?_
                refine Rg.od rfl rfl rfl (OpT.pickF rfl hb27 rfl ?_)
                refine Rg.od rfl rfl rfl (OpT.move rfl ?_)
                refine Rg.gn rfl rfl rfl rfl rfl ?_
                refine Rg.od rfl rfl rfl (OpT.pickF rfl rfl rfl ?_)
                refine Rg.od rfl rfl rfl (OpT.assign rfl ?_)
                refine Rg.nil ?_
                refine hK26 _ _ ?_
                refine W.ret ?_
                refine ⟨_, Res.one rfl rfl, ?_⟩
                refine ⟨congrArg Value.bool ?_, (((x2.trans x4).trans x9).trans x12)⟩
                refine nodeEq ?_
                have hz := empty_iff s
                clear hv hL hT hl ht hs hn 
                grind
          · have hp21 := of_decide_eq_false hb21
            refine W.condFb rfl hb21 ?_
            refine W.seqK fun K28 hK28 => ?_
            refine W.region ?_
            refine Rg.od rfl rfl rfl (OpT.eqlI rfl rfl ?_)
            refine Rg.od rfl rfl rfl (OpT.assign rfl ?_)
            refine Rg.nil ?_
            refine hK28 _ _ ?_
            rcases Bool.eq_false_or_eq_true (decide (k = 3)) with hb29 | hb29
            · have hp29 := of_decide_eq_true hb29
              refine W.condTb rfl hb29 ?_
              refine W.draw (VS.ex _ :: VS.ex _ :: VS.ex _ :: VS.ex _ :: VS.ex _ :: VS.ex _ :: VS.ex _ :: VS.ex _ :: VS.ex _ :: []) mixed rfl rfl ⟨trivial, trivial, trivial, trivial, trivial, trivial, trivial, trivial, trivial, trivial⟩
                ⟨fun w' hx _ => OpT.fieldAddrB (off := 2) Tryz.underlying27 rfl Tryz.sizeOf9 rfl rfl VS.ok,
                fun w' hx _ => OpT.loadB Tryz.isAgg9 rfl (b2.ext (((x4.trans x9).trans x12).trans hx)) rfl VS.ok,
                fun w' hx _ => OpT.call Tryz.call43 (.cons rfl .nil) (Runs.mono (tname_runs _ (by first | assumption | omega) _) fun v w h => VS.okx h.1 h.2),
                fun w' hx _ => OpT.fieldAddrB (off := 3) Tryz.underlying27 rfl Tryz.sizeOf24 rfl rfl VS.ok,
                fun w' hx _ => OpT.loadB Tryz.isAgg24 rfl (b2.ext (((x4.trans x9).trans x12).trans hx)) rfl VS.ok,
                fun w' hx _ => OpT.lenS Tryz.underlying24 rfl VS.ok,
                fun w' hx _ => OpT.leq rfl rfl VS.ok,
                fun w' hx _ => OpT.assign rfl VS.ok,
                fun w' hx _ => OpT.assign rfl VS.ok,
                trivial⟩ ?_
              intro w30 x30
              refine hK13 _ _ ?_
              refine W.seqK fun K31 hK31 => ?_
              refine W.region ?_
              refine Rg.od rfl rfl rfl (OpT.move rfl ?_)
              refine Rg.od rfl rfl rfl (OpT.move rfl ?_)
              rcases Bool.eq_false_or_eq_true (nameB s) with hb32 | hb32
              · have hp32 := hb32
                refine Rg.gy rfl rfl rfl rfl hb32 (OpT.move rfl ?_)
                refine Rg.od rfl rfl rfl (OpT.pickT rfl hb32 rfl ?_)
                refine Rg.od rfl rfl rfl (OpT.move rfl ?_)
                rcases Bool.eq_false_or_eq_true (decide (n = 0)) with hb33 | hb33
                · have hp33 := of_decide_eq_true hb33
                  refine Rg.gy rfl rfl rfl rfl hb33 (OpT.move rfl ?_)
                  refine Rg.od rfl rfl rfl (OpT.pickT rfl hb33 rfl ?_)
                  refine Rg.od rfl rfl rfl (OpT.assign rfl ?_)
                  refine Rg.nil ?_
                  refine hK31 _ _ ?_
                  refine W.ret ?_
                  refine ⟨_, Res.one rfl rfl, ?_⟩
                  refine ⟨congrArg Value.bool ?_, ((((x2.trans x4).trans x9).trans x12).trans x30)⟩
                  refine nodeEq ?_
                  have hz := empty_iff s
                  clear hv hL hT hl ht hs hn 
                  grind
                · have hp33 := of_decide_eq_false hb33
                  refine Rg.gn rfl rfl rfl rfl hb33 ?_
                  refine Rg.od rfl rfl rfl (OpT.pickF rfl hb33 rfl ?_)
                  refine Rg.od rfl rfl rfl (OpT.assign rfl ?_)
                  refine Rg.nil ?_
                  refine hK31 _ _ ?_
                  refine W.ret ?_
                  refine ⟨_, Res.one rfl rfl, ?_⟩
                  refine ⟨congrArg Value.bool ?_, ((((x2.trans x4).trans x9).trans x12).trans x30)⟩
                  refine nodeEq ?_
                  have hz := empty_iff s
                  clear hv hL hT hl ht hs hn 
                  grind
              · have hp32 := hb32
                refine Rg.gn rfl rfl rfl rfl hb32 ?_
                refine Rg.od rfl rfl rfl (OpT.pickF rfl hb32 rfl ?_)
                refine Rg.od rfl rfl rfl (OpT.move rfl ?_)
                refine Rg.gn rfl rfl rfl rfl rfl ?_
                refine Rg.od rfl rfl rfl (OpT.pickF rfl rfl rfl ?_)
                refine Rg.od rfl rfl rfl (OpT.assign rfl ?_)
                refine Rg.nil ?_
                refine hK31 _ _ ?_
                refine W.ret ?_
                refine ⟨_, Res.one rfl rfl, ?_⟩
                refine ⟨congrArg Value.bool ?_, ((((x2.trans x4).trans x9).trans x12).trans x30)⟩
                refine nodeEq ?_
                have hz := empty_iff s
                clear hv hL hT hl ht hs hn 
                grind
            · have hp29 := of_decide_eq_false hb29
              refine W.condFb rfl hb29 ?_
              refine W.seqK fun K34 hK34 => ?_
              refine W.region ?_
              refine Rg.od rfl rfl rfl (OpT.eqlI rfl rfl ?_)
              refine Rg.od rfl rfl rfl (OpT.assign rfl ?_)
              refine Rg.nil ?_
              refine hK34 _ _ ?_
              rcases Bool.eq_false_or_eq_true (decide (k = 8)) with hb35 | hb35
              · have hp35 := of_decide_eq_true hb35
                refine W.condTb rfl hb35 ?_
                rcases Bool.eq_false_or_eq_true (decide (0 ≤ n)) with hb36 | hb36
                · have hp36 := of_decide_eq_true hb36
                  refine W.draw (VS.ex _ :: VS.ex _ :: VS.ex _ :: VS.ex _ :: VS.ex _ :: VS.ex _ :: VS.ex _ :: VS.ex _ :: VS.ex _ :: VS.ex _ :: VS.ex _ :: VS.ex _ :: VS.ex _ :: []) mixed rfl rfl ⟨trivial, trivial, trivial, trivial, trivial, trivial, trivial, trivial, trivial, trivial, trivial, trivial, trivial, trivial⟩
                    ⟨fun w' hx _ => OpT.fieldAddrB (off := 2) Tryz.underlying27 rfl Tryz.sizeOf9 rfl rfl VS.ok,
                    fun w' hx _ => OpT.loadB Tryz.isAgg9 rfl (b2.ext (((x4.trans x9).trans x12).trans hx)) rfl VS.ok,
                    fun w' hx _ => OpT.call Tryz.call43 (.cons rfl .nil) (Runs.mono (tname_runs _ (by first | assumption | omega) _) fun v w h => VS.okx h.1 h.2),
                    fun w' hx _ => OpT.fieldAddrB (off := 1) Tryz.underlying27 rfl Tryz.sizeOf3 rfl rfl VS.ok,
                    fun w' hx _ => OpT.loadB Tryz.isAgg3 rfl (b2.ext (((x4.trans x9).trans x12).trans hx)) rfl VS.ok,
                    fun w' hx _ => OpT.geq rfl rfl VS.ok,
                    fun w' hx _ => OpT.move rfl VS.ok,
                    fun w' hx _ => .inl ⟨_, rfl, fun _ => OpT.fieldAddrB (off := 1) Tryz.underlying27 rfl Tryz.sizeOf3 rfl rfl VS.ok, fun h => absurd hb36 h⟩,
                    fun w' hx _ => .inl ⟨_, rfl, fun _ => OpT.loadB Tryz.isAgg3 rfl (b2.ext (((x4.trans x9).trans x12).trans hx)) rfl VS.ok, fun h => absurd hb36 h⟩,
                    fun w' hx _ => .inl ⟨_, rfl, fun _ => OpT.lss rfl rfl VS.ok, fun h => absurd hb36 h⟩,
                    fun w' hx _ => OpT.pickT rfl hb36 rfl VS.ok,
                    fun w' hx _ => OpT.assign rfl VS.ok,
                    fun w' hx _ => OpT.assign rfl VS.ok,
                    trivial⟩ ?_
                  intro w37 x37
                  refine hK13 _ _ ?_
                  refine W.seqK fun K38 hK38 => ?_
                  refine W.region ?_
                  refine Rg.od rfl rfl rfl (OpT.move rfl ?_)
                  refine Rg.od rfl rfl rfl (OpT.move rfl ?_)
                  rcases Bool.eq_false_or_eq_true (nameB s) with hb39 | hb39
                  · have hp39 := hb39
                    refine Rg.gy rfl rfl rfl rfl hb39 (OpT.move rfl ?_)
                    refine Rg.od rfl rfl rfl (OpT.pickT rfl hb39 rfl ?_)
                    refine Rg.od rfl rfl rfl (OpT.move rfl ?_)
                    rcases Bool.eq_false_or_eq_true (decide (n < 12)) with hb40 | hb40
                    · have hp40 := of_decide_eq_true hb40
                      refine Rg.gy rfl rfl rfl rfl hb40 (OpT.move rfl ?_)
                      refine Rg.od rfl rfl rfl (OpT.pickT rfl hb40 rfl ?_)
                      refine Rg.od rfl rfl rfl (OpT.assign rfl ?_)
                      refine Rg.nil ?_
                      refine hK38 _ _ ?_
                      refine W.ret ?_
                      refine ⟨_, Res.one rfl rfl, ?_⟩
                      refine ⟨congrArg Value.bool ?_, ((((x2.trans x4).trans x9).trans x12).trans x37)⟩
                      refine nodeEq ?_
                      have hz := empty_iff s
                      clear hv hL hT hl ht hs hn 
                      grind
                    · have hp40 := of_decide_eq_false hb40
                      refine Rg.gn rfl rfl rfl rfl hb40 ?_
                      refine Rg.od rfl rfl rfl (OpT.pickF rfl hb40 rfl ?_)
                      refine Rg.od rfl rfl rfl (OpT.assign rfl ?_)
                      refine Rg.nil ?_
                      refine hK38 _ _ ?_
                      refine W.ret ?_
                      refine ⟨_, Res.one rfl rfl, ?_⟩
                      refine ⟨congrArg Value.bool ?_, ((((x2.trans x4).trans x9).trans x12).trans x37)⟩
                      refine nodeEq ?_
                      have hz := empty_iff s
                      clear hv hL hT hl ht hs hn 
                      grind
                  · have hp39 := hb39
                    refine Rg.gn rfl rfl rfl rfl hb39 ?_
                    refine Rg.od rfl rfl rfl (OpT.pickF rfl hb39 rfl ?_)
                    refine Rg.od rfl rfl rfl (OpT.move rfl ?_)
                    refine Rg.gn rfl rfl rfl rfl rfl ?_
                    refine Rg.od rfl rfl rfl (OpT.pickF rfl rfl rfl ?_)
                    refine Rg.od rfl rfl rfl (OpT.assign rfl ?_)
                    refine Rg.nil ?_
                    refine hK38 _ _ ?_
                    refine W.ret ?_
                    refine ⟨_, Res.one rfl rfl, ?_⟩
                    refine ⟨congrArg Value.bool ?_, ((((x2.trans x4).trans x9).trans x12).trans x37)⟩
                    refine nodeEq ?_
                    have hz := empty_iff s
                    clear hv hL hT hl ht hs hn 
                    grind
                · have hp36 := of_decide_eq_false hb36
                  refine W.draw (VS.ex _ :: VS.ex _ :: VS.ex _ :: VS.ex _ :: VS.ex _ :: VS.ex _ :: VS.ex _ :: VS.ex undef :: VS.ex undef :: VS.ex undef :: VS.ex _ :: VS.ex _ :: VS.ex _ :: []) mixed rfl rfl ⟨trivial, trivial, trivial, trivial, trivial, trivial, trivial, trivial, trivial, trivial, trivial, trivial, trivial, trivial⟩
                    ⟨fun w' hx _ => OpT.fieldAddrB (off := 2) Tryz.underlying27 rfl Tryz.sizeOf9 rfl rfl VS.ok,
                    fun w' hx _ => OpT.loadB Tryz.isAgg9 rfl (b2.ext (((x4.trans x9).trans x12).trans hx)) rfl VS.ok,
                    fun w' hx _ => OpT.call Tryz.call43 (.cons rfl .nil) (Runs.mono (tname_runs _ (by first | assumption | omega) _) fun v w h => VS.okx h.1 h.2),
                    fun w' hx _ => OpT.fieldAddrB (off := 1) Tryz.underlying27 rfl Tryz.sizeOf3 rfl rfl VS.ok,
                    fun w' hx _ => OpT.loadB Tryz.isAgg3 rfl (b2.ext (((x4.trans x9).trans x12).trans hx)) rfl VS.ok,
                    fun w' hx _ => OpT.geq rfl rfl VS.ok,
                    fun w' hx _ => OpT.move rfl VS.ok,
                    fun w' hx _ => .inl ⟨_, rfl, fun h => absurd ((hb36).symm.trans h) (by decide), fun _ => VS.okn⟩,
                    fun w' hx _ => .inl ⟨_, rfl, fun h => absurd ((hb36).symm.trans h) (by decide), fun _ => VS.okn⟩,
                    fun w' hx _ => .inl ⟨_, rfl, fun h => absurd ((hb36).symm.trans h) (by decide), fun _ => VS.okn⟩,
                    fun w' hx _ => OpT.pickF rfl hb36 rfl VS.ok,
                    fun w' hx _ => OpT.assign rfl VS.ok,
                    fun w' hx _ => OpT.assign rfl VS.ok,
                    trivial⟩ ?_
                  intro w41 x41
                  refine hK13 _ _ ?_
                  refine W.seqK fun K42 hK42 => ?_
                  refine W.region ?_
                  refine Rg.od rfl rfl rfl (OpT.move rfl ?_)
                  refine Rg.od rfl rfl rfl (OpT.move rfl ?_)
                  rcases Bool.eq_false_or_eq_true (nameB s) with hb43 | hb43
                  · have hp43 := hb43
                    refine Rg.gy rfl rfl rfl rfl hb43 (OpT.move rfl ?_)
                    refine Rg.od rfl rfl rfl (OpT.pickT rfl hb43 rfl ?_)
                    refine Rg.od rfl rfl rfl (OpT.move rfl ?_)
                    refine Rg.gn rfl rfl rfl rfl rfl ?_
                    refine Rg.od rfl rfl rfl (OpT.pickF rfl rfl rfl ?_)
                    refine Rg.od rfl rfl rfl (OpT.assign rfl ?_)
                    refine Rg.nil ?_
                    refine hK42 _ _ ?_
                    refine W.ret ?_
                    refine ⟨_, Res.one rfl rfl, ?_⟩
                    refine ⟨congrArg Value.bool ?_, ((((x2.trans x4).trans x9).trans x12).trans x41)⟩
                    refine nodeEq ?_
                    have hz := empty_iff s
                    clear hv hL hT hl ht hs hn 
                    grind
                  · have hp43 := hb43
                    refine Rg.gn rfl rfl rfl rfl hb43 ?_
                    refine Rg.od rfl rfl rfl (OpT.pickF rfl hb43 rfl ?_)
                    refine Rg.od rfl rfl rfl (OpT.move rfl ?_)
                    refine Rg.gn rfl rfl rfl rfl rfl ?_
                    refine Rg.od rfl rfl rfl (OpT.pickF rfl rfl rfl ?_)
                    refine Rg.od rfl rfl rfl (OpT.assign rfl ?_)
                    refine Rg.nil ?_
                    refine hK42 _ _ ?_
                    refine W.ret ?_
                    refine ⟨_, Res.one rfl rfl, ?_⟩
                    refine ⟨congrArg Value.bool ?_, ((((x2.trans x4).trans x9).trans x12).trans x41)⟩
                    refine nodeEq ?_
                    have hz := empty_iff s
                    clear hv hL hT hl ht hs hn 
                    grind
              · have hp35 := of_decide_eq_false hb35
                refine W.condFb rfl hb35 ?_
                refine W.skip ?_
                refine hK13 _ _ ?_
                refine W.seqK fun K44 hK44 => ?_
                refine W.region ?_
                refine Rg.od rfl rfl rfl (OpT.move rfl ?_)
                refine Rg.od rfl rfl rfl (OpT.move rfl ?_)
                rcases Bool.eq_false_or_eq_true (s.toList == (⟨#[]⟩ : ByteArray).toList) with hb45 | hb45
                · have hp45 := hb45
                  refine Rg.gy rfl rfl rfl rfl hb45 (OpT.move rfl ?_)
                  refine Rg.od rfl rfl rfl (OpT.pickT rfl hb45 rfl ?_)
                  refine Rg.od rfl rfl rfl (OpT.move rfl ?_)
                  rcases Bool.eq_false_or_eq_true (decide (n = 0)) with hb46 | hb46
                  · have hp46 := of_decide_eq_true hb46
                    refine Rg.gy rfl rfl rfl rfl hb46 (OpT.move rfl ?_)
                    refine Rg.od rfl rfl rfl (OpT.pickT rfl hb46 rfl ?_)
                    refine Rg.od rfl rfl rfl (OpT.assign rfl ?_)
                    refine Rg.nil ?_
                    refine hK44 _ _ ?_
                    refine W.ret ?_
                    refine ⟨_, Res.one rfl rfl, ?_⟩
                    refine ⟨congrArg Value.bool ?_, (((x2.trans x4).trans x9).trans x12)⟩
                    refine nodeEq ?_
                    have hz := empty_iff s
                    clear hv hL hT hl ht hs hn 
                    grind
                  · have hp46 := of_decide_eq_false hb46
                    refine Rg.gn rfl rfl rfl rfl hb46 ?_
                    refine Rg.od rfl rfl rfl (OpT.pickF rfl hb46 rfl ?_)
                    refine Rg.od rfl rfl rfl (OpT.assign rfl ?_)
                    refine Rg.nil ?_
                    refine hK44 _ _ ?_
                    refine W.ret ?_
                    refine ⟨_, Res.one rfl rfl, ?_⟩
                    refine ⟨congrArg Value.bool ?_, (((x2.trans x4).trans x9).trans x12)⟩
                    refine nodeEq ?_
                    have hz := empty_iff s
                    clear hv hL hT hl ht hs hn 
                    grind
                · have hp45 := hb45
                  refine Rg.gn rfl rfl rfl rfl hb45 ?_
                  refine Rg.od rfl rfl rfl (OpT.pickF rfl hb45 rfl ?_)
                  refine Rg.od rfl rfl rfl (OpT.move rfl ?_)
                  refine Rg.gn rfl rfl rfl rfl rfl ?_
                  refine Rg.od rfl rfl rfl (OpT.pickF rfl rfl rfl ?_)
                  refine Rg.od rfl rfl rfl (OpT.assign rfl ?_)
                  refine Rg.nil ?_
                  refine hK44 _ _ ?_
                  refine W.ret ?_
                  refine ⟨_, Res.one rfl rfl, ?_⟩
                  refine ⟨congrArg Value.bool ?_, (((x2.trans x4).trans x9).trans x12)⟩
                  refine nodeEq ?_
                  have hz := empty_iff s
                  clear hv hL hT hl ht hs hn 
                  grind
      · have hp10 := hb10
        refine W.condTb rfl (nF hb10) ?_
        refine W.seqK fun K47 hK47 => ?_
        refine W.region ?_
        refine Rg.od rfl rfl rfl (OpT.assign rfl ?_)
        refine Rg.nil ?_
        refine hK47 _ _ ?_
        refine W.ret ?_
        refine ⟨_, Res.one rfl rfl, ?_⟩
        refine ⟨congrArg Value.bool ?_, ((x2.trans x4).trans x9)⟩
        refine nodeEq ?_
        have hz := empty_iff s
        clear hv hL hT hl ht hs hn 
        grind
    · have hp8 := of_decide_eq_false hb8
      refine Rg.gn rfl rfl rfl rfl (nF hb8) ?_
      refine Rg.gn rfl rfl rfl rfl (nF hb8) ?_
      refine Rg.gn rfl rfl rfl rfl (nF hb8) ?_
      refine Rg.od rfl rfl rfl (OpT.pickT rfl (nF hb8) rfl ?_)
      refine Rg.nil ?_
      refine hK6 _ _ ?_
      refine W.condTb rfl rfl ?_
      refine W.seqK fun K48 hK48 => ?_
      refine W.region ?_
      refine Rg.od rfl rfl rfl (OpT.assign rfl ?_)
      refine Rg.nil ?_
      refine hK48 _ _ ?_
      refine W.ret ?_
      refine ⟨_, Res.one rfl rfl, ?_⟩
      refine ⟨congrArg Value.bool ?_, (x2.trans x4)⟩
      refine nodeEq ?_
      have hz := empty_iff s
      clear hv hL hT hl ht hs hn 
      grind
  · have hp7 := of_decide_eq_false hb7
    refine Rg.gn rfl rfl rfl rfl (nF hb7) ?_
    refine Rg.gn rfl rfl rfl rfl (nF hb7) ?_
    refine Rg.gn rfl rfl rfl rfl (nF hb7) ?_
    refine Rg.gn rfl rfl rfl rfl (nF hb7) ?_
    refine Rg.gn rfl rfl rfl rfl (nF hb7) ?_
    refine Rg.od rfl rfl rfl (OpT.pickT rfl (nF hb7) rfl ?_)
    refine Rg.od rfl rfl rfl (OpT.move rfl ?_)
    refine Rg.gn rfl rfl rfl rfl rfl ?_
    refine Rg.gn rfl rfl rfl rfl rfl ?_
    refine Rg.gn rfl rfl rfl rfl rfl ?_
    refine Rg.od rfl rfl rfl (OpT.pickT rfl rfl rfl ?_)
    refine Rg.nil ?_
    refine hK6 _ _ ?_
    refine W.condTb rfl rfl ?_
    refine W.seqK fun K49 hK49 => ?_
    refine W.region ?_
    refine Rg.od rfl rfl rfl (OpT.assign rfl ?_)
    refine Rg.nil ?_
    refine hK49 _ _ ?_
    refine W.ret ?_
    refine ⟨_, Res.one rfl rfl, ?_⟩
    refine ⟨congrArg Value.bool ?_, (x2.trans x4)⟩
    refine nodeEq ?_
    have hz := empty_iff s
    clear hv hL hT hl ht hs hn 
    grind
set_option maxHeartbeats 1000000 in
set_option maxRecDepth 20000 in
theorem rnode_runs (t : T) (cs : List Value) (w0 : World) (R : Nat → Prop) (hv : VT w0 R cs t) : Runs Tryz.prog 62 #[.agg cs.toArray] w0 fun v w' => v = .bool (nodeB t) ∧ Ext w0 w' := by
  obtain ⟨k, n, s, ls, ts, la, lc, ta, tc, rfl, rfl, hk, hn, hs, hl, ht, hL, hT⟩ := hv.inv
  refine Runs.of_W (vs := [_]) Tryz.func62 rfl rfl ?_
  refine W.seqK fun K1 hK1 => ?_
  refine W.region ?_
  refine Rg.od rfl rfl rfl (OpT.box rfl fun w2 g2 e2 x2 z2 b2 => ?_)
  replace b2 : Box w2 g2 [.int .u8 k, .int .i64 n, .string s, .slice la ls.length lc, .slice ta ts.length tc] := b2
  refine Rg.od rfl rfl rfl (OpT.assign rfl ?_)
  refine Rg.nil ?_
  refine hK1 _ _ ?_
  refine W.seqK fun K3 hK3 => ?_
  refine W.seqK fun K4 hK4 => ?_
  rcases Bool.eq_false_or_eq_true (decide (kidsI k < 0)) with hb5 | hb5
  · have hp5 := of_decide_eq_true hb5
    refine W.draw (VS.ex _ :: VS.ex _ :: VS.ex _ :: VS.ex _ :: VS.ex _ :: VS.ex undef :: VS.ex undef :: VS.ex undef :: VS.ex undef :: VS.ex undef :: VS.ex undef :: VS.ex undef :: VS.ex _ :: []) mixed rfl rfl ⟨trivial, trivial, trivial, trivial, trivial, trivial, trivial, trivial, trivial, trivial, trivial, trivial, trivial, trivial⟩
      ⟨fun w' hx _ => OpT.fieldAddrB (off := 0) Tryz.underlying27 rfl Tryz.sizeOf5 rfl rfl VS.ok,
      fun w' hx _ => OpT.loadB Tryz.isAgg5 rfl (b2.ext hx) rfl VS.ok,
      fun w' hx _ => OpT.call Tryz.call79 (.cons rfl .nil) (Runs.mono (rkids_runs _ _) fun v w h => VS.okx h.1 h.2),
      fun w' hx _ => OpT.lss rfl rfl VS.ok,
      fun w' hx _ => OpT.move rfl VS.ok,
      fun w' hx _ => .inl ⟨_, rfl, fun h => absurd ((hb5).symm.trans h) (by decide), fun _ => VS.okn⟩,
      fun w' hx _ => .inl ⟨_, rfl, fun h => absurd ((hb5).symm.trans h) (by decide), fun _ => VS.okn⟩,
      fun w' hx _ => .inl ⟨_, rfl, fun h => absurd ((hb5).symm.trans h) (by decide), fun _ => VS.okn⟩,
      fun w' hx _ => .inl ⟨_, rfl, fun h => absurd ((hb5).symm.trans h) (by decide), fun _ => VS.okn⟩,
      fun w' hx _ => .inl ⟨_, rfl, fun h => absurd ((hb5).symm.trans h) (by decide), fun _ => VS.okn⟩,
      fun w' hx _ => .inl ⟨_, rfl, fun h => absurd ((hb5).symm.trans h) (by decide), fun _ => VS.okn⟩,
      fun w' hx _ => .inl ⟨_, rfl, fun h => absurd ((hb5).symm.trans h) (by decide), fun _ => VS.okn⟩,
      fun w' hx _ => OpT.pickT rfl hb5 rfl VS.ok,
      trivial⟩ ?_
    intro w6 x6
    refine hK4 _ _ ?_
    refine W.condTb rfl rfl ?_
    refine W.seqK fun K7 hK7 => ?_
    refine W.region ?_
    refine Rg.od rfl rfl rfl (OpT.assign rfl ?_)
    refine Rg.nil ?_
    refine hK7 _ _ ?_
    refine W.ret ?_
    refine ⟨_, Res.one rfl rfl, ?_⟩
    refine ⟨congrArg Value.bool ?_, (x2.trans x6)⟩
    refine nodeEq ?_
    have hz := empty_iff s
    clear hv hL hT hl ht hs hn 
    grind
  · have hp5 := of_decide_eq_false hb5
    refine W.draw (VS.ex _ :: VS.ex _ :: VS.ex _ :: VS.ex _ :: VS.ex _ :: VS.ex _ :: VS.ex _ :: VS.ex _ :: VS.ex _ :: VS.ex _ :: VS.ex _ :: VS.ex _ :: VS.ex _ :: []) mixed rfl rfl ⟨trivial, trivial, trivial, trivial, trivial, trivial, trivial, trivial, trivial, trivial, trivial, trivial, trivial, trivial⟩
      ⟨fun w' hx _ => OpT.fieldAddrB (off := 0) Tryz.underlying27 rfl Tryz.sizeOf5 rfl rfl VS.ok,
      fun w' hx _ => OpT.loadB Tryz.isAgg5 rfl (b2.ext hx) rfl VS.ok,
      fun w' hx _ => OpT.call Tryz.call79 (.cons rfl .nil) (Runs.mono (rkids_runs _ _) fun v w h => VS.okx h.1 h.2),
      fun w' hx _ => OpT.lss rfl rfl VS.ok,
      fun w' hx _ => OpT.move rfl VS.ok,
      fun w' hx _ => .inl ⟨_, rfl, fun _ => OpT.fieldAddrB (off := 4) Tryz.underlying27 rfl Tryz.sizeOf25 rfl rfl VS.ok, fun h => absurd hb5 h⟩,
      fun w' hx _ => .inl ⟨_, rfl, fun _ => OpT.loadB Tryz.isAgg25 rfl (b2.ext hx) rfl VS.ok, fun h => absurd hb5 h⟩,
      fun w' hx _ => .inl ⟨_, rfl, fun _ => OpT.lenS Tryz.underlying25 rfl VS.ok, fun h => absurd hb5 h⟩,
      fun w' hx _ => .inl ⟨_, rfl, fun _ => OpT.fieldAddrB (off := 0) Tryz.underlying27 rfl Tryz.sizeOf5 rfl rfl VS.ok, fun h => absurd hb5 h⟩,
      fun w' hx _ => .inl ⟨_, rfl, fun _ => OpT.loadB Tryz.isAgg5 rfl (b2.ext hx) rfl VS.ok, fun h => absurd hb5 h⟩,
      fun w' hx _ => .inl ⟨_, rfl, fun _ => OpT.call Tryz.call79 (.cons rfl .nil) (Runs.mono (rkids_runs _ _) fun v w h => VS.okx h.1 h.2), fun h => absurd hb5 h⟩,
      fun w' hx _ => .inl ⟨_, rfl, fun _ => OpT.neqI rfl rfl VS.ok, fun h => absurd hb5 h⟩,
      fun w' hx _ => OpT.pickF rfl hb5 rfl VS.ok,
      trivial⟩ ?_
    intro w8 x8
    refine hK4 _ _ ?_
    rcases Bool.eq_false_or_eq_true (decide (((ts.length : Nat) : Int) = kidsI k)) with hb9 | hb9
    · have hp9 := of_decide_eq_true hb9
      refine W.condFb rfl (nT hb9) ?_
      refine W.skip ?_
      refine hK3 _ _ ?_
      refine W.seqK fun K10 hK10 => ?_
      refine W.seqK fun K11 hK11 => ?_
      refine W.region ?_
      refine Rg.od rfl rfl rfl (OpT.assign rfl ?_)
      refine Rg.nil ?_
      refine hK11 _ _ ?_
      refine W.block ?_
      refine W.loop (σ := Nat) (fun q e w' => Sub [(0, .agg ([.int .u8 k, .int .i64 n, .string s, .slice la ls.length lc, .slice ta ts.length tc].toArray)), (1, .pointer (some ⟨g2, 0, none⟩)), (2, .bool false), (3, .int .i64 ((q : Nat) : Int)), (7, .pointer (some ⟨g2, 0, none⟩)), (8, .int .u8 k), (9, .int .i64 (kidsI k)), (10, .bool (decide (kidsI k < 0))), (11, .bool (decide (kidsI k < 0))), (12, .pointer (some ⟨g2, 4, none⟩)), (13, .slice ta ts.length tc), (14, .int .i64 ((ts.length : Nat) : Int)), (15, .pointer (some ⟨g2, 0, none⟩)), (16, .int .u8 k), (17, .int .i64 (kidsI k)), (18, .bool (!decide (((ts.length : Nat) : Int) = kidsI k))), (19, .bool (!decide (((ts.length : Nat) : Int) = kidsI k)))] e ∧ Ext w8 w' ∧ q ≤ ls.length ∧ ∀ i, i < q → ∀ l, ls[i]? = some l → l.may = true) (fun q => ls.length - q) 0
        ⟨⟨rfl, rfl, rfl, rfl, rfl, rfl, rfl, rfl, rfl, rfl, rfl, rfl, rfl, rfl, rfl, rfl, rfl, trivial⟩, Mod.refl _ _, Nat.zero_le _, fun i hi => by omega⟩ ?_
      rintro s12 en12 w12 ⟨hs12, x12, hi12_0, hi12_1⟩
      refine W.sub hs12 ?_
      refine W.seqK fun K13 hK13 => ?_
      refine W.seqK fun K14 hK14 => ?_
      refine W.region ?_
      refine Rg.od rfl rfl rfl (OpT.move rfl ?_)
      refine Rg.od rfl rfl rfl (OpT.fieldAddrB (off := 3) Tryz.underlying27 rfl Tryz.sizeOf24 rfl rfl ?_)
      refine Rg.od rfl rfl rfl (OpT.loadB Tryz.isAgg24 rfl (b2.ext (x8.trans x12)) rfl ?_)
      refine Rg.od rfl rfl rfl (OpT.lenS Tryz.underlying24 rfl ?_)
      refine Rg.od rfl rfl rfl (OpT.lss rfl rfl ?_)
      refine Rg.nil ?_
      refine hK14 _ _ ?_
      rcases Bool.eq_false_or_eq_true (decide (((s12 : Nat) : Int) < ((ls.length : Nat) : Int))) with hb15 | hb15
      · have hp15 := of_decide_eq_true hb15
        refine W.condTb rfl hb15 ?_
        refine W.skip ?_
        refine hK13 _ _ ?_
        refine W.seqK fun K16 hK16 => ?_
        refine W.block ?_
        refine W.seqK fun K17 hK17 => ?_
        refine W.region ?_
        refine Rg.od rfl rfl rfl (OpT.fieldAddrB (off := 3) Tryz.underlying27 rfl Tryz.sizeOf24 rfl rfl ?_)
        refine Rg.od rfl rfl rfl (OpT.loadB Tryz.isAgg24 rfl (b2.ext (x8.trans x12)) rfl ?_)
        refine Rg.od rfl rfl rfl (OpT.move rfl ?_)
        obtain ⟨a18, ha18, hr18, hw18, hv18⟩ := hL.at (i := s12) (by first | omega | (unfold lenOk at *; omega))
        refine Rg.od rfl rfl rfl (OpT.indexAddr Tryz.underlying24 Tryz.sizeOf69 rfl rfl ha18 (by first | omega | (unfold lenOk at *; omega)) ?_)
        refine Rg.od rfl rfl rfl (OpT.loadA (cs := [.int .i64 (ls[s12].c), .int .i64 (ls[s12].p0), .int .i64 (ls[s12].p1), .int .i64 (ls[s12].p2), .int .i64 (ls[s12].p3)]) Tryz.isAgg69 Tryz.sizeOf69 rfl (hw18.ext ((x2.trans x8).trans x12)) ?_)
        refine Rg.od rfl rfl rfl (OpT.call Tryz.call80 (.cons rfl .nil) (Runs.mono (rmay_runs _ _) ?_))
        rintro _ w19 ⟨rfl, x19⟩
        refine Rg.od rfl rfl rfl (OpT.notB rfl ?_)
        refine Rg.nil ?_
        refine hK17 _ _ ?_
        rcases Bool.eq_false_or_eq_true ((ls[s12]).may) with hb20 | hb20
        · have hp20 := hb20
          refine W.condFb rfl (nT hb20) ?_
          refine W.skip ?_
          refine hK16 _ _ ?_
          refine W.region ?_
          refine Rg.od rfl rfl rfl (OpT.move rfl ?_)
          refine Rg.od rfl rfl rfl (OpT.add rfl rfl (by first | omega | (unfold lenOk at *; omega)) ?_)
          refine Rg.od rfl rfl rfl (OpT.assign rfl ?_)
          refine Rg.nil ?_
          exact ⟨s12 + 1, ⟨⟨rfl, rfl, rfl, rfl, rfl, rfl, rfl, rfl, rfl, rfl, rfl, rfl, rfl, rfl, rfl, rfl, rfl, trivial⟩, (x12.trans x19), by omega, all_succ hi12_1 (fun l hl => by rw [List.getElem?_eq_getElem (by omega)] at hl; cases hl; exact hb20)⟩, by omega⟩
        · have hp20 := hb20
          refine W.condTb rfl (nF hb20) ?_
          refine W.seqK fun K21 hK21 => ?_
          refine W.region ?_
          refine Rg.od rfl rfl rfl (OpT.assign rfl ?_)
          refine Rg.nil ?_
          refine hK21 _ _ ?_
          refine W.ret ?_
          refine ⟨_, Res.one rfl rfl, ?_⟩
          refine ⟨congrArg Value.bool ?_, (((x2.trans x8).trans x12).trans x19)⟩
          refine nodeEq ?_
          have hno := all_no (p := L.may) (by omega) hb20
          clear hv hL hT hl ht hs hn
          grind
      · have hp15 := of_decide_eq_false hb15
        refine W.condFb rfl hb15 ?_
        refine W.exit ?_
        refine hK10 _ _ ?_
        refine W.seqK fun K22 hK22 => ?_
        refine W.region ?_
        refine Rg.od rfl rfl rfl (OpT.fieldAddrB (off := 2) Tryz.underlying27 rfl Tryz.sizeOf9 rfl rfl ?_)
        refine Rg.od rfl rfl rfl (OpT.loadB Tryz.isAgg9 rfl (b2.ext (x8.trans x12)) rfl ?_)
        refine Rg.od rfl rfl rfl (OpT.eqlS rfl rfl ?_)
        refine Rg.od rfl rfl rfl (OpT.assign rfl ?_)
        refine Rg.nil ?_
        refine hK22 _ _ ?_
        refine W.seqK fun K23 hK23 => ?_
        refine W.region ?_
        refine Rg.od rfl rfl rfl (OpT.fieldAddrB (off := 1) Tryz.underlying27 rfl Tryz.sizeOf3 rfl rfl ?_)
        refine Rg.od rfl rfl rfl (OpT.loadB Tryz.isAgg3 rfl (b2.ext (x8.trans x12)) rfl ?_)
        refine Rg.od rfl rfl rfl (OpT.eqlI rfl rfl ?_)
        refine Rg.od rfl rfl rfl (OpT.assign rfl ?_)
        refine Rg.nil ?_
        refine hK23 _ _ ?_
        refine W.seqK fun K24 hK24 => ?_
        refine W.region ?_
        refine Rg.od rfl rfl rfl (OpT.fieldAddrB (off := 3) Tryz.underlying27 rfl Tryz.sizeOf24 rfl rfl ?_)
        refine Rg.od rfl rfl rfl (OpT.loadB Tryz.isAgg24 rfl (b2.ext (x8.trans x12)) rfl ?_)
        refine Rg.od rfl rfl rfl (OpT.lenS Tryz.underlying24 rfl ?_)
        refine Rg.od rfl rfl rfl (OpT.eqlI rfl rfl ?_)
        refine Rg.od rfl rfl rfl (OpT.assign rfl ?_)
        refine Rg.nil ?_
        refine hK24 _ _ ?_
        refine W.seqK fun K25 hK25 => ?_
        refine W.seqK fun K26 hK26 => ?_
        refine W.region ?_
        refine Rg.od rfl rfl rfl (OpT.fieldAddrB (off := 0) Tryz.underlying27 rfl Tryz.sizeOf5 rfl rfl ?_)
        refine Rg.od rfl rfl rfl (OpT.loadB Tryz.isAgg5 rfl (b2.ext (x8.trans x12)) rfl ?_)
        refine Rg.nil ?_
        refine hK26 _ _ ?_
        refine W.block ?_
        refine W.seqK fun K27 hK27 => ?_
        refine W.region ?_
        refine Rg.od rfl rfl rfl (OpT.eqlI rfl rfl ?_)
        refine Rg.od rfl rfl rfl (OpT.assign rfl ?_)
        refine Rg.nil ?_
        refine hK27 _ _ ?_
        rcases Bool.eq_false_or_eq_true (decide (k = 1)) with hb28 | hb28
        · have hp28 := of_decide_eq_true hb28
          refine W.condTb rfl hb28 ?_
          refine W.region ?_
          refine Rg.od rfl rfl rfl (OpT.fieldAddrB (off := 3) Tryz.underlying27 rfl Tryz.sizeOf24 rfl rfl ?_)
          refine Rg.od rfl rfl rfl (OpT.loadB Tryz.isAgg24 rfl (b2.ext (x8.trans x12)) rfl ?_)
          refine Rg.od rfl rfl rfl (OpT.lenS Tryz.underlying24 rfl ?_)
          refine Rg.od rfl rfl rfl (OpT.eqlI rfl rfl ?_)
          refine Rg.od rfl rfl rfl (OpT.assign rfl ?_)
          refine Rg.nil ?_
          refine hK25 _ _ ?_
          refine W.seqK fun K29 hK29 => ?_
          refine W.region ?_
          refine Rg.od rfl rfl rfl (OpT.move rfl ?_)
          refine Rg.od rfl rfl rfl (OpT.move rfl ?_)
          rcases Bool.eq_false_or_eq_true (s.toList == (⟨#[]⟩ : ByteArray).toList) with hb30 | hb30
          · have hp30 := hb30
            refine Rg.gy rfl rfl rfl rfl hb30 (OpT.move rfl ?_)
            refine Rg.od rfl rfl rfl (OpT.pickT rfl hb30 rfl ?_)
            refine Rg.od rfl rfl rfl (OpT.move rfl ?_)
            rcases Bool.eq_false_or_eq_true (decide (n = 0)) with hb31 | hb31
            · have hp31 := of_decide_eq_true hb31
              refine Rg.gy rfl rfl rfl rfl hb31 (OpT.move rfl ?_)
              refine Rg.od rfl rfl rfl (OpT.pickT rfl hb31 rfl ?_)
              refine Rg.od rfl rfl rfl (OpT.assign rfl ?_)
              refine Rg.nil ?_
              refine hK29 _ _ ?_
              refine W.ret ?_
              refine ⟨_, Res.one rfl rfl, ?_⟩
              refine ⟨congrArg Value.bool ?_, ((x2.trans x8).trans x12)⟩
              refine nodeEq ?_
              have hall := all_of_idx hi12_1 (by omega)
              have hz := empty_iff s
              clear hv hL hT hl ht hs hn hi12_1
              grind
            · have hp31 := of_decide_eq_false hb31
              refine Rg.gn rfl rfl rfl rfl hb31 ?_
              refine Rg.od rfl rfl rfl (OpT.pickF rfl hb31 rfl ?_)
              refine Rg.od rfl rfl rfl (OpT.assign rfl ?_)
              refine Rg.nil ?_
              refine hK29 _ _ ?_
              refine W.ret ?_
              refine ⟨_, Res.one rfl rfl, ?_⟩
              refine ⟨congrArg Value.bool ?_, ((x2.trans x8).trans x12)⟩
              refine nodeEq ?_
              have hall := all_of_idx hi12_1 (by omega)
              have hz := empty_iff s
              clear hv hL hT hl ht hs hn hi12_1
              grind
          · have hp30 := hb30
            refine Rg.gn rfl rfl rfl rfl hb30 ?_
            refine Rg.od rfl rfl rfl (OpT.pickF rfl hb30 rfl ?_)
            refine Rg.od rfl rfl rfl (OpT.move rfl ?_)
            refine Rg.gn rfl rfl rfl rfl rfl ?_
            refine Rg.od rfl rfl rfl (OpT.pickF rfl rfl rfl ?_)
            refine Rg.od rfl rfl rfl (OpT.assign rfl ?_)
            refine Rg.nil ?_
            refine hK29 _ _ ?_
            refine W.ret ?_
            refine ⟨_, Res.one rfl rfl, ?_⟩
            refine ⟨congrArg Value.bool ?_, ((x2.trans x8).trans x12)⟩
            refine nodeEq ?_
            have hall := all_of_idx hi12_1 (by omega)
            have hz := empty_iff s
            clear hv hL hT hl ht hs hn hi12_1
            grind
        · have hp28 := of_decide_eq_false hb28
          refine W.condFb rfl hb28 ?_
          refine W.seqK fun K32 hK32 => ?_
          refine W.region ?_
          refine Rg.od rfl rfl rfl (OpT.eqlI rfl rfl ?_)
          refine Rg.od rfl rfl rfl (OpT.assign rfl ?_)
          refine Rg.nil ?_
          refine hK32 _ _ ?_
          rcases Bool.eq_false_or_eq_true (decide (k = 2)) with hb33 | hb33
          · have hp33 := of_decide_eq_true hb33
            refine W.condTb rfl hb33 ?_
            refine W.region ?_
            refine Rg.od rfl rfl rfl (OpT.fieldAddrB (off := 1) Tryz.underlying27 rfl Tryz.sizeOf3 rfl rfl ?_)
            refine Rg.od rfl rfl rfl (OpT.loadB Tryz.isAgg3 rfl (b2.ext (x8.trans x12)) rfl ?_)
            refine Rg.od rfl rfl rfl (OpT.geq rfl rfl ?_)
            refine Rg.od rfl rfl rfl (OpT.move rfl ?_)
            rcases Bool.eq_false_or_eq_true (decide (0 ≤ n)) with hb34 | hb34
            · have hp34 := of_decide_eq_true hb34
              refine Rg.gy rfl rfl rfl rfl hb34 (OpT.fieldAddrB (off := 1) Tryz.underlying27 rfl Tryz.sizeOf3 rfl rfl ?_)
              refine Rg.gy rfl rfl rfl rfl hb34 (OpT.loadB Tryz.isAgg3 rfl (b2.ext (x8.trans x12)) rfl ?_)
              refine Rg.gy rfl rfl rfl rfl hb34 (OpT.leq rfl rfl ?_)
              refine Rg.od rfl rfl rfl (OpT.pickT rfl hb34 rfl ?_)
              refine Rg.od rfl rfl rfl (OpT.assign rfl ?_)
              refine Rg.nil ?_
              refine hK25 _ _ ?_
              refine W.seqK fun K35 hK35 => ?_
              refine W.region ?_
              refine Rg.od rfl rfl rfl (OpT.move rfl ?_)
              refine Rg.od rfl rfl rfl (OpT.move rfl ?_)
              rcases Bool.eq_false_or_eq_true (s.toList == (⟨#[]⟩ : ByteArray).toList) with hb36 | hb36
              · have hp36 := hb36
                refine Rg.gy rfl rfl rfl rfl hb36 (OpT.move rfl ?_)
                refine Rg.od rfl rfl rfl (OpT.pickT rfl hb36 rfl ?_)
                refine Rg.od rfl rfl rfl (OpT.move rfl ?_)
                rcases Bool.eq_false_or_eq_true (decide (n ≤ 1048576)) with hb37 | hb37
                · have hp37 := of_decide_eq_true hb37
                  refine Rg.gy rfl rfl rfl rfl hb37 (OpT.move rfl ?_)
                  refine Rg.od rfl rfl rfl (OpT.pickT rfl hb37 rfl ?_)
                  refine Rg.od rfl rfl rfl (OpT.assign rfl ?_)
                  refine Rg.nil ?_
                  refine hK35 _ _ ?_
                  refine W.ret ?_
                  refine ⟨_, Res.one rfl rfl, ?_⟩
                  refine ⟨congrArg Value.bool ?_, ((x2.trans x8).trans x12)⟩
                  refine nodeEq ?_
                  have hall := all_of_idx hi12_1 (by omega)
                  have hz := empty_iff s
                  clear hv hL hT hl ht hs hn hi12_1
                  grind
                · have hp37 := of_decide_eq_false hb37
                  refine Rg.gn rfl rfl rfl rfl hb37 ?_
                  refine Rg.od rfl rfl rfl (OpT.pickF rfl hb37 rfl ?_)
                  refine Rg.od rfl rfl rfl (OpT.assign rfl ?_)
                  refine Rg.nil ?_
                  refine hK35 _ _ ?_
                  refine W.ret ?_
                  refine ⟨_, Res.one rfl rfl, ?_⟩
                  refine ⟨congrArg Value.bool ?_, ((x2.trans x8).trans x12)⟩
                  refine nodeEq ?_
                  have hall := all_of_idx hi12_1 (by omega)
                  have hz := empty_iff s
                  clear hv hL hT hl ht hs hn hi12_1
                  grind
              · have hp36 := hb36
                refine Rg.gn rfl rfl rfl rfl hb36 ?_
                refine Rg.od rfl rfl rfl (OpT.pickF rfl hb36 rfl ?_)
                refine Rg.od rfl rfl rfl (OpT.move rfl ?_)
                refine Rg.gn rfl rfl rfl rfl rfl ?_
                refine Rg.od rfl rfl rfl (OpT.pickF rfl rfl rfl ?_)
                refine Rg.od rfl rfl rfl (OpT.assign rfl ?_)
                refine Rg.nil ?_
                refine hK35 _ _ ?_
                refine W.ret ?_
                refine ⟨_, Res.one rfl rfl, ?_⟩
                refine ⟨congrArg Value.bool ?_, ((x2.trans x8).trans x12)⟩
                refine nodeEq ?_
                have hall := all_of_idx hi12_1 (by omega)
                have hz := empty_iff s
                clear hv hL hT hl ht hs hn hi12_1
                grind
            · have hp34 := of_decide_eq_false hb34
              refine Rg.gn rfl rfl rfl rfl hb34 ?_
              refine Rg.gn rfl rfl rfl rfl hb34 ?_
              refine Rg.gn rfl rfl rfl rfl hb34 ?_
              refine Rg.od rfl rfl rfl (OpT.pickF rfl hb34 rfl ?_)
              refine Rg.od rfl rfl rfl (OpT.assign rfl ?_)
              refine Rg.nil ?_
              refine hK25 _ _ ?_
              refine W.seqK fun K38 hK38 => ?_
              refine W.region ?_
              refine Rg.od rfl rfl rfl (OpT.move rfl ?_)
              refine Rg.od rfl rfl rfl (OpT.move rfl ?_)
              rcases Bool.eq_false_or_eq_true (s.toList == (⟨#[]⟩ : ByteArray).toList) with hb39 | hb39
              · have hp39 := hb39
                refine Rg.gy rfl rfl rfl rfl hb39 (OpT.move rfl ?_)
                refine Rg.od rfl rfl rfl (OpT.pickT rfl hb39 rfl ?_)
                refine Rg.od rfl rfl rfl (OpT.move rfl ?_)
                refine Rg.gn rfl rfl rfl rfl rfl ?_
                refine Rg.od rfl rfl rfl (OpT.pickF rfl rfl rfl ?_)
                refine Rg.od rfl rfl rfl (OpT.assign rfl ?_)
                refine Rg.nil ?_
                refine hK38 _ _ ?_
                refine W.ret ?_
                refine ⟨_, Res.one rfl rfl, ?_⟩
                refine ⟨congrArg Value.bool ?_, ((x2.trans x8).trans x12)⟩
                refine nodeEq ?_
                have hall := all_of_idx hi12_1 (by omega)
                have hz := empty_iff s
                clear hv hL hT hl ht hs hn hi12_1
                grind
              · have hp39 := hb39
                refine Rg.gn rfl rfl rfl rfl hb39 ?_
                refine Rg.od rfl rfl rfl (OpT.pickF rfl hb39 rfl ?_)
                refine Rg.od rfl rfl rfl (OpT.move rfl ?_)
                refine Rg.gn rfl rfl rfl rfl rfl ?_
                refine Rg.od rfl rfl rfl (OpT.pickF rfl rfl rfl ?_)
                refine Rg.od rfl rfl rfl (OpT.assign rfl ?_)
                refine Rg.nil ?_
                refine hK38 _ _ ?_
                refine W.ret ?_
                refine ⟨_, Res.one rfl rfl, ?_⟩
                refine ⟨congrArg Value.bool ?_, ((x2.trans x8).trans x12)⟩
                refine nodeEq ?_
                have hall := all_of_idx hi12_1 (by omega)
                have hz := empty_iff s
                clear hv hL hT hl ht hs hn hi12_1
                grind
          · have hp33 := of_decide_eq_false hb33
            refine W.condFb rfl hb33 ?_
            refine W.seqK fun K40 hK40 => ?_
            refine W.region ?_
            refine Rg.od rfl rfl rfl (OpT.eqlI rfl rfl ?_)
            refine Rg.od rfl rfl rfl (OpT.assign rfl ?_)
            refine Rg.nil ?_
            refine hK40 _ _ ?_
            rcases Bool.eq_false_or_eq_true (decide (k = 3)) with hb41 | hb41
            · have hp41 := of_decide_eq_true hb41
              refine W.condTb rfl hb41 ?_
              refine W.seqK fun K42 hK42 => ?_
              refine W.region ?_
              refine Rg.od rfl rfl rfl (OpT.fieldAddrB (off := 2) Tryz.underlying27 rfl Tryz.sizeOf9 rfl rfl ?_)
              refine Rg.od rfl rfl rfl (OpT.loadB Tryz.isAgg9 rfl (b2.ext (x8.trans x12)) rfl ?_)
              refine Rg.od rfl rfl rfl (OpT.call Tryz.call53 (.cons rfl .nil) (Runs.mono (rname_runs _ (by first | assumption | omega) _) ?_))
              rintro _ w43 ⟨rfl, x43⟩
              refine Rg.od rfl rfl rfl (OpT.assign rfl ?_)
              refine Rg.nil ?_
              refine hK42 _ _ ?_
              refine W.region ?_
              refine Rg.od rfl rfl rfl (OpT.fieldAddrB (off := 3) Tryz.underlying27 rfl Tryz.sizeOf24 rfl rfl ?_)
              refine Rg.od rfl rfl rfl (OpT.loadB Tryz.isAgg24 rfl (b2.ext ((x8.trans x12).trans x43)) rfl ?_)
              refine Rg.od rfl rfl rfl (OpT.lenS Tryz.underlying24 rfl ?_)
              refine Rg.od rfl rfl rfl (OpT.leq rfl rfl ?_)
              refine Rg.od rfl rfl rfl (OpT.assign rfl ?_)
              refine Rg.nil ?_
              refine hK25 _ _ ?_
              refine W.seqK fun K44 hK44 => ?_
              refine W.region ?_
              refine Rg.od rfl rfl rfl (OpT.move rfl ?_)
              refine Rg.od rfl rfl rfl (OpT.move rfl ?_)
              rcases Bool.eq_false_or_eq_true (nameB s) with hb45 | hb45
              · have hp45 := hb45
                refine Rg.gy rfl rfl rfl rfl hb45 (OpT.move rfl ?_)
                refine Rg.od rfl rfl rfl (OpT.pickT rfl hb45 rfl ?_)
                refine Rg.od rfl rfl rfl (OpT.move rfl ?_)
                rcases Bool.eq_false_or_eq_true (decide (n = 0)) with hb46 | hb46
                · have hp46 := of_decide_eq_true hb46
                  refine Rg.gy rfl rfl rfl rfl hb46 (OpT.move rfl ?_)
                  refine Rg.od rfl rfl rfl (OpT.pickT rfl hb46 rfl ?_)
                  refine Rg.od rfl rfl rfl (OpT.assign rfl ?_)
                  refine Rg.nil ?_
                  refine hK44 _ _ ?_
                  refine W.ret ?_
                  refine ⟨_, Res.one rfl rfl, ?_⟩
                  refine ⟨congrArg Value.bool ?_, (((x2.trans x8).trans x12).trans x43)⟩
                  refine nodeEq ?_
                  have hall := all_of_idx hi12_1 (by omega)
                  have hz := empty_iff s
                  clear hv hL hT hl ht hs hn hi12_1
                  grind
                · have hp46 := of_decide_eq_false hb46
                  refine Rg.gn rfl rfl rfl rfl hb46 ?_
                  refine Rg.od rfl rfl rfl (OpT.pickF rfl hb46 rfl ?_)
                  refine Rg.od rfl rfl rfl (OpT.assign rfl ?_)
                  refine Rg.nil ?_
                  refine hK44 _ _ ?_
                  refine W.ret ?_
                  refine ⟨_, Res.one rfl rfl, ?_⟩
                  refine ⟨congrArg Value.bool ?_, (((x2.trans x8).trans x12).trans x43)⟩
                  refine nodeEq ?_
                  have hall := all_of_idx hi12_1 (by omega)
                  have hz := empty_iff s
                  clear hv hL hT hl ht hs hn hi12_1
                  grind
              · have hp45 := hb45
                refine Rg.gn rfl rfl rfl rfl hb45 ?_
                refine Rg.od rfl rfl rfl (OpT.pickF rfl hb45 rfl ?_)
                refine Rg.od rfl rfl rfl (OpT.move rfl ?_)
                refine Rg.gn rfl rfl rfl rfl rfl ?_
                refine Rg.od rfl rfl rfl (OpT.pickF rfl rfl rfl ?_)
                refine Rg.od rfl rfl rfl (OpT.assign rfl ?_)
                refine Rg.nil ?_
                refine hK44 _ _ ?_
                refine W.ret ?_
                refine ⟨_, Res.one rfl rfl, ?_⟩
                refine ⟨congrArg Value.bool ?_, (((x2.trans x8).trans x12).trans x43)⟩
                refine nodeEq ?_
                have hall := all_of_idx hi12_1 (by omega)
                have hz := empty_iff s
                clear hv hL hT hl ht hs hn hi12_1
                grind
            · have hp41 := of_decide_eq_false hb41
              refine W.condFb rfl hb41 ?_
              refine W.seqK fun K47 hK47 => ?_
              refine W.region ?_
              refine Rg.od rfl rfl rfl (OpT.eqlI rfl rfl ?_)
              refine Rg.od rfl rfl rfl (OpT.assign rfl ?_)
              refine Rg.nil ?_
              refine hK47 _ _ ?_
              rcases Bool.eq_false_or_eq_true (decide (k = 8)) with hb48 | hb48
              · have hp48 := of_decide_eq_true hb48
                refine W.condTb rfl hb48 ?_
                refine W.seqK fun K49 hK49 => ?_
                refine W.region ?_
                refine Rg.od rfl rfl rfl (OpT.fieldAddrB (off := 2) Tryz.underlying27 rfl Tryz.sizeOf9 rfl rfl ?_)
                refine Rg.od rfl rfl rfl (OpT.loadB Tryz.isAgg9 rfl (b2.ext (x8.trans x12)) rfl ?_)
                refine Rg.od rfl rfl rfl (OpT.call Tryz.call53 (.cons rfl .nil) (Runs.mono (rname_runs _ (by first | assumption | omega) _) ?_))
                rintro _ w50 ⟨rfl, x50⟩
                refine Rg.od rfl rfl rfl (OpT.assign rfl ?_)
                refine Rg.nil ?_
                refine hK49 _ _ ?_
                refine W.region ?_
                refine Rg.od rfl rfl rfl (OpT.fieldAddrB (off := 1) Tryz.underlying27 rfl Tryz.sizeOf3 rfl rfl ?_)
                refine Rg.od rfl rfl rfl (OpT.loadB Tryz.isAgg3 rfl (b2.ext ((x8.trans x12).trans x50)) rfl ?_)
                refine Rg.od rfl rfl rfl (OpT.geq rfl rfl ?_)
                refine Rg.od rfl rfl rfl (OpT.move rfl ?_)
                rcases Bool.eq_false_or_eq_true (decide (0 ≤ n)) with hb51 | hb51
                · have hp51 := of_decide_eq_true hb51
                  refine Rg.gy rfl rfl rfl rfl hb51 (OpT.fieldAddrB (off := 1) Tryz.underlying27 rfl Tryz.sizeOf3 rfl rfl ?_)
                  refine Rg.gy rfl rfl rfl rfl hb51 (OpT.loadB Tryz.isAgg3 rfl (b2.ext ((x8.trans x12).trans x50)) rfl ?_)
                  refine Rg.gy rfl rfl rfl rfl hb51 (OpT.lss rfl rfl ?_)
                  refine Rg.od rfl rfl rfl (OpT.pickT rfl hb51 rfl ?_)
                  refine Rg.od rfl rfl rfl (OpT.assign rfl ?_)
                  refine Rg.nil ?_
                  refine hK25 _ _ ?_
                  refine W.seqK fun K52 hK52 => ?_
                  refine W.region ?_
                  refine Rg.od rfl rfl rfl (OpT.move rfl ?_)
                  refine Rg.od rfl rfl rfl (OpT.move rfl ?_)
                  rcases Bool.eq_false_or_eq_true (nameB s) with hb53 | hb53
                  · have hp53 := hb53
                    refine Rg.gy rfl rfl rfl rfl hb53 (OpT.move rfl ?_)
                    refine Rg.od rfl rfl rfl (OpT.pickT rfl hb53 rfl ?_)
                    refine Rg.od rfl rfl rfl (OpT.move rfl ?_)
                    rcases Bool.eq_false_or_eq_true (decide (n < 12)) with hb54 | hb54
                    · have hp54 := of_decide_eq_true hb54
                      refine Rg.gy rfl rfl rfl rfl hb54 (OpT.move rfl ?_)
                      refine Rg.od rfl rfl rfl (OpT.pickT rfl hb54 rfl ?_)
                      refine Rg.od rfl rfl rfl (OpT.assign rfl ?_)
                      refine Rg.nil ?_
                      refine hK52 _ _ ?_
                      refine W.ret ?_
                      refine ⟨_, Res.one rfl rfl, ?_⟩
                      refine ⟨congrArg Value.bool ?_, (((x2.trans x8).trans x12).trans x50)⟩
                      refine nodeEq ?_
                      have hall := all_of_idx hi12_1 (by omega)
                      have hz := empty_iff s
                      clear hv hL hT hl ht hs hn hi12_1
                      grind
                    · have hp54 := of_decide_eq_false hb54
                      refine Rg.gn rfl rfl rfl rfl hb54 ?_
                      refine Rg.od rfl rfl rfl (OpT.pickF rfl hb54 rfl ?_)
                      refine Rg.od rfl rfl rfl (OpT.assign rfl ?_)
                      refine Rg.nil ?_
                      refine hK52 _ _ ?_
                      refine W.ret ?_
                      refine ⟨_, Res.one rfl rfl, ?_⟩
                      refine ⟨congrArg Value.bool ?_, (((x2.trans x8).trans x12).trans x50)⟩
                      refine nodeEq ?_
                      have hall := all_of_idx hi12_1 (by omega)
                      have hz := empty_iff s
                      clear hv hL hT hl ht hs hn hi12_1
                      grind
                  · have hp53 := hb53
                    refine Rg.gn rfl rfl rfl rfl hb53 ?_
                    refine Rg.od rfl rfl rfl (OpT.pickF rfl hb53 rfl ?_)
                    refine Rg.od rfl rfl rfl (OpT.move rfl ?_)
                    refine Rg.gn rfl rfl rfl rfl rfl ?_
                    refine Rg.od rfl rfl rfl (OpT.pickF rfl rfl rfl ?_)
                    refine Rg.od rfl rfl rfl (OpT.assign rfl ?_)
                    refine Rg.nil ?_
                    refine hK52 _ _ ?_
                    refine W.ret ?_
                    refine ⟨_, Res.one rfl rfl, ?_⟩
                    refine ⟨congrArg Value.bool ?_, (((x2.trans x8).trans x12).trans x50)⟩
                    refine nodeEq ?_
                    have hall := all_of_idx hi12_1 (by omega)
                    have hz := empty_iff s
                    clear hv hL hT hl ht hs hn hi12_1
                    grind
                · have hp51 := of_decide_eq_false hb51
                  refine Rg.gn rfl rfl rfl rfl hb51 ?_
                  refine Rg.gn rfl rfl rfl rfl hb51 ?_
                  refine Rg.gn rfl rfl rfl rfl hb51 ?_
                  refine Rg.od rfl rfl rfl (OpT.pickF rfl hb51 rfl ?_)
                  refine Rg.od rfl rfl rfl (OpT.assign rfl ?_)
                  refine Rg.nil ?_
                  refine hK25 _ _ ?_
                  refine W.seqK fun K55 hK55 => ?_
                  refine W.region ?_
                  refine Rg.od rfl rfl rfl (OpT.move rfl ?_)
                  refine Rg.od rfl rfl rfl (OpT.move rfl ?_)
                  rcases Bool.eq_false_or_eq_true (nameB s) with hb56 | hb56
                  · have hp56 := hb56
                    refine Rg.gy rfl rfl rfl rfl hb56 (OpT.move rfl ?_)
                    refine Rg.od rfl rfl rfl (OpT.pickT rfl hb56 rfl ?_)
                    refine Rg.od rfl rfl rfl (OpT.move rfl ?_)
                    refine Rg.gn rfl rfl rfl rfl rfl ?_
                    refine Rg.od rfl rfl rfl (OpT.pickF rfl rfl rfl ?_)
                    refine Rg.od rfl rfl rfl (OpT.assign rfl ?_)
                    refine Rg.nil ?_
                    refine hK55 _ _ ?_
                    refine W.ret ?_
                    refine ⟨_, Res.one rfl rfl, ?_⟩
                    refine ⟨congrArg Value.bool ?_, (((x2.trans x8).trans x12).trans x50)⟩
                    refine nodeEq ?_
                    have hall := all_of_idx hi12_1 (by omega)
                    have hz := empty_iff s
                    clear hv hL hT hl ht hs hn hi12_1
                    grind
                  · have hp56 := hb56
                    refine Rg.gn rfl rfl rfl rfl hb56 ?_
                    refine Rg.od rfl rfl rfl (OpT.pickF rfl hb56 rfl ?_)
                    refine Rg.od rfl rfl rfl (OpT.move rfl ?_)
                    refine Rg.gn rfl rfl rfl rfl rfl ?_
                    refine Rg.od rfl rfl rfl (OpT.pickF rfl rfl rfl ?_)
                    refine Rg.od rfl rfl rfl (OpT.assign rfl ?_)
                    refine Rg.nil ?_
                    refine hK55 _ _ ?_
                    refine W.ret ?_
                    refine ⟨_, Res.one rfl rfl, ?_⟩
                    refine ⟨congrArg Value.bool ?_, (((x2.trans x8).trans x12).trans x50)⟩
                    refine nodeEq ?_
                    have hall := all_of_idx hi12_1 (by omega)
                    have hz := empty_iff s
                    clear hv hL hT hl ht hs hn hi12_1
                    grind
              · have hp48 := of_decide_eq_false hb48
                refine W.condFb rfl hb48 ?_
                refine W.skip ?_
                refine hK25 _ _ ?_
                refine W.seqK fun K57 hK57 => ?_
                refine W.region ?_
                refine Rg.od rfl rfl rfl (OpT.move rfl ?_)
                refine Rg.od rfl rfl rfl (OpT.move rfl ?_)
                rcases Bool.eq_false_or_eq_true (s.toList == (⟨#[]⟩ : ByteArray).toList) with hb58 | hb58
                · have hp58 := hb58
                  refine Rg.gy rfl rfl rfl rfl hb58 (OpT.move rfl ?_)
                  refine Rg.od rfl rfl rfl (OpT.pickT rfl hb58 rfl ?_)
                  refine Rg.od rfl rfl rfl (OpT.move rfl ?_)
                  rcases Bool.eq_false_or_eq_true (decide (n = 0)) with hb59 | hb59
                  · have hp59 := of_decide_eq_true hb59
                    refine Rg.gy rfl rfl rfl rfl hb59 (OpT.move rfl ?_)
                    refine Rg.od rfl rfl rfl (OpT.pickT rfl hb59 rfl ?_)
                    refine Rg.od rfl rfl rfl (OpT.assign rfl ?_)
                    refine Rg.nil ?_
                    refine hK57 _ _ ?_
                    refine W.ret ?_
                    refine ⟨_, Res.one rfl rfl, ?_⟩
                    refine ⟨congrArg Value.bool ?_, ((x2.trans x8).trans x12)⟩
                    refine nodeEq ?_
                    have hall := all_of_idx hi12_1 (by omega)
                    have hz := empty_iff s
                    clear hv hL hT hl ht hs hn hi12_1
                    grind
                  · have hp59 := of_decide_eq_false hb59
                    refine Rg.gn rfl rfl rfl rfl hb59 ?_
                    refine Rg.od rfl rfl rfl (OpT.pickF rfl hb59 rfl ?_)
                    refine Rg.od rfl rfl rfl (OpT.assign rfl ?_)
                    refine Rg.nil ?_
                    refine hK57 _ _ ?_
                    refine W.ret ?_
                    refine ⟨_, Res.one rfl rfl, ?_⟩
                    refine ⟨congrArg Value.bool ?_, ((x2.trans x8).trans x12)⟩
                    refine nodeEq ?_
                    have hall := all_of_idx hi12_1 (by omega)
                    have hz := empty_iff s
                    clear hv hL hT hl ht hs hn hi12_1
                    grind
                · have hp58 := hb58
                  refine Rg.gn rfl rfl rfl rfl hb58 ?_
                  refine Rg.od rfl rfl rfl (OpT.pickF rfl hb58 rfl ?_)
                  refine Rg.od rfl rfl rfl (OpT.move rfl ?_)
                  refine Rg.gn rfl rfl rfl rfl rfl ?_
                  refine Rg.od rfl rfl rfl (OpT.pickF rfl rfl rfl ?_)
                  refine Rg.od rfl rfl rfl (OpT.assign rfl ?_)
                  refine Rg.nil ?_
                  refine hK57 _ _ ?_
                  refine W.ret ?_
                  refine ⟨_, Res.one rfl rfl, ?_⟩
                  refine ⟨congrArg Value.bool ?_, ((x2.trans x8).trans x12)⟩
                  refine nodeEq ?_
                  have hall := all_of_idx hi12_1 (by omega)
                  have hz := empty_iff s
                  clear hv hL hT hl ht hs hn hi12_1
                  grind
    · have hp9 := of_decide_eq_false hb9
      refine W.condTb rfl (nF hb9) ?_
      refine W.seqK fun K60 hK60 => ?_
      refine W.region ?_
      refine Rg.od rfl rfl rfl (OpT.assign rfl ?_)
      refine Rg.nil ?_
      refine hK60 _ _ ?_
      refine W.ret ?_
      refine ⟨_, Res.one rfl rfl, ?_⟩
      refine ⟨congrArg Value.bool ?_, (x2.trans x8)⟩
      refine nodeEq ?_
      have hz := empty_iff s
      clear hv hL hT hl ht hs hn 
      grind
end Go.Proofs.YtnoghkpofpaeeaaGreat
