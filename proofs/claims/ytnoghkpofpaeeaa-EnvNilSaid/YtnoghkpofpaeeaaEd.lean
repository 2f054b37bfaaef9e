import Derived.Test.YtnoghkpofpaeeaaEc
/-
  EnvNil.
-/
namespace Go.Proofs.Ytnoghkpofpaeeaa
open Go Go.RowKit Go.Proofs.Bw
set_option linter.unusedVariables false
set_option linter.unusedSimpArgs false

set_option maxHeartbeats 2000000 in
set_option maxRecDepth 20000 in
theorem nil_runs {R R' : Nat → Prop} (ci ct : List Value) (x : Inf) (t : T) (w : World) (hx : VI w R ci x) (ht : VT w R' ct t) : Runs Try.prog 6 #[.agg ci.toArray, .agg ct.toArray] w fun v w' => v = .bool true ∧ Ext w w' := by
  have hx0 := hx
  have ht0 := ht
  obtain ⟨ctX, cvX, raX, rcX, rfl, htyX, hvlX, hruX, hrlX, hokX⟩ := hx; obtain ⟨kXt, nXt, sXt, lsXt, tsXt, laXt, lcXt, taXt, tcXt, etyX, rfl, hkXt, hnXt, hsXt, hllXt, hltXt, hLXt, hTXt⟩ := htyX.inv; obtain ⟨kXv, nXv, sXv, lsXv, tsXv, laXv, lcXv, taXv, tcXv, evlX, rfl, hkXv, hnXv, hsXv, hllXv, hltXv, hLXv, hTXv⟩ := hvlX.inv
  obtain ⟨kT, nT, sT, lsT, tsT, laT, lcT, taT, tcT, eT, rfl, hkT, hnT, hsT, hllT, hltT, hLT, hTT⟩ := ht.inv
  refine Runs.of_vc (ρ := []) cx_ok [0, 1, 2, 3, 4, 5, 6, 7, 9, 11, 13, 21] [.a [.v (.int .u8 x.kind), .v (.string x.name), .v (.int .i64 x.params), .v (.int .u8 kXt), .v (.int .i64 nXt), .v (.string sXt), .v (.slice laXt lsXt.length lcXt), .v (.slice taXt tsXt.length tcXt), .v (.int .u8 kXv), .v (.int .i64 nXv), .v (.string sXv), .v (.slice laXv lsXv.length lcXv), .v (.slice taXv tsXv.length tcXv), .v (.int .i64 x.height), .v (.string x.block), .v (.string x.of_), .v (.int .i64 x.fixed), .v (.int .i64 x.index), .v (.int .i64 x.no), .v (.int .i64 x.fields), .v (.int .i64 x.motives), .v (.int .i64 x.minors), .v (.slice raX x.rules.length rcX), .v (.int .i64 x.ctors), .v (.bool x.record)], .a [.v (.int .u8 kT), .v (.int .i64 nT), .v (.string sT), .v (.slice laT lsT.length lcT), .v (.slice taT tsT.length tcT)]] Try.func6 rfl rfl rfl (Holds.nil w) ?_
  intro g1 w1 e1 x1 z1 hh1
  intro g2 w2 e2 x2 z2 hh2
  have y2 := x1.trans x2
  have hx2 := hx0.ext y2
  refine OpT.buildE (E := encInf) (R := R) (vs := [_]) (l := [x]) Try.zeroValue35 (.cons rfl (.nil)) Try.underlying22 Try.sizeOf35 rfl rfl (Reps.cons hx2 (Reps.nil _ _ _)) rfl rfl hh2 fun w3 g3 e3 x3 z3 o3 hh3 => ?_
  refine vcZ (Few_runs _ [x] 1 w3 o3.sl (by simp [lenOk])) hh3 fun w4 x4 z4 hh4 => ?_
  generalize fewB [x] = few at *
  have y4 := y2.trans (x3.trans x4)
  cases few with
  | false =>
    refine vskip rfl ?_
    refine OpT.pickT rfl rfl rfl ?_
    refine Lands.v hh4 ?_
    refine Or.inl (And.intro (fun _ => ?_) (fun hx => nomatch (rfl).symm.trans hx))
    refine vcZ (works_runs w4) hh4 fun w5 x5 z5 hh5 => ?_
    exact ⟨rfl, y4.trans x5⟩
  | true =>
    refine vyes rfl ?_
    refine vcZ (rDeep_runs t _ w4 R' (ht0.ext y4)) hh4 fun w5 x5 z5 hh5 => ?_
    refine Or.inl (And.intro (fun h => ?_) (fun h => ?_))
    · refine vcZ (works_runs w5) hh5 fun w6 x6 z6 hh6 => ?_
      exact ⟨rfl, y4.trans (x5.trans x6)⟩
    · refine (FindN_runs x.name w5).mono ?_
      rintro _ w6 ⟨rfl, x6⟩
      have hh6 := hh5.ext x6
      have z6 := x6.size
      refine Lands.ret (s := .t [.a noIs, .v (.bool false)]) rfl rfl hh6 ?_
      intro g7 w7 e7 x7 z7 hh7
      intro w8 m8 z8 hh8
      refine (TypeN_runs w8).mono ?_
      rintro _ w9 ⟨rfl, x9⟩
      have hh9 := hh8.ext x9
      have z9 := x9.size
      refine Lands.ret (s := .t [.a noTs, .v (.int .i64 2)]) rfl rfl hh9 ?_
      intro g10 w10 e10 x10 z10 hh10
      intro w11 m11 z11 hh11
      refine (ValueN_runs w11).mono ?_
      rintro _ w12 ⟨rfl, x12⟩
      have hh12 := hh11.ext x12
      have z12 := x12.size
      refine Lands.ret (s := .t [.a noTs, .v (.int .i64 2)]) rfl rfl hh12 ?_
      intro g13 w13 e13 x13 z13 hh13
      intro w14 m14 z14 hh14
      replace m8 : Upd g7 w7 w8 := m8
      replace m11 : Upd g10 w10 w11 := m11
      replace m14 : Upd g13 w13 w14 := m14
      have y14 : Ext w w14 := by
        have y8 : Ext w w8 := (y4.trans (x5.trans (x6.trans x7))).upd m8 (by omega)
        have y11 : Ext w w11 := (y8.trans (x9.trans x10)).upd m11 (by omega)
        exact (y11.trans (x12.trans x13)).upd m14 (by omega)
      have hx14 := hx0.ext y14
      refine OpT.buildE (E := encInf) (R := R) (vs := [_]) (l := [x]) Try.zeroValue35 (.cons rfl (.nil)) Try.underlying22 Try.sizeOf35 rfl rfl (Reps.cons hx14 (Reps.nil _ _ _)) rfl rfl hh14 fun w15 g15 e15 x15 z15 o15 hh15 => ?_
      refine (WithN_runs _ w15).mono ?_
      rintro _ w16 ⟨rfl, x16⟩
      have hh16 := hh15.ext x16
      have z16 := x16.size
      refine Lands.ret (s := .t [.v (.pointer none), .v (.int .i64 2)]) rfl rfl hh16 ?_
      have hx16 := hx0.ext (y14.trans (x15.trans x16))
      refine vyes rfl ?_
      refine OpT.buildE (E := encInf) (R := R) (vs := [_]) (l := [x]) Try.zeroValue35 (.cons rfl (.nil)) Try.underlying22 Try.sizeOf35 rfl rfl (Reps.cons hx16 (Reps.nil _ _ _)) rfl rfl hh16 fun w17 g17 e17 x17 z17 o17 hh17 => ?_
      refine vyes rfl ?_
      refine vcZ (AddN_runs _ w17) hh17 fun w18 x18 z18 hh18 => ?_
      refine vyes rfl ?_
      refine vcZ (rSameI_runs _ _ noI noI w18 (noI_rep w18 (fun _ => False)) (noI_rep w18 (fun _ => False))) hh18 fun w19 x19 z19 hh19 => ?_
      rw [show infB noI noI = true by decide +kernel]
      refine vyes rfl ?_
      refine vcZ (ListN_runs w19) hh19 fun w20 x20 z20 hh20 => ?_
      refine vyes rfl ?_
      refine vcZ (HeightN_runs w20) hh20 fun w21 x21 z21 hh21 => ?_
      refine vyes rfl ?_
      refine vcZ (works_runs w21) hh21 fun w22 x22 z22 hh22 => ?_
      exact ⟨rfl, y14.trans (x15.trans (x16.trans (x17.trans (x18.trans (x19.trans (x20.trans (x21.trans x22)))))))⟩
end Go.Proofs.Ytnoghkpofpaeeaa

