/-
  RulesNil.
-/
import Derived.Test.YtfljbnhhkdaobaaGreatB4
import Derived.Test.YtfljbnhhkdaobaaGreatB6
import Derived.Test.YtfljbnhhkdaobaaGreatRows
import Derived.ProofKit
import Derived.SizedLaws
import Derived.ChangeMaps5
namespace Go.Proofs.YtfljbnhhkdaobaaGreat
open Go Go.RowKit Go.Proofs.Bw
set_option linter.unusedVariables false
set_option linter.unusedSimpArgs false
set_option maxHeartbeats 2000000 in
set_option maxRecDepth 20000 in
theorem nil8_runs {R R' : Nat → Prop} (t u : T) (ct cu : List Value) (s : ByteArray) (w : World) (ht : VT w R ct t) (hu : VT w R' cu u) : Runs Tryz.prog 8 #[.agg ct.toArray, .agg cu.toArray, .string s] w fun v w' => v = .bool true ∧ Ext w w' := by
  have ht0 := ht
  have hu0 := hu
  obtain ⟨kt, nt, st, lst, tst, lat, lct, tat, tct, et, rfl, hkt, hnt, hst, hllt, hltt, hLt, hTt⟩ := ht.inv
  obtain ⟨ku, nu, su, lsu, tsu, lau, lcu, tau, tcu, eu, rfl, hku, hnu, hsu, hllu, hltu, hLu, hTu⟩ := hu.inv
  refine Runs.of_vc (ρ := []) cx_ok [0, 1, 2, 3, 4, 6, 8, 10, 12, 14, 16, 27] [.a [.v (.int .u8 kt), .v (.int .i64 nt), .v (.string st), .v (.slice lat lst.length lct), .v (.slice tat tst.length tct)], .a [.v (.int .u8 ku), .v (.int .i64 nu), .v (.string su), .v (.slice lau lsu.length lcu), .v (.slice tau tsu.length tcu)], .v _] Tryz.func8 rfl rfl rfl (Holds.nil w) ?_
  intro g1 w1 e1 x1 z1 hh1
  intro g2 w2 e2 x2 z2 hh2
  have y2 := x1.trans x2
  refine vcZ (rDeep_runs t _ w2 R (ht0.ext y2)) hh2 fun w3 x3 z3 hh3 => ?_
  have y3 := y2.trans x3
  refine Or.inl (Exists.intro (.bool (isDeep u)) (And.intro (fun _ => ?_) (fun w4 x4 hh4 => ?_)))
  · exact rDeep_runs u _ w3 R' (hu0.ext y3)
  have z4 := x4.size
  have y4 := y3.trans x4
  generalize isDeep t = dt at *
  generalize isDeep u = du at *
  refine Or.inl (And.intro (fun h => ?_) (fun h => ?_))
  · refine vcZ (works8_runs w4) hh4 fun w5 x5 z5 hh5 => ?_
    exact ⟨rfl, y4.trans x5⟩
  refine (DeltaN_r t _ w4 (ht0.ext y4)).mono ?_
  rintro _ w5 ⟨rfl, x5⟩
  have hh5 := hh4.ext x5
  have z5 := x5.size
  refine Lands.ret (s := .t [.a noTs, .v (.int .i64 2)]) rfl rfl hh5 ?_
  intro g6 w6 e6 x6 z6 hh6; intro w7 m7 z7 hh7; replace m7 : Upd g6 w6 w7 := m7; have x7 : Ext w5 w7 := x6.upd m7 (by omega); have q7 := x7.size
  have y7 := y4.trans (x5.trans x7)
  refine (MajorN_r t _ w7 (ht0.ext y7)).mono ?_
  rintro _ w8 ⟨rfl, x8⟩
  have hh8 := hh7.ext x8
  have z8 := x8.size
  refine Lands.ret (s := .t [.v (.int .i64 0), .v (.bool false)]) rfl rfl hh8 ?_
  have y8 := y7.trans x8
  refine (IotaN_r t u _ _ w8 (ht0.ext y8) (hu0.ext y8)).mono ?_
  rintro _ w9 ⟨rfl, x9⟩
  have hh9 := hh8.ext x9
  have z9 := x9.size
  refine Lands.ret (s := .t [.a noTs, .v (.int .i64 2)]) rfl rfl hh9 ?_
  intro g10 w10 e10 x10 z10 hh10; intro w11 m11 z11 hh11; replace m11 : Upd g10 w10 w11 := m11; have x11 : Ext w9 w11 := x10.upd m11 (by omega); have q11 := x11.size
  have y11 := y8.trans (x9.trans x11)
  refine (FieldN_r s 0 t _ w11 (ht0.ext y11)).mono ?_
  rintro _ w12 ⟨rfl, x12⟩
  have hh12 := hh11.ext x12
  have z12 := x12.size
  refine Lands.ret (s := .t [.a noTs, .v (.bool false)]) rfl rfl hh12 ?_
  intro g13 w13 e13 x13 z13 hh13; intro w14 m14 z14 hh14; replace m14 : Upd g13 w13 w14 := m14; have x14 : Ext w12 w14 := x13.upd m14 (by omega); have q14 := x14.size
  have y14 := y11.trans (x12.trans x14)
  refine (RecordN_r s w14).mono ?_
  rintro _ w15 ⟨rfl, x15⟩
  have hh15 := hh14.ext x15
  have z15 := x15.size
  refine Lands.ret (s := .t [.a noIs, .v (.bool false)]) rfl rfl hh15 ?_
  intro g16 w16 e16 x16 z16 hh16; intro w17 m17 z17 hh17; replace m17 : Upd g16 w16 w17 := m17; have x17 : Ext w15 w17 := x16.upd m17 (by omega); have q17 := x17.size
  have y17 := y14.trans (x15.trans x17)
  refine vyes rfl ?_
  refine vcZ (works8_runs w17) hh17 fun w18 x18 z18 hh18 => ?_
  exact ⟨rfl, y17.trans x18⟩
end Go.Proofs.YtfljbnhhkdaobaaGreat

/-
  The row of RulesNil: true for every input.
-/
namespace Go.Proofs.YtfljbnhhkdaobaaGreat
open Go Go.ChangeMaps Go.ChangeShapes Go.WideShapes Go.ChangeAt Go.RowKit Go.Proofs.Bw
theorem Tryz.own : ownKnob Tryz.prog.godebug = none := by kernel_rfl
theorem Tryz.laidOut : laidOutB Tryz.prog = true := by kernel_rfl
set_option maxRecDepth 100000 in
theorem nil8_lifted (os : Os) (started : os.Started) (H : Type) (enc : TypeId × Value → H) :
    ReturnsInHanded {} Tryz.checked os 8 .any (Rows.rulesNilSpec.pre6 enc Tryz.prog Tryz.f8 Rows.rulesNilRow.domain false) (Rows.rulesNilSpec.post enc Tryz.prog Tryz.f8 false true false false) := by
  refine returnsInHanded_of_change_sized (C := Tryz.checked) Tryz.own started (by kernel_rfl) Tryz.func8
    (ChangeSpec.witness6 (enc := enc) (C := Tryz.checked) false ⟨#[], #[.agg #[.int .u8 0, .int .i64 0, .string ⟨#[]⟩, .slice none 0 0, .slice none 0 0], .agg #[.int .u8 0, .int .i64 0, .string ⟨#[]⟩, .slice none 0 0, .slice none 0 0], .string ⟨#[]⟩], []⟩ 8 (by kernel_rfl) (by kernel_rfl) (by kernel_rfl) (by kernel_rfl)) ?_
  intro W base args ds gs before hval0 hW hcnd hsz0 _
  have hval : ∀ (j : Nat) t v, Tryz.f8.params[j]? = some t → args[j]? = some v → Value.okWide Tryz.prog W .any base t v := hval0
  have hW' := hW
  obtain ⟨p, q, hA0, hV, rfl, hfz, hnd⟩ := hW
  have hA : DataW.TrodAll enc Tryz.prog W 0 (fun _ => true) true Tryz.f8.params.toList args.toList ds p := hA0
  have hsz : (DataW.weightsEach Tryz.prog (Tryz.f8.params.toList ++ Rows.rulesNilSpec.plain.varTypes Tryz.prog) (ds ++ gs)).all (· ≤ reachBytes) = true := hsz0
  rw [Tryz.params8] at hA hval hsz
  obtain ⟨v0, v1, v2, d0, d1, d2, p0, p1, p2, rfl, rfl, rfl, h0, h1, h2⟩ := trodAll_three hA
  obtain ⟨rfl, rfl⟩ := trodVars_none hV
  obtain ⟨ca0, rfl, hca0⟩ := okWide_struct Tryz.underlying33 (hval 0 33 v0 rfl rfl)
  obtain ⟨ca1, rfl, hca1⟩ := okWide_struct Tryz.underlying33 (hval 1 33 v1 rfl rfl)
  obtain ⟨x2, rfl, rfl, rfl, w2⟩ := open_string Tryz.underlying9 (hval 2 9 v2 rfl rfl) h2
  clear hA0 hval0
  have hlt := hW'.lt
  obtain ⟨fu0, k0⟩ := h0
  obtain ⟨t0, hv0⟩ := open_T fu0 _ _ k0
  obtain ⟨fu1, k1⟩ := h1
  obtain ⟨t1, hv1⟩ := open_T fu1 _ _ k1
  have hsl2 : x2.size ≤ 140737488355328 := by
    have := sized_string hsz (j := 2) (t := 9) (bytes := x2.data.toList) rfl rfl
    have h47 := reachBytes_lt
    have hsz' : x2.data.toList.length = x2.size := rfl
    omega
  have hrun := nil8_runs t0 t1 ca0.toList ca1.toList x2 W hv0 hv1
  simp only [Array.toArray_toList] at hrun
  refine Calls.mono (hrun) ?_
  rintro e W' ⟨v, rfl, rfl, hx⟩
  have hb := hx.below
  refine ⟨_, rfl, _, _, _, [], _, [], hW', trodAll_mk1 (shut_bool Tryz.underlying4 true),
    trodAll_mk3 (Below.trod Tryz.laidOut (by kernel_rfl) (by decide +kernel) ⟨fu0, k0⟩ hb (fun x h => hlt x (by simp [h]))) (Below.trod Tryz.laidOut (by kernel_rfl) (by decide +kernel) ⟨fu1, k1⟩ hb (fun x h => hlt x (by simp [h]))) (shut_string Tryz.underlying9 w2), rfl, hb.frame _, fun h => by cases h⟩
theorem nil8_holds : Rows.RulesNilSaid :=
  OpenClaim.holds_of_wide 8 Tryz.f8 rfl rfl rfl rfl rfl rfl rfl ⟨rfl, rfl, rfl, rfl, rfl⟩ rfl rfl rfl rfl rfl (by kernel_rfl) Tryz.func8 (by kernel_rfl)
    (of_decide_eq_true (by kernel_rfl)) (by unfold Func.isWrapper; rw [if_neg (by decide +kernel)]; exact ⟨rfl, rfl⟩)
    (fun os started H enc _ => nil8_lifted os started H enc)
end Go.Proofs.YtfljbnhhkdaobaaGreat
