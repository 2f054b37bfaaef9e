/-
  The sample: numbers.
-/
import Derived.Test.YtfljbnhhkdaobaaGreatA9
namespace Go.Proofs.YtfljbnhhkdaobaaGreat
open Go Go.RowKit Go.Proofs.Bw
set_option linter.unusedVariables false
set_option linter.unusedSimpArgs false
set_option maxHeartbeats 4000000 in
set_option maxRecDepth 20000 in
theorem numbers_8 (w : World) : Runs Tryz.prog 80 #[] w fun v w' => Ext w w' ∧ ∃ (A : Option Addr) (c : Nat), v = .slice A numL.length c ∧ ∃ lo, w.heap.size ≤ lo ∧ OwnE encInf w' lo 36 (fun k => w.heap.size ≤ k ∧ k < lo) A c numL := by
  refine Runs.of_vc cx_ok [0, 1, 2, 3, 4, 5, 6] [] Tryz.func80 rfl rfl rfl (Holds.nil _) ?_
  have y0 : Ext w w := Ext.refl w
  have hh0 := Holds.nil w
  refine (N_runs w y0.size).mono ?_
  rintro _ w1 ⟨x1, cs1, rfl, h1⟩
  have hh1 := hh0.ext x1
  have z1 := x1.size
  have k1 : VX w.heap.size w1 _ tN := h1
  obtain ⟨ks1, ns1, ss1, lss1, tss1, las1, lcs1, tas1, tcs1, e1, rfl, hks1, hns1, hss1, hlls1, hlts1, hLs1, hTs1⟩ := h1.inv
  refine Lands.ret (s := .a [.v (.int .u8 ks1), .v (.int .i64 ns1), .v (.string ss1), .v (.slice las1 lss1.length lcs1), .v (.slice tas1 tss1.length tcs1)]) rfl rfl hh1 ?_
  have y1 : Ext w w1 := y0.trans x1
  refine (U_runs w1).mono ?_
  rintro _ w2 ⟨rfl, x2⟩
  have hh2 := hh1.ext x2
  have z2 := x2.size
  refine Lands.ret (s := .a [.v (.int .i64 levU.c), .v (.int .i64 levU.p0), .v (.int .i64 levU.p1), .v (.int .i64 levU.p2), .v (.int .i64 levU.p3)]) rfl rfl hh2 ?_
  have y2 : Ext w w2 := y1.trans x2
  replace k1 := VX.ext k1 x2
  refine (So_runs w2 y2.size levU levU_wf).mono ?_
  rintro _ w3 ⟨x3, cs3, rfl, h3⟩
  have hh3 := hh2.ext x3
  have z3 := x3.size
  have k3 : VX w.heap.size w3 _ (tSo levU) := h3
  obtain ⟨ks3, ns3, ss3, lss3, tss3, las3, lcs3, tas3, tcs3, e3, rfl, hks3, hns3, hss3, hlls3, hlts3, hLs3, hTs3⟩ := h3.inv
  refine Lands.ret (s := .a [.v (.int .u8 ks3), .v (.int .i64 ns3), .v (.string ss3), .v (.slice las3 lss3.length lcs3), .v (.slice tas3 tss3.length tcs3)]) rfl rfl hh3 ?_
  have y3 : Ext w w3 := y2.trans x3
  replace k1 := VX.ext k1 x3
  refine (P_runs8 w3 y3.size tN (tSo levU) _ _ k1 k3).mono ?_
  rintro _ w4 ⟨x4, cs4, rfl, h4⟩
  have hh4 := hh3.ext x4
  have z4 := x4.size
  have k4 : VX w.heap.size w4 _ (tPi tN (tSo levU)) := h4
  obtain ⟨ks4, ns4, ss4, lss4, tss4, las4, lcs4, tas4, tcs4, e4, rfl, hks4, hns4, hss4, hlls4, hlts4, hLs4, hTs4⟩ := h4.inv
  refine Lands.ret (s := .a [.v (.int .u8 ks4), .v (.int .i64 ns4), .v (.string ss4), .v (.slice las4 lss4.length lcs4), .v (.slice tas4 tss4.length tcs4)]) rfl rfl hh4 ?_
  have y4 : Ext w w4 := y3.trans x4
  intro g5 w5 e5 x5 z5 hh5; intro w6 m6 z6 hh6; replace m6 : Upd g5 w5 w6 := m6; have x6 : Ext w4 w6 := x5.upd m6 (by omega); have q6 := x6.size
  have y6 : Ext w w6 := y4.trans x6
  replace k4 := VX.ext k4 x6
  have k6 : VX w.heap.size w6 _ num_1 := k4
  refine (V_runs8 w6 y6.size 0 (by simp [i64ok])).mono ?_
  rintro _ w7 ⟨x7, cs7, rfl, h7⟩
  have hh7 := hh6.ext x7
  have z7 := x7.size
  have k7 : VX w.heap.size w7 _ (tV 0) := h7
  obtain ⟨ks7, ns7, ss7, lss7, tss7, las7, lcs7, tas7, tcs7, e7, rfl, hks7, hns7, hss7, hlls7, hlts7, hLs7, hTs7⟩ := h7.inv
  refine Lands.ret (s := .a [.v (.int .u8 ks7), .v (.int .i64 ns7), .v (.string ss7), .v (.slice las7 lss7.length lcs7), .v (.slice tas7 tss7.length tcs7)]) rfl rfl hh7 ?_
  have y7 : Ext w w7 := y6.trans x7
  replace k6 := VX.ext k6 x7
  refine (Co0_runs w7 y7.size sN__zero (by decide)).mono ?_
  rintro _ w8 ⟨x8, cs8, rfl, h8⟩
  have hh8 := hh7.ext x8
  have z8 := x8.size
  have k8 : VX w.heap.size w8 _ (tCo sN__zero []) := h8
  obtain ⟨ks8, ns8, ss8, lss8, tss8, las8, lcs8, tas8, tcs8, e8, rfl, hks8, hns8, hss8, hlls8, hlts8, hLs8, hTs8⟩ := h8.inv
  refine Lands.ret (s := .a [.v (.int .u8 ks8), .v (.int .i64 ns8), .v (.string ss8), .v (.slice las8 lss8.length lcs8), .v (.slice tas8 tss8.length tcs8)]) rfl rfl hh8 ?_
  have y8 : Ext w w8 := y7.trans x8
  replace k6 := VX.ext k6 x8
  replace k7 := VX.ext k7 x8
  refine OpT.buildE (E := encT) (R := (fun k => w.heap.size ≤ k ∧ k < w8.heap.size)) (vs := [_]) (l := [(tCo sN__zero [])]) Tryz.zeroValue33 (.cons rfl (.nil)) Tryz.underlying31 Tryz.sizeOf33 rfl rfl (Reps.cons k8 (Reps.nil _ _ _)) rfl rfl hh8 fun w9 g9 e9 x9 z9 o9 hh9 => ?_
  have y9 : Ext w w9 := y8.trans x9
  replace k6 := VX.ext k6 x9
  replace k7 := VX.ext k7 x9
  refine (A_runs w9 y9.size (R := _) (tV 0) _ _ [(tCo sN__zero [])] 1 k7 (fun k hk => by rcases hk.1 with h | h; exact h.1; have := y8.size; omega) o9.sl (by simp [lenOk])).mono ?_
  rintro _ w10 ⟨x10, cs10, rfl, h10⟩
  have hh10 := hh9.ext x10
  have z10 := x10.size
  have k10 : VX w.heap.size w10 _ (apT (tV 0) [(tCo sN__zero [])]) := h10
  obtain ⟨ks10, ns10, ss10, lss10, tss10, las10, lcs10, tas10, tcs10, e10, rfl, hks10, hns10, hss10, hlls10, hlts10, hLs10, hTs10⟩ := h10.inv
  refine Lands.ret (s := .a [.v (.int .u8 ks10), .v (.int .i64 ns10), .v (.string ss10), .v (.slice las10 lss10.length lcs10), .v (.slice tas10 tss10.length tcs10)]) rfl rfl hh10 ?_
  have y10 : Ext w w10 := y9.trans x10
  replace k6 := VX.ext k6 x10
  intro g11 w11 e11 x11 z11 hh11; intro w12 m12 z12 hh12; replace m12 : Upd g11 w11 w12 := m12; have x12 : Ext w10 w12 := x11.upd m12 (by omega); have q12 := x12.size
  have y12 : Ext w w12 := y10.trans x12
  replace k6 := VX.ext k6 x12
  replace k10 := VX.ext k10 x12
  have k12 : VX w.heap.size w12 _ num_2 := k10
  refine (N_runs w12 y12.size).mono ?_
  rintro _ w13 ⟨x13, cs13, rfl, h13⟩
  have hh13 := hh12.ext x13
  have z13 := x13.size
  have k13 : VX w.heap.size w13 _ tN := h13
  obtain ⟨ks13, ns13, ss13, lss13, tss13, las13, lcs13, tas13, tcs13, e13, rfl, hks13, hns13, hss13, hlls13, hlts13, hLs13, hTs13⟩ := h13.inv
  refine Lands.ret (s := .a [.v (.int .u8 ks13), .v (.int .i64 ns13), .v (.string ss13), .v (.slice las13 lss13.length lcs13), .v (.slice tas13 tss13.length tcs13)]) rfl rfl hh13 ?_
  have y13 : Ext w w13 := y12.trans x13
  replace k6 := VX.ext k6 x13
  replace k12 := VX.ext k12 x13
  refine (V_runs8 w13 y13.size 2 (by simp [i64ok])).mono ?_
  rintro _ w14 ⟨x14, cs14, rfl, h14⟩
  have hh14 := hh13.ext x14
  have z14 := x14.size
  have k14 : VX w.heap.size w14 _ (tV 2) := h14
  obtain ⟨ks14, ns14, ss14, lss14, tss14, las14, lcs14, tas14, tcs14, e14, rfl, hks14, hns14, hss14, hlls14, hlts14, hLs14, hTs14⟩ := h14.inv
  refine Lands.ret (s := .a [.v (.int .u8 ks14), .v (.int .i64 ns14), .v (.string ss14), .v (.slice las14 lss14.length lcs14), .v (.slice tas14 tss14.length tcs14)]) rfl rfl hh14 ?_
  have y14 : Ext w w14 := y13.trans x14
  replace k6 := VX.ext k6 x14
  replace k12 := VX.ext k12 x14
  replace k13 := VX.ext k13 x14
  refine (V_runs8 w14 y14.size 0 (by simp [i64ok])).mono ?_
  rintro _ w15 ⟨x15, cs15, rfl, h15⟩
  have hh15 := hh14.ext x15
  have z15 := x15.size
  have k15 : VX w.heap.size w15 _ (tV 0) := h15
  obtain ⟨ks15, ns15, ss15, lss15, tss15, las15, lcs15, tas15, tcs15, e15, rfl, hks15, hns15, hss15, hlls15, hlts15, hLs15, hTs15⟩ := h15.inv
  refine Lands.ret (s := .a [.v (.int .u8 ks15), .v (.int .i64 ns15), .v (.string ss15), .v (.slice las15 lss15.length lcs15), .v (.slice tas15 tss15.length tcs15)]) rfl rfl hh15 ?_
  have y15 : Ext w w15 := y14.trans x15
  replace k6 := VX.ext k6 x15
  replace k12 := VX.ext k12 x15
  replace k13 := VX.ext k13 x15
  replace k14 := VX.ext k14 x15
  refine OpT.buildE (E := encT) (R := (fun k => w.heap.size ≤ k ∧ k < w15.heap.size)) (vs := [_]) (l := [(tV 0)]) Tryz.zeroValue33 (.cons rfl (.nil)) Tryz.underlying31 Tryz.sizeOf33 rfl rfl (Reps.cons k15 (Reps.nil _ _ _)) rfl rfl hh15 fun w16 g16 e16 x16 z16 o16 hh16 => ?_
  have y16 : Ext w w16 := y15.trans x16
  replace k6 := VX.ext k6 x16
  replace k12 := VX.ext k12 x16
  replace k13 := VX.ext k13 x16
  replace k14 := VX.ext k14 x16
  refine (A_runs w16 y16.size (R := _) (tV 2) _ _ [(tV 0)] 1 k14 (fun k hk => by rcases hk.1 with h | h; exact h.1; have := y15.size; omega) o16.sl (by simp [lenOk])).mono ?_
  rintro _ w17 ⟨x17, cs17, rfl, h17⟩
  have hh17 := hh16.ext x17
  have z17 := x17.size
  have k17 : VX w.heap.size w17 _ (apT (tV 2) [(tV 0)]) := h17
  obtain ⟨ks17, ns17, ss17, lss17, tss17, las17, lcs17, tas17, tcs17, e17, rfl, hks17, hns17, hss17, hlls17, hlts17, hLs17, hTs17⟩ := h17.inv
  refine Lands.ret (s := .a [.v (.int .u8 ks17), .v (.int .i64 ns17), .v (.string ss17), .v (.slice las17 lss17.length lcs17), .v (.slice tas17 tss17.length tcs17)]) rfl rfl hh17 ?_
  have y17 : Ext w w17 := y16.trans x17
  replace k6 := VX.ext k6 x17
  replace k12 := VX.ext k12 x17
  replace k13 := VX.ext k13 x17
  refine (V_runs8 w17 y17.size 3 (by simp [i64ok])).mono ?_
  rintro _ w18 ⟨x18, cs18, rfl, h18⟩
  have hh18 := hh17.ext x18
  have z18 := x18.size
  have k18 : VX w.heap.size w18 _ (tV 3) := h18
  obtain ⟨ks18, ns18, ss18, lss18, tss18, las18, lcs18, tas18, tcs18, e18, rfl, hks18, hns18, hss18, hlls18, hlts18, hLs18, hTs18⟩ := h18.inv
  refine Lands.ret (s := .a [.v (.int .u8 ks18), .v (.int .i64 ns18), .v (.string ss18), .v (.slice las18 lss18.length lcs18), .v (.slice tas18 tss18.length tcs18)]) rfl rfl hh18 ?_
  have y18 : Ext w w18 := y17.trans x18
  replace k6 := VX.ext k6 x18
  replace k12 := VX.ext k12 x18
  replace k13 := VX.ext k13 x18
  replace k17 := VX.ext k17 x18
  refine (Co0_runs w18 y18.size sN__succ (by decide)).mono ?_
  rintro _ w19 ⟨x19, cs19, rfl, h19⟩
  have hh19 := hh18.ext x19
  have z19 := x19.size
  have k19 : VX w.heap.size w19 _ (tCo sN__succ []) := h19
  obtain ⟨ks19, ns19, ss19, lss19, tss19, las19, lcs19, tas19, tcs19, e19, rfl, hks19, hns19, hss19, hlls19, hlts19, hLs19, hTs19⟩ := h19.inv
  refine Lands.ret (s := .a [.v (.int .u8 ks19), .v (.int .i64 ns19), .v (.string ss19), .v (.slice las19 lss19.length lcs19), .v (.slice tas19 tss19.length tcs19)]) rfl rfl hh19 ?_
  have y19 : Ext w w19 := y18.trans x19
  replace k6 := VX.ext k6 x19
  replace k12 := VX.ext k12 x19
  replace k13 := VX.ext k13 x19
  replace k17 := VX.ext k17 x19
  replace k18 := VX.ext k18 x19
  refine (V_runs8 w19 y19.size 1 (by simp [i64ok])).mono ?_
  rintro _ w20 ⟨x20, cs20, rfl, h20⟩
  have hh20 := hh19.ext x20
  have z20 := x20.size
  have k20 : VX w.heap.size w20 _ (tV 1) := h20
  obtain ⟨ks20, ns20, ss20, lss20, tss20, las20, lcs20, tas20, tcs20, e20, rfl, hks20, hns20, hss20, hlls20, hlts20, hLs20, hTs20⟩ := h20.inv
  refine Lands.ret (s := .a [.v (.int .u8 ks20), .v (.int .i64 ns20), .v (.string ss20), .v (.slice las20 lss20.length lcs20), .v (.slice tas20 tss20.length tcs20)]) rfl rfl hh20 ?_
  have y20 : Ext w w20 := y19.trans x20
  replace k6 := VX.ext k6 x20
  replace k12 := VX.ext k12 x20
  replace k13 := VX.ext k13 x20
  replace k17 := VX.ext k17 x20
  replace k18 := VX.ext k18 x20
  replace k19 := VX.ext k19 x20
  refine OpT.buildE (E := encT) (R := (fun k => w.heap.size ≤ k ∧ k < w20.heap.size)) (vs := [_]) (l := [(tV 1)]) Tryz.zeroValue33 (.cons rfl (.nil)) Tryz.underlying31 Tryz.sizeOf33 rfl rfl (Reps.cons k20 (Reps.nil _ _ _)) rfl rfl hh20 fun w21 g21 e21 x21 z21 o21 hh21 => ?_
  have y21 : Ext w w21 := y20.trans x21
  replace k6 := VX.ext k6 x21
  replace k12 := VX.ext k12 x21
  replace k13 := VX.ext k13 x21
  replace k17 := VX.ext k17 x21
  replace k18 := VX.ext k18 x21
  replace k19 := VX.ext k19 x21
  refine (A_runs w21 y21.size (R := _) (tCo sN__succ []) _ _ [(tV 1)] 1 k19 (fun k hk => by rcases hk.1 with h | h; exact h.1; have := y20.size; omega) o21.sl (by simp [lenOk])).mono ?_
  rintro _ w22 ⟨x22, cs22, rfl, h22⟩
  have hh22 := hh21.ext x22
  have z22 := x22.size
  have k22 : VX w.heap.size w22 _ (apT (tCo sN__succ []) [(tV 1)]) := h22
  obtain ⟨ks22, ns22, ss22, lss22, tss22, las22, lcs22, tas22, tcs22, e22, rfl, hks22, hns22, hss22, hlls22, hlts22, hLs22, hTs22⟩ := h22.inv
  refine Lands.ret (s := .a [.v (.int .u8 ks22), .v (.int .i64 ns22), .v (.string ss22), .v (.slice las22 lss22.length lcs22), .v (.slice tas22 tss22.length tcs22)]) rfl rfl hh22 ?_
  have y22 : Ext w w22 := y21.trans x22
  replace k6 := VX.ext k6 x22
  replace k12 := VX.ext k12 x22
  replace k13 := VX.ext k13 x22
  replace k17 := VX.ext k17 x22
  replace k18 := VX.ext k18 x22
  refine OpT.buildE (E := encT) (R := (fun k => w.heap.size ≤ k ∧ k < w22.heap.size)) (vs := [_]) (l := [(apT (tCo sN__succ []) [(tV 1)])]) Tryz.zeroValue33 (.cons rfl (.nil)) Tryz.underlying31 Tryz.sizeOf33 rfl rfl (Reps.cons k22 (Reps.nil _ _ _)) rfl rfl hh22 fun w23 g23 e23 x23 z23 o23 hh23 => ?_
  have y23 : Ext w w23 := y22.trans x23
  replace k6 := VX.ext k6 x23
  replace k12 := VX.ext k12 x23
  replace k13 := VX.ext k13 x23
  replace k17 := VX.ext k17 x23
  replace k18 := VX.ext k18 x23
  refine (A_runs w23 y23.size (R := _) (tV 3) _ _ [(apT (tCo sN__succ []) [(tV 1)])] 1 k18 (fun k hk => by rcases hk.1 with h | h; exact h.1; have := y22.size; omega) o23.sl (by simp [lenOk])).mono ?_
  rintro _ w24 ⟨x24, cs24, rfl, h24⟩
  have hh24 := hh23.ext x24
  have z24 := x24.size
  have k24 : VX w.heap.size w24 _ (apT (tV 3) [(apT (tCo sN__succ []) [(tV 1)])]) := h24
  obtain ⟨ks24, ns24, ss24, lss24, tss24, las24, lcs24, tas24, tcs24, e24, rfl, hks24, hns24, hss24, hlls24, hlts24, hLs24, hTs24⟩ := h24.inv
  refine Lands.ret (s := .a [.v (.int .u8 ks24), .v (.int .i64 ns24), .v (.string ss24), .v (.slice las24 lss24.length lcs24), .v (.slice tas24 tss24.length tcs24)]) rfl rfl hh24 ?_
  have y24 : Ext w w24 := y23.trans x24
  replace k6 := VX.ext k6 x24
  replace k12 := VX.ext k12 x24
  replace k13 := VX.ext k13 x24
  replace k17 := VX.ext k17 x24
  refine (P_runs8 w24 y24.size (apT (tV 2) [(tV 0)]) (apT (tV 3) [(apT (tCo sN__succ []) [(tV 1)])]) _ _ k17 k24).mono ?_
  rintro _ w25 ⟨x25, cs25, rfl, h25⟩
  have hh25 := hh24.ext x25
  have z25 := x25.size
  have k25 : VX w.heap.size w25 _ (tPi (apT (tV 2) [(tV 0)]) (apT (tV 3) [(apT (tCo sN__succ []) [(tV 1)])])) := h25
  obtain ⟨ks25, ns25, ss25, lss25, tss25, las25, lcs25, tas25, tcs25, e25, rfl, hks25, hns25, hss25, hlls25, hlts25, hLs25, hTs25⟩ := h25.inv
  refine Lands.ret (s := .a [.v (.int .u8 ks25), .v (.int .i64 ns25), .v (.string ss25), .v (.slice las25 lss25.length lcs25), .v (.slice tas25 tss25.length tcs25)]) rfl rfl hh25 ?_
  have y25 : Ext w w25 := y24.trans x25
  replace k6 := VX.ext k6 x25
  replace k12 := VX.ext k12 x25
  replace k13 := VX.ext k13 x25
  refine (P_runs8 w25 y25.size tN (tPi (apT (tV 2) [(tV 0)]) (apT (tV 3) [(apT (tCo sN__succ []) [(tV 1)])])) _ _ k13 k25).mono ?_
  rintro _ w26 ⟨x26, cs26, rfl, h26⟩
  have hh26 := hh25.ext x26
  have z26 := x26.size
  have k26 : VX w.heap.size w26 _ (tPi tN (tPi (apT (tV 2) [(tV 0)]) (apT (tV 3) [(apT (tCo sN__succ []) [(tV 1)])]))) := h26
  obtain ⟨ks26, ns26, ss26, lss26, tss26, las26, lcs26, tas26, tcs26, e26, rfl, hks26, hns26, hss26, hlls26, hlts26, hLs26, hTs26⟩ := h26.inv
  refine Lands.ret (s := .a [.v (.int .u8 ks26), .v (.int .i64 ns26), .v (.string ss26), .v (.slice las26 lss26.length lcs26), .v (.slice tas26 tss26.length tcs26)]) rfl rfl hh26 ?_
  have y26 : Ext w w26 := y25.trans x26
  replace k6 := VX.ext k6 x26
  replace k12 := VX.ext k12 x26
  intro g27 w27 e27 x27 z27 hh27; intro w28 m28 z28 hh28; replace m28 : Upd g27 w27 w28 := m28; have x28 : Ext w26 w28 := x27.upd m28 (by omega); have q28 := x28.size
  have y28 : Ext w w28 := y26.trans x28
  replace k6 := VX.ext k6 x28
  replace k12 := VX.ext k12 x28
  replace k26 := VX.ext k26 x28
  have k28 : VX w.heap.size w28 _ num_3 := k26
  have kk6 := k6
  have kk12 := k12
  have kk28 := k28
  refine vFlow_mk 13 (fun k => w.heap.size ≤ k ∧ k < w28.heap.size) [.T num_1, .T num_2, .T num_3, .T tN, .T (tV 3), .T (tV 0), .ST [(tV 0)], .T (apT (tV 3) [(tV 0)]), .T (tPi tN (apT (tV 3) [(tV 0)])), .T (tPi num_3 (tPi tN (apT (tV 3) [(tV 0)]))), .T (tPi num_2 (tPi num_3 (tPi tN (apT (tV 3) [(tV 0)])))), .T (tPi num_1 (tPi num_2 (tPi num_3 (tPi tN (apT (tV 3) [(tV 0)]))))), .A] rfl fun w29 x29 z29 hh29 => ?_
  have y29 : Ext w w29 := y28.trans x29
  replace k6 := VX.ext k6 x29
  replace k12 := VX.ext k12 x29
  replace k28 := VX.ext k28 x29
  refine And.intro (fun vs Rs w2 x hh hR_ => ⟨Ext.refl _, flLoad kk6 (x29.trans x)⟩) ?_
  refine And.intro (fun vs Rs w2 x hh hR_ => ⟨Ext.refl _, flLoad kk12 (x29.trans x)⟩) ?_
  refine And.intro (fun vs Rs w2 x hh hR_ => ⟨Ext.refl _, flLoad kk28 (x29.trans x)⟩) ?_
  refine And.intro (fun vs Rs w2 x hh hR_  => flCall (N_d) hh fun v w3 _ q => q) ?_
  refine And.intro (fun vs Rs w2 x hh hR_  => flCall (V_d 3 (by simp [i64ok])) hh fun v w3 _ q => q) ?_
  refine And.intro (fun vs Rs w2 x hh hR_  => flCall (V_d 0 (by simp [i64ok])) hh fun v w3 _ q => q) ?_
  refine And.intro (fun vs Rs w2 x hh hR_ h1 => by
    obtain ⟨c1, e1, k1_⟩ := h1
    refine OpT.buildE (E := encT) (R := rdS (fun k => w.heap.size ≤ k ∧ k < w28.heap.size) (fun k => Rs 5 k) w2) (vs := [vs 5]) (css := [c1]) (l := [(tV 0)]) Tryz.zeroValue33 (.cons rfl (.nil)) Tryz.underlying31 Tryz.sizeOf33 rfl (by simp [e1, Value.cells]) (Reps.cons (VT.mono k1_ fun k hk => ⟨hk.1.imp id fun h => h, hk.2⟩) (Reps.nil _ _ _)) rfl rfl hh fun w3 g e x3 z3 o3 hh3 => ?_
    exact ⟨x3, _, _, rfl, by simp [lenOk], o3.sl.mono fun k hk => ⟨hk.1.elim (fun h => h.1.imp id fun h => .inl h) (fun h => .inr (.inr (⟨h, hk.2⟩))), hk.2⟩⟩) ?_
  refine And.intro (fun vs Rs w2 x hh hR_ h1 h2 => flCall (A_d h1 h2) hh fun v w3 _ q => q) ?_
  refine And.intro (fun vs Rs w2 x hh hR_ h1 h2 => flCall (P_d h1 h2) hh fun v w3 _ q => q) ?_
  refine And.intro (fun vs Rs w2 x hh hR_ h1 h2 => flCall (P_d h1 h2) hh fun v w3 _ q => q) ?_
  refine And.intro (fun vs Rs w2 x hh hR_ h1 h2 => flCall (P_d h1 h2) hh fun v w3 _ q => q) ?_
  refine And.intro (fun vs Rs w2 x hh hR_ h1 h2 => flCall (P_d h1 h2) hh fun v w3 _ q => q) ?_
  refine And.intro (fun vs Rs w2 x hh hR_ => by
    intro g w3 e x3 z3 hh3
    exact ⟨x3, g, rfl, ⟨by omega, by omega⟩, hh3.box 3 _ rfl⟩) ?_
  intro vs Os w30 x30 hh30 hp hO hd
  have q30 := x30.size
  have hs30 : (DV.T (tPi num_1 (tPi num_2 (tPi num_3 (tPi tN (apT (tV 3) [(tV 0)])))))).rep _ _ _ _ := hp 11 (by omega)
  have hA30 : DV.A.rep _ _ _ _ := hp 12 (by omega)
  obtain ⟨cs30, es30, h30⟩ := hs30
  obtain ⟨g30, eg30, hg30, bg30⟩ := hA30
  replace hg30 := flCum_own (by rfl) hg30
  have gO30 := hO _ _ hg30
  have h30x := h30
  obtain ⟨ks30, ns30, ss30, lss30, tss30, las30, lcs30, tas30, tcs30, e30, rfl, hks30, hns30, hss30, hlls30, hlts30, hLs30, hTs30⟩ := h30.inv
  refine Exists.intro [g30] (Exists.intro _ (Exists.intro [.v (vs 0), .v (vs 1), .v (vs 2), .v (vs 3), .v (vs 4), .v (vs 5), .v (vs 6), .v (vs 7), .v (vs 8), .v (vs 9), .v (vs 10), .a [.v (.int .u8 ks30), .v (.int .i64 ns30), .v (.string ss30), .v (.slice las30 lss30.length lcs30), .v (.slice tas30 tss30.length tcs30)], .p 3 0] ⟨Holds.add hh30 (c := [.v (.int .u8 0), .v (.int .i64 0), .v (.string noS), .v (.slice none 0 0), .v (.slice none 0 0)]) (fun i hi he => by have := hh29.lt i hi; omega) gO30.2 bg30 rfl, rfl, by rw [show (List.range 13).map vs = [vs 0, vs 1, vs 2, vs 3, vs 4, vs 5, vs 6, vs 7, vs 8, vs 9, vs 10, vs 11, vs 12] from rfl, eg30, es30]; rfl, ?_⟩))
  intro w31 m31 z31 hh31
  replace m31 : Upd g30 w30 w31 := m31
  have x31 : Ext w29 w31 := x30.upd m31 (by omega)
  have y31 : Ext w w31 := y29.trans x31
  replace k6 := VX.ext k6 x31
  replace k12 := VX.ext k12 x31
  replace k28 := VX.ext k28 x31
  have k31 : VX w.heap.size w31 _ num_4 := flStored h30x m31 (flCum_no (s := 11) (A := 12) (by decide) (by rfl) hd hg30) (fun hb => by have := hb.2; omega) (fun k hk => hk.1) (fun k hk => by have := y29.size; obtain ⟨q, _, hq⟩ := hk; have := (hO q k hq).1; omega)
  have kk6 := k6
  have kk12 := k12
  have kk28 := k28
  refine vFlow_mk 8 (fun k => w.heap.size ≤ k ∧ k < w31.heap.size) [.T num_1, .T num_2, .T num_3, .T (tV 1), .T (tLm num_3 (tV 1)), .T (tLm num_2 (tLm num_3 (tV 1))), .T (tLm num_1 (tLm num_2 (tLm num_3 (tV 1)))), .A] rfl fun w32 x32 z32 hh32 => ?_
  have y32 : Ext w w32 := y31.trans x32
  replace k6 := VX.ext k6 x32
  replace k12 := VX.ext k12 x32
  replace k28 := VX.ext k28 x32
  replace k31 := VX.ext k31 x32
  refine And.intro (fun vs Rs w2 x hh hR_ => ⟨Ext.refl _, flLoad kk6 (x32.trans x)⟩) ?_
  refine And.intro (fun vs Rs w2 x hh hR_ => ⟨Ext.refl _, flLoad kk12 (x32.trans x)⟩) ?_
  refine And.intro (fun vs Rs w2 x hh hR_ => ⟨Ext.refl _, flLoad kk28 (x32.trans x)⟩) ?_
  refine And.intro (fun vs Rs w2 x hh hR_  => flCall (V_d 1 (by simp [i64ok])) hh fun v w3 _ q => q) ?_
  refine And.intro (fun vs Rs w2 x hh hR_ h1 h2 => flCall (L_d h1 h2) hh fun v w3 _ q => q) ?_
  refine And.intro (fun vs Rs w2 x hh hR_ h1 h2 => flCall (L_d h1 h2) hh fun v w3 _ q => q) ?_
  refine And.intro (fun vs Rs w2 x hh hR_ h1 h2 => flCall (L_d h1 h2) hh fun v w3 _ q => q) ?_
  refine And.intro (fun vs Rs w2 x hh hR_ => by
    intro g w3 e x3 z3 hh3
    exact ⟨x3, g, rfl, ⟨by omega, by omega⟩, hh3.box 4 _ rfl⟩) ?_
  intro vs Os w33 x33 hh33 hp hO hd
  have q33 := x33.size
  have hs33 : (DV.T (tLm num_1 (tLm num_2 (tLm num_3 (tV 1))))).rep _ _ _ _ := hp 6 (by omega)
  have hA33 : DV.A.rep _ _ _ _ := hp 7 (by omega)
  obtain ⟨cs33, es33, h33⟩ := hs33
  obtain ⟨g33, eg33, hg33, bg33⟩ := hA33
  replace hg33 := flCum_own (by rfl) hg33
  have gO33 := hO _ _ hg33
  have h33x := h33
  obtain ⟨ks33, ns33, ss33, lss33, tss33, las33, lcs33, tas33, tcs33, e33, rfl, hks33, hns33, hss33, hlls33, hlts33, hLs33, hTs33⟩ := h33.inv
  refine Exists.intro [g33] (Exists.intro _ (Exists.intro [.v (vs 0), .v (vs 1), .v (vs 2), .v (vs 3), .v (vs 4), .v (vs 5), .a [.v (.int .u8 ks33), .v (.int .i64 ns33), .v (.string ss33), .v (.slice las33 lss33.length lcs33), .v (.slice tas33 tss33.length tcs33)], .p 4 0] ⟨Holds.add hh33 (c := [.v (.int .u8 0), .v (.int .i64 0), .v (.string noS), .v (.slice none 0 0), .v (.slice none 0 0)]) (fun i hi he => by have := hh32.lt i hi; omega) gO33.2 bg33 rfl, rfl, by rw [show (List.range 8).map vs = [vs 0, vs 1, vs 2, vs 3, vs 4, vs 5, vs 6, vs 7] from rfl, eg33, es33]; rfl, ?_⟩))
  intro w34 m34 z34 hh34
  replace m34 : Upd g33 w33 w34 := m34
  have x34 : Ext w32 w34 := x33.upd m34 (by omega)
  have y34 : Ext w w34 := y32.trans x34
  replace k6 := VX.ext k6 x34
  replace k12 := VX.ext k12 x34
  replace k28 := VX.ext k28 x34
  replace k31 := VX.ext k31 x34
  have k34 : VX w.heap.size w34 _ num_5 := flStored h33x m34 (flCum_no (s := 6) (A := 7) (by decide) (by rfl) hd hg33) (fun hb => by have := hb.2; omega) (fun k hk => hk.1) (fun k hk => by have := y32.size; obtain ⟨q, _, hq⟩ := hk; have := (hO q k hq).1; omega)
  have kk6 := k6
  have kk12 := k12
  have kk28 := k28
  refine vFlow_mk 22 (fun k => w.heap.size ≤ k ∧ k < w34.heap.size) [.T num_1, .T num_2, .T num_3, .T tN, .T (tV 1), .T (tV 0), .L levU, .SL [levU], .T (tCo sN__rec [levU]), .T (tV 3), .T (tV 2), .T (tV 1), .T (tV 0), .ST [(tV 3), (tV 2), (tV 1), (tV 0)], .T (apT (tCo sN__rec [levU]) [(tV 3), (tV 2), (tV 1), (tV 0)]), .ST [(tV 0), (apT (tCo sN__rec [levU]) [(tV 3), (tV 2), (tV 1), (tV 0)])], .T (apT (tV 1) [(tV 0), (apT (tCo sN__rec [levU]) [(tV 3), (tV 2), (tV 1), (tV 0)])]), .T (tLm tN (apT (tV 1) [(tV 0), (apT (tCo sN__rec [levU]) [(tV 3), (tV 2), (tV 1), (tV 0)])])), .T (tLm num_3 (tLm tN (apT (tV 1) [(tV 0), (apT (tCo sN__rec [levU]) [(tV 3), (tV 2), (tV 1), (tV 0)])]))), .T (tLm num_2 (tLm num_3 (tLm tN (apT (tV 1) [(tV 0), (apT (tCo sN__rec [levU]) [(tV 3), (tV 2), (tV 1), (tV 0)])])))), .T (tLm num_1 (tLm num_2 (tLm num_3 (tLm tN (apT (tV 1) [(tV 0), (apT (tCo sN__rec [levU]) [(tV 3), (tV 2), (tV 1), (tV 0)])]))))), .A] rfl fun w35 x35 z35 hh35 => ?_
  have y35 : Ext w w35 := y34.trans x35
  replace k31 := VX.ext k31 x35
  replace k34 := VX.ext k34 x35
  refine And.intro (fun vs Rs w2 x hh hR_ => ⟨Ext.refl _, flLoad kk6 (x35.trans x)⟩) ?_
  refine And.intro (fun vs Rs w2 x hh hR_ => ⟨Ext.refl _, flLoad kk12 (x35.trans x)⟩) ?_
  refine And.intro (fun vs Rs w2 x hh hR_ => ⟨Ext.refl _, flLoad kk28 (x35.trans x)⟩) ?_
  refine And.intro (fun vs Rs w2 x hh hR_  => flCall (N_d) hh fun v w3 _ q => q) ?_
  refine And.intro (fun vs Rs w2 x hh hR_  => flCall (V_d 1 (by simp [i64ok])) hh fun v w3 _ q => q) ?_
  refine And.intro (fun vs Rs w2 x hh hR_  => flCall (V_d 0 (by simp [i64ok])) hh fun v w3 _ q => q) ?_
  refine And.intro (fun vs Rs w2 x hh hR_  => flCall (U_d) hh fun v w3 _ q => q) ?_
  refine And.intro (fun vs Rs w2 x hh hR_ h1 => by
    obtain ⟨e1, k1_⟩ := h1
    refine OpT.buildE (E := encL) (R := rdS (fun k => w.heap.size ≤ k ∧ k < w34.heap.size) (fun k => Rs 6 k) w2) (vs := [vs 6]) (css := [levU.cells]) (l := [levU]) Tryz.zeroValue63 (.cons rfl (.nil)) Tryz.underlying30 Tryz.sizeOf63 rfl (by simp [e1, Value.cells]) (Reps.cons ⟨rfl, k1_⟩ (Reps.nil _ _ _)) rfl rfl hh fun w3 g e x3 z3 o3 hh3 => ?_
    exact ⟨x3, _, _, rfl, by simp [lenOk], o3.sl.mono fun k hk => ⟨hk.1.elim (fun h => h.1.imp id fun h => .inl h) (fun h => .inr (.inr (⟨h, hk.2⟩))), hk.2⟩⟩) ?_
  refine And.intro (fun vs Rs w2 x hh hR_ h1 => flCall (Co_d sN__rec (by decide) h1) hh fun v w3 _ q => q) ?_
  refine And.intro (fun vs Rs w2 x hh hR_  => flCall (V_d 3 (by simp [i64ok])) hh fun v w3 _ q => q) ?_
  refine And.intro (fun vs Rs w2 x hh hR_  => flCall (V_d 2 (by simp [i64ok])) hh fun v w3 _ q => q) ?_
  refine And.intro (fun vs Rs w2 x hh hR_  => flCall (V_d 1 (by simp [i64ok])) hh fun v w3 _ q => q) ?_
  refine And.intro (fun vs Rs w2 x hh hR_  => flCall (V_d 0 (by simp [i64ok])) hh fun v w3 _ q => q) ?_
  refine And.intro (fun vs Rs w2 x hh hR_ h1 h2 h3 h4 => by
    obtain ⟨c1, e1, k1_⟩ := h1
    obtain ⟨c2, e2, k2_⟩ := h2
    obtain ⟨c3, e3, k3_⟩ := h3
    obtain ⟨c4, e4, k4_⟩ := h4
    refine OpT.buildE (E := encT) (R := rdS (fun k => w.heap.size ≤ k ∧ k < w34.heap.size) (fun k => Rs 9 k ∨ (Rs 10 k ∨ (Rs 11 k ∨ (Rs 12 k)))) w2) (vs := [vs 9, vs 10, vs 11, vs 12]) (css := [c1, c2, c3, c4]) (l := [(tV 3), (tV 2), (tV 1), (tV 0)]) Tryz.zeroValue33 (.cons rfl (.cons rfl (.cons rfl (.cons rfl (.nil))))) Tryz.underlying31 Tryz.sizeOf33 rfl (by simp [e1, e2, e3, e4, Value.cells]) (Reps.cons (VT.mono k1_ fun k hk => ⟨hk.1.imp id fun h => .inl h, hk.2⟩) (Reps.cons (VT.mono k2_ fun k hk => ⟨hk.1.imp id fun h => .inr (.inl h), hk.2⟩) (Reps.cons (VT.mono k3_ fun k hk => ⟨hk.1.imp id fun h => .inr (.inr (.inl h)), hk.2⟩) (Reps.cons (VT.mono k4_ fun k hk => ⟨hk.1.imp id fun h => .inr (.inr (.inr (h))), hk.2⟩) (Reps.nil _ _ _))))) rfl rfl hh fun w3 g e x3 z3 o3 hh3 => ?_
    exact ⟨x3, _, _, rfl, by simp [lenOk], o3.sl.mono fun k hk => ⟨hk.1.elim (fun h => h.1.imp id fun h => h.elim .inl fun h => .inr (h.elim .inl fun h => .inr (h.elim .inl fun h => .inr (.inl h)))) (fun h => .inr (.inr (.inr (.inr (.inr (⟨h, hk.2⟩)))))), hk.2⟩⟩) ?_
  refine And.intro (fun vs Rs w2 x hh hR_ h1 h2 => flCall (A_d h1 h2) hh fun v w3 _ q => q) ?_
  refine And.intro (fun vs Rs w2 x hh hR_ h1 h2 => by
    obtain ⟨c1, e1, k1_⟩ := h1
    obtain ⟨c2, e2, k2_⟩ := h2
    refine OpT.buildE (E := encT) (R := rdS (fun k => w.heap.size ≤ k ∧ k < w34.heap.size) (fun k => Rs 5 k ∨ (Rs 14 k)) w2) (vs := [vs 5, vs 14]) (css := [c1, c2]) (l := [(tV 0), (apT (tCo sN__rec [levU]) [(tV 3), (tV 2), (tV 1), (tV 0)])]) Tryz.zeroValue33 (.cons rfl (.cons rfl (.nil))) Tryz.underlying31 Tryz.sizeOf33 rfl (by simp [e1, e2, Value.cells]) (Reps.cons (VT.mono k1_ fun k hk => ⟨hk.1.imp id fun h => .inl h, hk.2⟩) (Reps.cons (VT.mono k2_ fun k hk => ⟨hk.1.imp id fun h => .inr (h), hk.2⟩) (Reps.nil _ _ _))) rfl rfl hh fun w3 g e x3 z3 o3 hh3 => ?_
    exact ⟨x3, _, _, rfl, by simp [lenOk], o3.sl.mono fun k hk => ⟨hk.1.elim (fun h => h.1.imp id fun h => h.elim .inl fun h => .inr (.inl h)) (fun h => .inr (.inr (.inr (⟨h, hk.2⟩)))), hk.2⟩⟩) ?_
  refine And.intro (fun vs Rs w2 x hh hR_ h1 h2 => flCall (A_d h1 h2) hh fun v w3 _ q => q) ?_
  refine And.intro (fun vs Rs w2 x hh hR_ h1 h2 => flCall (L_d h1 h2) hh fun v w3 _ q => q) ?_
  refine And.intro (fun vs Rs w2 x hh hR_ h1 h2 => flCall (L_d h1 h2) hh fun v w3 _ q => q) ?_
  refine And.intro (fun vs Rs w2 x hh hR_ h1 h2 => flCall (L_d h1 h2) hh fun v w3 _ q => q) ?_
  refine And.intro (fun vs Rs w2 x hh hR_ h1 h2 => flCall (L_d h1 h2) hh fun v w3 _ q => q) ?_
  refine And.intro (fun vs Rs w2 x hh hR_ => by
    intro g w3 e x3 z3 hh3
    exact ⟨x3, g, rfl, ⟨by omega, by omega⟩, hh3.box 5 _ rfl⟩) ?_
  intro vs Os w36 x36 hh36 hp hO hd
  have q36 := x36.size
  have hs36 : (DV.T (tLm num_1 (tLm num_2 (tLm num_3 (tLm tN (apT (tV 1) [(tV 0), (apT (tCo sN__rec [levU]) [(tV 3), (tV 2), (tV 1), (tV 0)])])))))).rep _ _ _ _ := hp 20 (by omega)
  have hA36 : DV.A.rep _ _ _ _ := hp 21 (by omega)
  obtain ⟨cs36, es36, h36⟩ := hs36
  obtain ⟨g36, eg36, hg36, bg36⟩ := hA36
  replace hg36 := flCum_own (by rfl) hg36
  have gO36 := hO _ _ hg36
  have h36x := h36
  obtain ⟨ks36, ns36, ss36, lss36, tss36, las36, lcs36, tas36, tcs36, e36, rfl, hks36, hns36, hss36, hlls36, hlts36, hLs36, hTs36⟩ := h36.inv
  refine Exists.intro [g36] (Exists.intro _ (Exists.intro [.v (vs 0), .v (vs 1), .v (vs 2), .v (vs 3), .v (vs 4), .v (vs 5), .v (vs 6), .v (vs 7), .v (vs 8), .v (vs 9), .v (vs 10), .v (vs 11), .v (vs 12), .v (vs 13), .v (vs 14), .v (vs 15), .v (vs 16), .v (vs 17), .v (vs 18), .v (vs 19), .a [.v (.int .u8 ks36), .v (.int .i64 ns36), .v (.string ss36), .v (.slice las36 lss36.length lcs36), .v (.slice tas36 tss36.length tcs36)], .p 5 0] ⟨Holds.add hh36 (c := [.v (.int .u8 0), .v (.int .i64 0), .v (.string noS), .v (.slice none 0 0), .v (.slice none 0 0)]) (fun i hi he => by have := hh35.lt i hi; omega) gO36.2 bg36 rfl, rfl, by rw [show (List.range 22).map vs = [vs 0, vs 1, vs 2, vs 3, vs 4, vs 5, vs 6, vs 7, vs 8, vs 9, vs 10, vs 11, vs 12, vs 13, vs 14, vs 15, vs 16, vs 17, vs 18, vs 19, vs 20, vs 21] from rfl, eg36, es36]; rfl, ?_⟩))
  intro w37 m37 z37 hh37
  replace m37 : Upd g36 w36 w37 := m37
  have x37 : Ext w35 w37 := x36.upd m37 (by omega)
  have y37 : Ext w w37 := y35.trans x37
  replace k31 := VX.ext k31 x37
  replace k34 := VX.ext k34 x37
  have k37 : VX w.heap.size w37 _ num_6 := flStored h36x m37 (flCum_no (s := 20) (A := 21) (by decide) (by rfl) hd hg36) (fun hb => by have := hb.2; omega) (fun k hk => hk.1) (fun k hk => by have := y35.size; obtain ⟨q, _, hq⟩ := hk; have := (hO q k hq).1; omega)
  have kk31 := k31
  have kk34 := k34
  have kk37 := k37
  refine vFlow_mk 16 (fun k => w.heap.size ≤ k ∧ k < w37.heap.size) [.T tY, .IN numI0, .T tN, .IN numI1, .T tN, .T tN, .T (tPi tN tN), .IN numI2, .T num_4, .T num_5, .RU ⟨sN__zero, 0, num_5⟩, .T num_6, .RU ⟨sN__succ, 1, num_6⟩, .SR [⟨sN__zero, 0, num_5⟩, ⟨sN__succ, 1, num_6⟩], .IN numI3, .SI w.heap.size numL] rfl fun w38 x38 z38 hh38 => ?_
  have y38 : Ext w w38 := y37.trans x38
  refine And.intro (fun vs Rs w2 x hh hR_  => flCall (Type0_d) hh fun v w3 _ q => q) ?_
  refine And.intro (fun vs Rs w2 x hh hR_ h1 => by
    obtain ⟨c1, e1, k1_⟩ := h1
    have k1x := k1_
    obtain ⟨kt1, nt1, st1, lst1, tst1, lat1, lct1, tat1, tct1, q1_, rfl, hkt1, hnt1, hst1, hllt1, hltt1, hLt1, hTt1⟩ := k1_.inv
    obtain ⟨vs', rfl⟩ := fl_at e1
    exact ⟨Ext.refl _, _, rfl, _, _, _, _, rfl, k1x.mono fun k hk => ⟨hk.1.imp id fun h => .inl h, hk.2⟩, tZ_rep _ _, Sl.nil _ _ _ _, by simp [lenOk, numI0], numI0_ok⟩) ?_
  refine And.intro (fun vs Rs w2 x hh hR_  => flCall (N_d) hh fun v w3 _ q => q) ?_
  refine And.intro (fun vs Rs w2 x hh hR_ h1 => by
    obtain ⟨c1, e1, k1_⟩ := h1
    have k1x := k1_
    obtain ⟨kt1, nt1, st1, lst1, tst1, lat1, lct1, tat1, tct1, q1_, rfl, hkt1, hnt1, hst1, hllt1, hltt1, hLt1, hTt1⟩ := k1_.inv
    obtain ⟨vs', rfl⟩ := fl_at e1
    exact ⟨Ext.refl _, _, rfl, _, _, _, _, rfl, k1x.mono fun k hk => ⟨hk.1.imp id fun h => .inl h, hk.2⟩, tZ_rep _ _, Sl.nil _ _ _ _, by simp [lenOk, numI1], numI1_ok⟩) ?_
  refine And.intro (fun vs Rs w2 x hh hR_  => flCall (N_d) hh fun v w3 _ q => q) ?_
  refine And.intro (fun vs Rs w2 x hh hR_  => flCall (N_d) hh fun v w3 _ q => q) ?_
  refine And.intro (fun vs Rs w2 x hh hR_ h1 h2 => flCall (P_d h1 h2) hh fun v w3 _ q => q) ?_
  refine And.intro (fun vs Rs w2 x hh hR_ h1 => by
    obtain ⟨c1, e1, k1_⟩ := h1
    have k1x := k1_
    obtain ⟨kt1, nt1, st1, lst1, tst1, lat1, lct1, tat1, tct1, q1_, rfl, hkt1, hnt1, hst1, hllt1, hltt1, hLt1, hTt1⟩ := k1_.inv
    obtain ⟨vs', rfl⟩ := fl_at e1
    exact ⟨Ext.refl _, _, rfl, _, _, _, _, rfl, k1x.mono fun k hk => ⟨hk.1.imp id fun h => .inl h, hk.2⟩, tZ_rep _ _, Sl.nil _ _ _ _, by simp [lenOk, numI2], numI2_ok⟩) ?_
  refine And.intro (fun vs Rs w2 x hh hR_ => ⟨Ext.refl _, flLoad kk31 (x38.trans x)⟩) ?_
  refine And.intro (fun vs Rs w2 x hh hR_ => ⟨Ext.refl _, flLoad kk34 (x38.trans x)⟩) ?_
  refine And.intro (fun vs Rs w2 x hh hR_ h1 => by
    obtain ⟨c1, e1, k1_⟩ := h1
    have k1x := k1_
    obtain ⟨kt1, nt1, st1, lst1, tst1, lat1, lct1, tat1, tct1, q1_, rfl, hkt1, hnt1, hst1, hllt1, hltt1, hLt1, hTt1⟩ := k1_.inv
    obtain ⟨vs', rfl⟩ := fl_at e1
    exact ⟨Ext.refl _, _, rfl, _, rfl, k1x.mono fun k hk => ⟨hk.1.imp id fun h => .inl h, hk.2⟩, by simp [i64ok], by decide⟩) ?_
  refine And.intro (fun vs Rs w2 x hh hR_ => ⟨Ext.refl _, flLoad kk37 (x38.trans x)⟩) ?_
  refine And.intro (fun vs Rs w2 x hh hR_ h1 => by
    obtain ⟨c1, e1, k1_⟩ := h1
    have k1x := k1_
    obtain ⟨kt1, nt1, st1, lst1, tst1, lat1, lct1, tat1, tct1, q1_, rfl, hkt1, hnt1, hst1, hllt1, hltt1, hLt1, hTt1⟩ := k1_.inv
    obtain ⟨vs', rfl⟩ := fl_at e1
    exact ⟨Ext.refl _, _, rfl, _, rfl, k1x.mono fun k hk => ⟨hk.1.imp id fun h => .inl h, hk.2⟩, by simp [i64ok], by decide⟩) ?_
  refine And.intro (fun vs Rs w2 x hh hR_ h1 h2 => by
    obtain ⟨c1, e1, k1_⟩ := h1
    obtain ⟨c2, e2, k2_⟩ := h2
    refine OpT.buildE (E := encR) (R := rdS (fun k => w.heap.size ≤ k ∧ k < w37.heap.size) (fun k => Rs 10 k ∨ (Rs 12 k)) w2) (vs := [vs 10, vs 12]) (css := [c1, c2]) (l := [⟨sN__zero, 0, num_5⟩, ⟨sN__succ, 1, num_6⟩]) Tryz.zeroValue84 (.cons rfl (.cons rfl (.nil))) Tryz.underlying34 Tryz.sizeOf84 rfl (by simp [e1, e2, Value.cells]) (Reps.cons (encR.mono k1_ fun k hk => ⟨hk.1.imp id fun h => .inl h, hk.2⟩) (Reps.cons (encR.mono k2_ fun k hk => ⟨hk.1.imp id fun h => .inr (h), hk.2⟩) (Reps.nil _ _ _))) rfl rfl hh fun w3 g e x3 z3 o3 hh3 => ?_
    exact ⟨x3, _, _, rfl, by simp [lenOk], o3.sl.mono fun k hk => ⟨hk.1.elim (fun h => h.1.imp id fun h => h.elim .inl fun h => .inr (.inl h)) (fun h => .inr (.inr (.inr (⟨h, hk.2⟩)))), hk.2⟩⟩) ?_
  refine And.intro (fun vs Rs w2 x hh hR_ h1 h2 => by
    obtain ⟨c1, e1, k1_⟩ := h1
    have k1x := k1_
    obtain ⟨kt1, nt1, st1, lst1, tst1, lat1, lct1, tat1, tct1, q1_, rfl, hkt1, hnt1, hst1, hllt1, hltt1, hLt1, hTt1⟩ := k1_.inv
    obtain ⟨A2_, c2, e2, n2_, k2_⟩ := h2
    obtain ⟨vs', rfl⟩ := fl_at2 e1 e2
    exact ⟨Ext.refl _, _, rfl, _, _, _, _, rfl, k1x.mono fun k hk => ⟨hk.1.imp id fun h => .inl h, hk.2⟩, tZ_rep _ _, k2_.mono fun k hk => ⟨hk.1.imp id fun h => .inr (.inl h), hk.2⟩, n2_, numI3_ok⟩) ?_
  refine And.intro (fun vs Rs w2 x hh hR_ h1 h2 h3 h4 => by
    obtain ⟨c1, e1, k1_⟩ := h1
    obtain ⟨c2, e2, k2_⟩ := h2
    obtain ⟨c3, e3, k3_⟩ := h3
    obtain ⟨c4, e4, k4_⟩ := h4
    refine OpT.buildE (E := encInf) (R := rdS (fun k => w.heap.size ≤ k ∧ k < w37.heap.size) (fun k => Rs 1 k ∨ (Rs 3 k ∨ (Rs 7 k ∨ (Rs 14 k)))) w2) (vs := [vs 1, vs 3, vs 7, vs 14]) (css := [c1, c2, c3, c4]) (l := [numI0, numI1, numI2, numI3]) Tryz.zeroValue36 (.cons rfl (.cons rfl (.cons rfl (.cons rfl (.nil))))) Tryz.underlying22 Tryz.sizeOf36 rfl (by simp [e1, e2, e3, e4, Value.cells]) (Reps.cons (encInf.mono k1_ fun k hk => ⟨hk.1.imp id fun h => .inl h, hk.2⟩) (Reps.cons (encInf.mono k2_ fun k hk => ⟨hk.1.imp id fun h => .inr (.inl h), hk.2⟩) (Reps.cons (encInf.mono k3_ fun k hk => ⟨hk.1.imp id fun h => .inr (.inr (.inl h)), hk.2⟩) (Reps.cons (encInf.mono k4_ fun k hk => ⟨hk.1.imp id fun h => .inr (.inr (.inr (h))), hk.2⟩) (Reps.nil _ _ _))))) rfl rfl hh fun w3 g e x3 z3 o3 hh3 => ?_
    exact ⟨x3, _, _, rfl, (y38.trans x).size, o3.mono fun k hk => ⟨hk.1.imp id fun h => h.elim .inl fun h => .inr (h.elim .inl fun h => .inr (h.elim .inl fun h => .inr (.inl h))), hk.2⟩⟩) ?_
  intro vs Os w39 x39 hh39 hp hO hd
  have q39 := x39.size
  obtain ⟨A39, lo39, es39, hlo39, ho39⟩ : (DV.SI w.heap.size numL).rep _ _ _ _ := hp 15 (by omega)
  refine Exists.intro [] (Exists.intro _ (Exists.intro [.v (vs 0), .v (vs 1), .v (vs 2), .v (vs 3), .v (vs 4), .v (vs 5), .v (vs 6), .v (vs 7), .v (vs 8), .v (vs 9), .v (vs 10), .v (vs 11), .v (vs 12), .v (vs 13), .v (vs 14), .v (vs 15)] ⟨hh39, rfl, rfl, ?_⟩))
  have y39 : Ext w w39 := y38.trans x39
  exact ⟨y39, A39, _, es39, lo39, hlo39, ho39.mono fun k hk => ⟨hk.1.elim (fun h => h.1) fun ⟨q, _, hq⟩ => by have := (hO q k hq).1; have := y38.size; omega, hk.2⟩⟩
end Go.Proofs.YtfljbnhhkdaobaaGreat

/-
  The sample: pairs.
-/
namespace Go.Proofs.YtfljbnhhkdaobaaGreat
open Go Go.RowKit Go.Proofs.Bw
set_option linter.unusedVariables false
set_option linter.unusedSimpArgs false
set_option maxHeartbeats 4000000 in
set_option maxRecDepth 20000 in
theorem pairs_8 (w : World) : Runs Tryz.prog 81 #[] w fun v w' => Ext w w' ∧ ∃ (A : Option Addr) (c : Nat), v = .slice A paiL.length c ∧ ∃ lo, w.heap.size ≤ lo ∧ OwnE encInf w' lo 36 (fun k => w.heap.size ≤ k ∧ k < lo) A c paiL := by
  refine Runs.of_vc cx_ok [0, 1, 2, 3, 4, 5, 6] [] Tryz.func81 rfl rfl rfl (Holds.nil _) ?_
  have y0 : Ext w w := Ext.refl w
  have hh0 := Holds.nil w
  refine (Co0_runs w y0.size sPair (by decide)).mono ?_
  rintro _ w1 ⟨x1, cs1, rfl, h1⟩
  have hh1 := hh0.ext x1
  have z1 := x1.size
  have k1 : VX w.heap.size w1 _ (tCo sPair []) := h1
  obtain ⟨ks1, ns1, ss1, lss1, tss1, las1, lcs1, tas1, tcs1, e1, rfl, hks1, hns1, hss1, hlls1, hlts1, hLs1, hTs1⟩ := h1.inv
  refine Lands.ret (s := .a [.v (.int .u8 ks1), .v (.int .i64 ns1), .v (.string ss1), .v (.slice las1 lss1.length lcs1), .v (.slice tas1 tss1.length tcs1)]) rfl rfl hh1 ?_
  have y1 : Ext w w1 := y0.trans x1
  intro g2 w2 e2 x2 z2 hh2; intro w3 m3 z3 hh3; replace m3 : Upd g2 w2 w3 := m3; have x3 : Ext w1 w3 := x2.upd m3 (by omega); have q3 := x3.size
  have y3 : Ext w w3 := y1.trans x3
  replace k1 := VX.ext k1 x3
  have k3 : VX w.heap.size w3 _ pai_1 := k1
  have kk3 := k3
  refine vFlow_mk 14 (fun k => w.heap.size ≤ k ∧ k < w3.heap.size) [.T tY, .T tY, .T (tV 1), .T (tV 1), .T pai_1, .T (tV 3), .T (tV 2), .ST [(tV 3), (tV 2)], .T (apT pai_1 [(tV 3), (tV 2)]), .T (tPi (tV 1) (apT pai_1 [(tV 3), (tV 2)])), .T (tPi (tV 1) (tPi (tV 1) (apT pai_1 [(tV 3), (tV 2)]))), .T (tPi tY (tPi (tV 1) (tPi (tV 1) (apT pai_1 [(tV 3), (tV 2)])))), .T (tPi tY (tPi tY (tPi (tV 1) (tPi (tV 1) (apT pai_1 [(tV 3), (tV 2)]))))), .A] rfl fun w4 x4 z4 hh4 => ?_
  have y4 : Ext w w4 := y3.trans x4
  replace k3 := VX.ext k3 x4
  refine And.intro (fun vs Rs w2 x hh hR_  => flCall (Type0_d) hh fun v w3 _ q => q) ?_
  refine And.intro (fun vs Rs w2 x hh hR_  => flCall (Type0_d) hh fun v w3 _ q => q) ?_
  refine And.intro (fun vs Rs w2 x hh hR_  => flCall (V_d 1 (by simp [i64ok])) hh fun v w3 _ q => q) ?_
  refine And.intro (fun vs Rs w2 x hh hR_  => flCall (V_d 1 (by simp [i64ok])) hh fun v w3 _ q => q) ?_
  refine And.intro (fun vs Rs w2 x hh hR_ => ⟨Ext.refl _, flLoad kk3 (x4.trans x)⟩) ?_
  refine And.intro (fun vs Rs w2 x hh hR_  => flCall (V_d 3 (by simp [i64ok])) hh fun v w3 _ q => q) ?_
  refine And.intro (fun vs Rs w2 x hh hR_  => flCall (V_d 2 (by simp [i64ok])) hh fun v w3 _ q => q) ?_
  refine And.intro (fun vs Rs w2 x hh hR_ h1 h2 => by
    obtain ⟨c1, e1, k1_⟩ := h1
    obtain ⟨c2, e2, k2_⟩ := h2
    refine OpT.buildE (E := encT) (R := rdS (fun k => w.heap.size ≤ k ∧ k < w3.heap.size) (fun k => Rs 5 k ∨ (Rs 6 k)) w2) (vs := [vs 5, vs 6]) (css := [c1, c2]) (l := [(tV 3), (tV 2)]) Tryz.zeroValue33 (.cons rfl (.cons rfl (.nil))) Tryz.underlying31 Tryz.sizeOf33 rfl (by simp [e1, e2, Value.cells]) (Reps.cons (VT.mono k1_ fun k hk => ⟨hk.1.imp id fun h => .inl h, hk.2⟩) (Reps.cons (VT.mono k2_ fun k hk => ⟨hk.1.imp id fun h => .inr (h), hk.2⟩) (Reps.nil _ _ _))) rfl rfl hh fun w3 g e x3 z3 o3 hh3 => ?_
    exact ⟨x3, _, _, rfl, by simp [lenOk], o3.sl.mono fun k hk => ⟨hk.1.elim (fun h => h.1.imp id fun h => h.elim .inl fun h => .inr (.inl h)) (fun h => .inr (.inr (.inr (⟨h, hk.2⟩)))), hk.2⟩⟩) ?_
  refine And.intro (fun vs Rs w2 x hh hR_ h1 h2 => flCall (A_d h1 h2) hh fun v w3 _ q => q) ?_
  refine And.intro (fun vs Rs w2 x hh hR_ h1 h2 => flCall (P_d h1 h2) hh fun v w3 _ q => q) ?_
  refine And.intro (fun vs Rs w2 x hh hR_ h1 h2 => flCall (P_d h1 h2) hh fun v w3 _ q => q) ?_
  refine And.intro (fun vs Rs w2 x hh hR_ h1 h2 => flCall (P_d h1 h2) hh fun v w3 _ q => q) ?_
  refine And.intro (fun vs Rs w2 x hh hR_ h1 h2 => flCall (P_d h1 h2) hh fun v w3 _ q => q) ?_
  refine And.intro (fun vs Rs w2 x hh hR_ => by
    intro g w3 e x3 z3 hh3
    exact ⟨x3, g, rfl, ⟨by omega, by omega⟩, hh3.box 1 _ rfl⟩) ?_
  intro vs Os w5 x5 hh5 hp hO hd
  have q5 := x5.size
  have hs5 : (DV.T (tPi tY (tPi tY (tPi (tV 1) (tPi (tV 1) (apT pai_1 [(tV 3), (tV 2)])))))).rep _ _ _ _ := hp 12 (by omega)
  have hA5 : DV.A.rep _ _ _ _ := hp 13 (by omega)
  obtain ⟨cs5, es5, h5⟩ := hs5
  obtain ⟨g5, eg5, hg5, bg5⟩ := hA5
  replace hg5 := flCum_own (by rfl) hg5
  have gO5 := hO _ _ hg5
  have h5x := h5
  obtain ⟨ks5, ns5, ss5, lss5, tss5, las5, lcs5, tas5, tcs5, e5, rfl, hks5, hns5, hss5, hlls5, hlts5, hLs5, hTs5⟩ := h5.inv
  refine Exists.intro [g5] (Exists.intro _ (Exists.intro [.v (vs 0), .v (vs 1), .v (vs 2), .v (vs 3), .v (vs 4), .v (vs 5), .v (vs 6), .v (vs 7), .v (vs 8), .v (vs 9), .v (vs 10), .v (vs 11), .a [.v (.int .u8 ks5), .v (.int .i64 ns5), .v (.string ss5), .v (.slice las5 lss5.length lcs5), .v (.slice tas5 tss5.length tcs5)], .p 1 0] ⟨Holds.add hh5 (c := [.v (.int .u8 0), .v (.int .i64 0), .v (.string noS), .v (.slice none 0 0), .v (.slice none 0 0)]) (fun i hi he => by have := hh4.lt i hi; omega) gO5.2 bg5 rfl, rfl, by rw [show (List.range 14).map vs = [vs 0, vs 1, vs 2, vs 3, vs 4, vs 5, vs 6, vs 7, vs 8, vs 9, vs 10, vs 11, vs 12, vs 13] from rfl, eg5, es5]; rfl, ?_⟩))
  intro w6 m6 z6 hh6
  replace m6 : Upd g5 w5 w6 := m6
  have x6 : Ext w4 w6 := x5.upd m6 (by omega)
  have y6 : Ext w w6 := y4.trans x6
  replace k3 := VX.ext k3 x6
  have k6 : VX w.heap.size w6 _ pai_2 := flStored h5x m6 (flCum_no (s := 12) (A := 13) (by decide) (by rfl) hd hg5) (fun hb => by have := hb.2; omega) (fun k hk => hk.1) (fun k hk => by have := y4.size; obtain ⟨q, _, hq⟩ := hk; have := (hO q k hq).1; omega)
  have kk3 := k3
  refine vFlow_mk 9 (fun k => w.heap.size ≤ k ∧ k < w6.heap.size) [.T pai_1, .T (tV 1), .T (tV 0), .ST [(tV 1), (tV 0)], .T (apT pai_1 [(tV 1), (tV 0)]), .L levU, .T (tSo levU), .T (tPi (apT pai_1 [(tV 1), (tV 0)]) (tSo levU)), .A] rfl fun w7 x7 z7 hh7 => ?_
  have y7 : Ext w w7 := y6.trans x7
  replace k3 := VX.ext k3 x7
  replace k6 := VX.ext k6 x7
  refine And.intro (fun vs Rs w2 x hh hR_ => ⟨Ext.refl _, flLoad kk3 (x7.trans x)⟩) ?_
  refine And.intro (fun vs Rs w2 x hh hR_  => flCall (V_d 1 (by simp [i64ok])) hh fun v w3 _ q => q) ?_
  refine And.intro (fun vs Rs w2 x hh hR_  => flCall (V_d 0 (by simp [i64ok])) hh fun v w3 _ q => q) ?_
  refine And.intro (fun vs Rs w2 x hh hR_ h1 h2 => by
    obtain ⟨c1, e1, k1_⟩ := h1
    obtain ⟨c2, e2, k2_⟩ := h2
    refine OpT.buildE (E := encT) (R := rdS (fun k => w.heap.size ≤ k ∧ k < w6.heap.size) (fun k => Rs 1 k ∨ (Rs 2 k)) w2) (vs := [vs 1, vs 2]) (css := [c1, c2]) (l := [(tV 1), (tV 0)]) Tryz.zeroValue33 (.cons rfl (.cons rfl (.nil))) Tryz.underlying31 Tryz.sizeOf33 rfl (by simp [e1, e2, Value.cells]) (Reps.cons (VT.mono k1_ fun k hk => ⟨hk.1.imp id fun h => .inl h, hk.2⟩) (Reps.cons (VT.mono k2_ fun k hk => ⟨hk.1.imp id fun h => .inr (h), hk.2⟩) (Reps.nil _ _ _))) rfl rfl hh fun w3 g e x3 z3 o3 hh3 => ?_
    exact ⟨x3, _, _, rfl, by simp [lenOk], o3.sl.mono fun k hk => ⟨hk.1.elim (fun h => h.1.imp id fun h => h.elim .inl fun h => .inr (.inl h)) (fun h => .inr (.inr (.inr (⟨h, hk.2⟩)))), hk.2⟩⟩) ?_
  refine And.intro (fun vs Rs w2 x hh hR_ h1 h2 => flCall (A_d h1 h2) hh fun v w3 _ q => q) ?_
  refine And.intro (fun vs Rs w2 x hh hR_  => flCall (U_d) hh fun v w3 _ q => q) ?_
  refine And.intro (fun vs Rs w2 x hh hR_ h1 => flCall (So_d h1) hh fun v w3 _ q => q) ?_
  refine And.intro (fun vs Rs w2 x hh hR_ h1 h2 => flCall (P_d h1 h2) hh fun v w3 _ q => q) ?_
  refine And.intro (fun vs Rs w2 x hh hR_ => by
    intro g w3 e x3 z3 hh3
    exact ⟨x3, g, rfl, ⟨by omega, by omega⟩, hh3.box 2 _ rfl⟩) ?_
  intro vs Os w8 x8 hh8 hp hO hd
  have q8 := x8.size
  have hs8 : (DV.T (tPi (apT pai_1 [(tV 1), (tV 0)]) (tSo levU))).rep _ _ _ _ := hp 7 (by omega)
  have hA8 : DV.A.rep _ _ _ _ := hp 8 (by omega)
  obtain ⟨cs8, es8, h8⟩ := hs8
  obtain ⟨g8, eg8, hg8, bg8⟩ := hA8
  replace hg8 := flCum_own (by rfl) hg8
  have gO8 := hO _ _ hg8
  have h8x := h8
  obtain ⟨ks8, ns8, ss8, lss8, tss8, las8, lcs8, tas8, tcs8, e8, rfl, hks8, hns8, hss8, hlls8, hlts8, hLs8, hTs8⟩ := h8.inv
  refine Exists.intro [g8] (Exists.intro _ (Exists.intro [.v (vs 0), .v (vs 1), .v (vs 2), .v (vs 3), .v (vs 4), .v (vs 5), .v (vs 6), .a [.v (.int .u8 ks8), .v (.int .i64 ns8), .v (.string ss8), .v (.slice las8 lss8.length lcs8), .v (.slice tas8 tss8.length tcs8)], .p 2 0] ⟨Holds.add hh8 (c := [.v (.int .u8 0), .v (.int .i64 0), .v (.string noS), .v (.slice none 0 0), .v (.slice none 0 0)]) (fun i hi he => by have := hh7.lt i hi; omega) gO8.2 bg8 rfl, rfl, by rw [show (List.range 9).map vs = [vs 0, vs 1, vs 2, vs 3, vs 4, vs 5, vs 6, vs 7, vs 8] from rfl, eg8, es8]; rfl, ?_⟩))
  intro w9 m9 z9 hh9
  replace m9 : Upd g8 w8 w9 := m9
  have x9 : Ext w7 w9 := x8.upd m9 (by omega)
  have y9 : Ext w w9 := y7.trans x9
  replace k3 := VX.ext k3 x9
  replace k6 := VX.ext k6 x9
  have k9 : VX w.heap.size w9 _ pai_3 := flStored h8x m9 (flCum_no (s := 7) (A := 8) (by decide) (by rfl) hd hg8) (fun hb => by have := hb.2; omega) (fun k hk => hk.1) (fun k hk => by have := y7.size; obtain ⟨q, _, hq⟩ := hk; have := (hO q k hq).1; omega)
  refine (V_runs8 w9 y9.size 2 (by simp [i64ok])).mono ?_
  rintro _ w10 ⟨x10, cs10, rfl, h10⟩
  have hh10 := hh9.ext x10
  have z10 := x10.size
  have k10 : VX w.heap.size w10 _ (tV 2) := h10
  obtain ⟨ks10, ns10, ss10, lss10, tss10, las10, lcs10, tas10, tcs10, e10, rfl, hks10, hns10, hss10, hlls10, hlts10, hLs10, hTs10⟩ := h10.inv
  refine Lands.ret (s := .a [.v (.int .u8 ks10), .v (.int .i64 ns10), .v (.string ss10), .v (.slice las10 lss10.length lcs10), .v (.slice tas10 tss10.length tcs10)]) rfl rfl hh10 ?_
  have y10 : Ext w w10 := y9.trans x10
  replace k3 := VX.ext k3 x10
  replace k6 := VX.ext k6 x10
  replace k9 := VX.ext k9 x10
  refine (V_runs8 w10 y10.size 2 (by simp [i64ok])).mono ?_
  rintro _ w11 ⟨x11, cs11, rfl, h11⟩
  have hh11 := hh10.ext x11
  have z11 := x11.size
  have k11 : VX w.heap.size w11 _ (tV 2) := h11
  obtain ⟨ks11, ns11, ss11, lss11, tss11, las11, lcs11, tas11, tcs11, e11, rfl, hks11, hns11, hss11, hlls11, hlts11, hLs11, hTs11⟩ := h11.inv
  refine Lands.ret (s := .a [.v (.int .u8 ks11), .v (.int .i64 ns11), .v (.string ss11), .v (.slice las11 lss11.length lcs11), .v (.slice tas11 tss11.length tcs11)]) rfl rfl hh11 ?_
  have y11 : Ext w w11 := y10.trans x11
  replace k3 := VX.ext k3 x11
  replace k6 := VX.ext k6 x11
  replace k9 := VX.ext k9 x11
  replace k10 := VX.ext k10 x11
  refine (V_runs8 w11 y11.size 2 (by simp [i64ok])).mono ?_
  rintro _ w12 ⟨x12, cs12, rfl, h12⟩
  have hh12 := hh11.ext x12
  have z12 := x12.size
  have k12 : VX w.heap.size w12 _ (tV 2) := h12
  obtain ⟨ks12, ns12, ss12, lss12, tss12, las12, lcs12, tas12, tcs12, e12, rfl, hks12, hns12, hss12, hlls12, hlts12, hLs12, hTs12⟩ := h12.inv
  refine Lands.ret (s := .a [.v (.int .u8 ks12), .v (.int .i64 ns12), .v (.string ss12), .v (.slice las12 lss12.length lcs12), .v (.slice tas12 tss12.length tcs12)]) rfl rfl hh12 ?_
  have y12 : Ext w w12 := y11.trans x12
  replace k3 := VX.ext k3 x12
  replace k6 := VX.ext k6 x12
  replace k9 := VX.ext k9 x12
  replace k10 := VX.ext k10 x12
  replace k11 := VX.ext k11 x12
  refine (Co0_runs w12 y12.size sPair__mk (by decide)).mono ?_
  rintro _ w13 ⟨x13, cs13, rfl, h13⟩
  have hh13 := hh12.ext x13
  have z13 := x13.size
  have k13 : VX w.heap.size w13 _ (tCo sPair__mk []) := h13
  obtain ⟨ks13, ns13, ss13, lss13, tss13, las13, lcs13, tas13, tcs13, e13, rfl, hks13, hns13, hss13, hlls13, hlts13, hLs13, hTs13⟩ := h13.inv
  refine Lands.ret (s := .a [.v (.int .u8 ks13), .v (.int .i64 ns13), .v (.string ss13), .v (.slice las13 lss13.length lcs13), .v (.slice tas13 tss13.length tcs13)]) rfl rfl hh13 ?_
  have y13 : Ext w w13 := y12.trans x13
  replace k3 := VX.ext k3 x13
  replace k6 := VX.ext k6 x13
  replace k9 := VX.ext k9 x13
  replace k10 := VX.ext k10 x13
  replace k11 := VX.ext k11 x13
  replace k12 := VX.ext k12 x13
  refine (V_runs8 w13 y13.size 4 (by simp [i64ok])).mono ?_
  rintro _ w14 ⟨x14, cs14, rfl, h14⟩
  have hh14 := hh13.ext x14
  have z14 := x14.size
  have k14 : VX w.heap.size w14 _ (tV 4) := h14
  obtain ⟨ks14, ns14, ss14, lss14, tss14, las14, lcs14, tas14, tcs14, e14, rfl, hks14, hns14, hss14, hlls14, hlts14, hLs14, hTs14⟩ := h14.inv
  refine Lands.ret (s := .a [.v (.int .u8 ks14), .v (.int .i64 ns14), .v (.string ss14), .v (.slice las14 lss14.length lcs14), .v (.slice tas14 tss14.length tcs14)]) rfl rfl hh14 ?_
  have y14 : Ext w w14 := y13.trans x14
  replace k3 := VX.ext k3 x14
  replace k6 := VX.ext k6 x14
  replace k9 := VX.ext k9 x14
  replace k10 := VX.ext k10 x14
  replace k11 := VX.ext k11 x14
  replace k12 := VX.ext k12 x14
  replace k13 := VX.ext k13 x14
  refine (V_runs8 w14 y14.size 3 (by simp [i64ok])).mono ?_
  rintro _ w15 ⟨x15, cs15, rfl, h15⟩
  have hh15 := hh14.ext x15
  have z15 := x15.size
  have k15 : VX w.heap.size w15 _ (tV 3) := h15
  obtain ⟨ks15, ns15, ss15, lss15, tss15, las15, lcs15, tas15, tcs15, e15, rfl, hks15, hns15, hss15, hlls15, hlts15, hLs15, hTs15⟩ := h15.inv
  refine Lands.ret (s := .a [.v (.int .u8 ks15), .v (.int .i64 ns15), .v (.string ss15), .v (.slice las15 lss15.length lcs15), .v (.slice tas15 tss15.length tcs15)]) rfl rfl hh15 ?_
  have y15 : Ext w w15 := y14.trans x15
  replace k3 := VX.ext k3 x15
  replace k6 := VX.ext k6 x15
  replace k9 := VX.ext k9 x15
  replace k10 := VX.ext k10 x15
  replace k11 := VX.ext k11 x15
  replace k12 := VX.ext k12 x15
  replace k13 := VX.ext k13 x15
  replace k14 := VX.ext k14 x15
  refine (V_runs8 w15 y15.size 1 (by simp [i64ok])).mono ?_
  rintro _ w16 ⟨x16, cs16, rfl, h16⟩
  have hh16 := hh15.ext x16
  have z16 := x16.size
  have k16 : VX w.heap.size w16 _ (tV 1) := h16
  obtain ⟨ks16, ns16, ss16, lss16, tss16, las16, lcs16, tas16, tcs16, e16, rfl, hks16, hns16, hss16, hlls16, hlts16, hLs16, hTs16⟩ := h16.inv
  refine Lands.ret (s := .a [.v (.int .u8 ks16), .v (.int .i64 ns16), .v (.string ss16), .v (.slice las16 lss16.length lcs16), .v (.slice tas16 tss16.length tcs16)]) rfl rfl hh16 ?_
  have y16 : Ext w w16 := y15.trans x16
  replace k3 := VX.ext k3 x16
  replace k6 := VX.ext k6 x16
  replace k9 := VX.ext k9 x16
  replace k10 := VX.ext k10 x16
  replace k11 := VX.ext k11 x16
  replace k12 := VX.ext k12 x16
  replace k13 := VX.ext k13 x16
  replace k14 := VX.ext k14 x16
  replace k15 := VX.ext k15 x16
  refine (V_runs8 w16 y16.size 0 (by simp [i64ok])).mono ?_
  rintro _ w17 ⟨x17, cs17, rfl, h17⟩
  have hh17 := hh16.ext x17
  have z17 := x17.size
  have k17 : VX w.heap.size w17 _ (tV 0) := h17
  obtain ⟨ks17, ns17, ss17, lss17, tss17, las17, lcs17, tas17, tcs17, e17, rfl, hks17, hns17, hss17, hlls17, hlts17, hLs17, hTs17⟩ := h17.inv
  refine Lands.ret (s := .a [.v (.int .u8 ks17), .v (.int .i64 ns17), .v (.string ss17), .v (.slice las17 lss17.length lcs17), .v (.slice tas17 tss17.length tcs17)]) rfl rfl hh17 ?_
  have y17 : Ext w w17 := y16.trans x17
  replace k3 := VX.ext k3 x17
  replace k6 := VX.ext k6 x17
  replace k9 := VX.ext k9 x17
  replace k10 := VX.ext k10 x17
  replace k11 := VX.ext k11 x17
  replace k12 := VX.ext k12 x17
  replace k13 := VX.ext k13 x17
  replace k14 := VX.ext k14 x17
  replace k15 := VX.ext k15 x17
  replace k16 := VX.ext k16 x17
  refine OpT.buildE (E := encT) (R := (fun k => w.heap.size ≤ k ∧ k < w17.heap.size)) (vs := [_, _, _, _]) (l := [(tV 4), (tV 3), (tV 1), (tV 0)]) Tryz.zeroValue33 (.cons rfl (.cons rfl (.cons rfl (.cons rfl (.nil))))) Tryz.underlying31 Tryz.sizeOf33 rfl rfl (Reps.cons k14 (Reps.cons k15 (Reps.cons k16 (Reps.cons k17 (Reps.nil _ _ _))))) rfl rfl hh17 fun w18 g18 e18 x18 z18 o18 hh18 => ?_
  have y18 : Ext w w18 := y17.trans x18
  replace k3 := VX.ext k3 x18
  replace k6 := VX.ext k6 x18
  replace k9 := VX.ext k9 x18
  replace k10 := VX.ext k10 x18
  replace k11 := VX.ext k11 x18
  replace k12 := VX.ext k12 x18
  replace k13 := VX.ext k13 x18
  refine (A_runs w18 y18.size (R := _) (tCo sPair__mk []) _ _ [(tV 4), (tV 3), (tV 1), (tV 0)] 4 k13 (fun k hk => by rcases hk.1 with h | h; exact h.1; have := y17.size; omega) o18.sl (by simp [lenOk])).mono ?_
  rintro _ w19 ⟨x19, cs19, rfl, h19⟩
  have hh19 := hh18.ext x19
  have z19 := x19.size
  have k19 : VX w.heap.size w19 _ (apT (tCo sPair__mk []) [(tV 4), (tV 3), (tV 1), (tV 0)]) := h19
  obtain ⟨ks19, ns19, ss19, lss19, tss19, las19, lcs19, tas19, tcs19, e19, rfl, hks19, hns19, hss19, hlls19, hlts19, hLs19, hTs19⟩ := h19.inv
  refine Lands.ret (s := .a [.v (.int .u8 ks19), .v (.int .i64 ns19), .v (.string ss19), .v (.slice las19 lss19.length lcs19), .v (.slice tas19 tss19.length tcs19)]) rfl rfl hh19 ?_
  have y19 : Ext w w19 := y18.trans x19
  replace k3 := VX.ext k3 x19
  replace k6 := VX.ext k6 x19
  replace k9 := VX.ext k9 x19
  replace k10 := VX.ext k10 x19
  replace k11 := VX.ext k11 x19
  replace k12 := VX.ext k12 x19
  refine OpT.buildE (E := encT) (R := (fun k => w.heap.size ≤ k ∧ k < w19.heap.size)) (vs := [_]) (l := [(apT (tCo sPair__mk []) [(tV 4), (tV 3), (tV 1), (tV 0)])]) Tryz.zeroValue33 (.cons rfl (.nil)) Tryz.underlying31 Tryz.sizeOf33 rfl rfl (Reps.cons k19 (Reps.nil _ _ _)) rfl rfl hh19 fun w20 g20 e20 x20 z20 o20 hh20 => ?_
  have y20 : Ext w w20 := y19.trans x20
  replace k3 := VX.ext k3 x20
  replace k6 := VX.ext k6 x20
  replace k9 := VX.ext k9 x20
  replace k10 := VX.ext k10 x20
  replace k11 := VX.ext k11 x20
  replace k12 := VX.ext k12 x20
  refine (A_runs w20 y20.size (R := _) (tV 2) _ _ [(apT (tCo sPair__mk []) [(tV 4), (tV 3), (tV 1), (tV 0)])] 1 k12 (fun k hk => by rcases hk.1 with h | h; exact h.1; have := y19.size; omega) o20.sl (by simp [lenOk])).mono ?_
  rintro _ w21 ⟨x21, cs21, rfl, h21⟩
  have hh21 := hh20.ext x21
  have z21 := x21.size
  have k21 : VX w.heap.size w21 _ (apT (tV 2) [(apT (tCo sPair__mk []) [(tV 4), (tV 3), (tV 1), (tV 0)])]) := h21
  obtain ⟨ks21, ns21, ss21, lss21, tss21, las21, lcs21, tas21, tcs21, e21, rfl, hks21, hns21, hss21, hlls21, hlts21, hLs21, hTs21⟩ := h21.inv
  refine Lands.ret (s := .a [.v (.int .u8 ks21), .v (.int .i64 ns21), .v (.string ss21), .v (.slice las21 lss21.length lcs21), .v (.slice tas21 tss21.length tcs21)]) rfl rfl hh21 ?_
  have y21 : Ext w w21 := y20.trans x21
  replace k3 := VX.ext k3 x21
  replace k6 := VX.ext k6 x21
  replace k9 := VX.ext k9 x21
  replace k10 := VX.ext k10 x21
  replace k11 := VX.ext k11 x21
  refine (P_runs8 w21 y21.size (tV 2) (apT (tV 2) [(apT (tCo sPair__mk []) [(tV 4), (tV 3), (tV 1), (tV 0)])]) _ _ k11 k21).mono ?_
  rintro _ w22 ⟨x22, cs22, rfl, h22⟩
  have hh22 := hh21.ext x22
  have z22 := x22.size
  have k22 : VX w.heap.size w22 _ (tPi (tV 2) (apT (tV 2) [(apT (tCo sPair__mk []) [(tV 4), (tV 3), (tV 1), (tV 0)])])) := h22
  obtain ⟨ks22, ns22, ss22, lss22, tss22, las22, lcs22, tas22, tcs22, e22, rfl, hks22, hns22, hss22, hlls22, hlts22, hLs22, hTs22⟩ := h22.inv
  refine Lands.ret (s := .a [.v (.int .u8 ks22), .v (.int .i64 ns22), .v (.string ss22), .v (.slice las22 lss22.length lcs22), .v (.slice tas22 tss22.length tcs22)]) rfl rfl hh22 ?_
  have y22 : Ext w w22 := y21.trans x22
  replace k3 := VX.ext k3 x22
  replace k6 := VX.ext k6 x22
  replace k9 := VX.ext k9 x22
  replace k10 := VX.ext k10 x22
  refine (P_runs8 w22 y22.size (tV 2) (tPi (tV 2) (apT (tV 2) [(apT (tCo sPair__mk []) [(tV 4), (tV 3), (tV 1), (tV 0)])])) _ _ k10 k22).mono ?_
  rintro _ w23 ⟨x23, cs23, rfl, h23⟩
  have hh23 := hh22.ext x23
  have z23 := x23.size
  have k23 : VX w.heap.size w23 _ (tPi (tV 2) (tPi (tV 2) (apT (tV 2) [(apT (tCo sPair__mk []) [(tV 4), (tV 3), (tV 1), (tV 0)])]))) := h23
  obtain ⟨ks23, ns23, ss23, lss23, tss23, las23, lcs23, tas23, tcs23, e23, rfl, hks23, hns23, hss23, hlls23, hlts23, hLs23, hTs23⟩ := h23.inv
  refine Lands.ret (s := .a [.v (.int .u8 ks23), .v (.int .i64 ns23), .v (.string ss23), .v (.slice las23 lss23.length lcs23), .v (.slice tas23 tss23.length tcs23)]) rfl rfl hh23 ?_
  have y23 : Ext w w23 := y22.trans x23
  replace k3 := VX.ext k3 x23
  replace k6 := VX.ext k6 x23
  replace k9 := VX.ext k9 x23
  intro g24 w24 e24 x24 z24 hh24; intro w25 m25 z25 hh25; replace m25 : Upd g24 w24 w25 := m25; have x25 : Ext w23 w25 := x24.upd m25 (by omega); have q25 := x25.size
  have y25 : Ext w w25 := y23.trans x25
  replace k3 := VX.ext k3 x25
  replace k6 := VX.ext k6 x25
  replace k9 := VX.ext k9 x25
  replace k23 := VX.ext k23 x25
  have k25 : VX w.heap.size w25 _ pai_4 := k23
  have kk3 := k3
  have kk9 := k9
  have kk25 := k25
  refine vFlow_mk 19 (fun k => w.heap.size ≤ k ∧ k < w25.heap.size) [.T tY, .T tY, .T pai_3, .T pai_4, .T pai_1, .T (tV 3), .T (tV 2), .ST [(tV 3), (tV 2)], .T (apT pai_1 [(tV 3), (tV 2)]), .T (tV 2), .T (tV 0), .ST [(tV 0)], .T (apT (tV 2) [(tV 0)]), .T (tPi (apT pai_1 [(tV 3), (tV 2)]) (apT (tV 2) [(tV 0)])), .T (tPi pai_4 (tPi (apT pai_1 [(tV 3), (tV 2)]) (apT (tV 2) [(tV 0)]))), .T (tPi pai_3 (tPi pai_4 (tPi (apT pai_1 [(tV 3), (tV 2)]) (apT (tV 2) [(tV 0)])))), .T (tPi tY (tPi pai_3 (tPi pai_4 (tPi (apT pai_1 [(tV 3), (tV 2)]) (apT (tV 2) [(tV 0)]))))), .T (tPi tY (tPi tY (tPi pai_3 (tPi pai_4 (tPi (apT pai_1 [(tV 3), (tV 2)]) (apT (tV 2) [(tV 0)])))))), .A] rfl fun w26 x26 z26 hh26 => ?_
  have y26 : Ext w w26 := y25.trans x26
  replace k3 := VX.ext k3 x26
  replace k6 := VX.ext k6 x26
  replace k9 := VX.ext k9 x26
  replace k25 := VX.ext k25 x26
  refine And.intro (fun vs Rs w2 x hh hR_  => flCall (Type0_d) hh fun v w3 _ q => q) ?_
  refine And.intro (fun vs Rs w2 x hh hR_  => flCall (Type0_d) hh fun v w3 _ q => q) ?_
  refine And.intro (fun vs Rs w2 x hh hR_ => ⟨Ext.refl _, flLoad kk9 (x26.trans x)⟩) ?_
  refine And.intro (fun vs Rs w2 x hh hR_ => ⟨Ext.refl _, flLoad kk25 (x26.trans x)⟩) ?_
  refine And.intro (fun vs Rs w2 x hh hR_ => ⟨Ext.refl _, flLoad kk3 (x26.trans x)⟩) ?_
  refine And.intro (fun vs Rs w2 x hh hR_  => flCall (V_d 3 (by simp [i64ok])) hh fun v w3 _ q => q) ?_
  refine And.intro (fun vs Rs w2 x hh hR_  => flCall (V_d 2 (by simp [i64ok])) hh fun v w3 _ q => q) ?_
  refine And.intro (fun vs Rs w2 x hh hR_ h1 h2 => by
    obtain ⟨c1, e1, k1_⟩ := h1
    obtain ⟨c2, e2, k2_⟩ := h2
    refine OpT.buildE (E := encT) (R := rdS (fun k => w.heap.size ≤ k ∧ k < w25.heap.size) (fun k => Rs 5 k ∨ (Rs 6 k)) w2) (vs := [vs 5, vs 6]) (css := [c1, c2]) (l := [(tV 3), (tV 2)]) Tryz.zeroValue33 (.cons rfl (.cons rfl (.nil))) Tryz.underlying31 Tryz.sizeOf33 rfl (by simp [e1, e2, Value.cells]) (Reps.cons (VT.mono k1_ fun k hk => ⟨hk.1.imp id fun h => .inl h, hk.2⟩) (Reps.cons (VT.mono k2_ fun k hk => ⟨hk.1.imp id fun h => .inr (h), hk.2⟩) (Reps.nil _ _ _))) rfl rfl hh fun w3 g e x3 z3 o3 hh3 => ?_
    exact ⟨x3, _, _, rfl, by simp [lenOk], o3.sl.mono fun k hk => ⟨hk.1.elim (fun h => h.1.imp id fun h => h.elim .inl fun h => .inr (.inl h)) (fun h => .inr (.inr (.inr (⟨h, hk.2⟩)))), hk.2⟩⟩) ?_
  refine And.intro (fun vs Rs w2 x hh hR_ h1 h2 => flCall (A_d h1 h2) hh fun v w3 _ q => q) ?_
  refine And.intro (fun vs Rs w2 x hh hR_  => flCall (V_d 2 (by simp [i64ok])) hh fun v w3 _ q => q) ?_
  refine And.intro (fun vs Rs w2 x hh hR_  => flCall (V_d 0 (by simp [i64ok])) hh fun v w3 _ q => q) ?_
  refine And.intro (fun vs Rs w2 x hh hR_ h1 => by
    obtain ⟨c1, e1, k1_⟩ := h1
    refine OpT.buildE (E := encT) (R := rdS (fun k => w.heap.size ≤ k ∧ k < w25.heap.size) (fun k => Rs 10 k) w2) (vs := [vs 10]) (css := [c1]) (l := [(tV 0)]) Tryz.zeroValue33 (.cons rfl (.nil)) Tryz.underlying31 Tryz.sizeOf33 rfl (by simp [e1, Value.cells]) (Reps.cons (VT.mono k1_ fun k hk => ⟨hk.1.imp id fun h => h, hk.2⟩) (Reps.nil _ _ _)) rfl rfl hh fun w3 g e x3 z3 o3 hh3 => ?_
    exact ⟨x3, _, _, rfl, by simp [lenOk], o3.sl.mono fun k hk => ⟨hk.1.elim (fun h => h.1.imp id fun h => .inl h) (fun h => .inr (.inr (⟨h, hk.2⟩))), hk.2⟩⟩) ?_
  refine And.intro (fun vs Rs w2 x hh hR_ h1 h2 => flCall (A_d h1 h2) hh fun v w3 _ q => q) ?_
  refine And.intro (fun vs Rs w2 x hh hR_ h1 h2 => flCall (P_d h1 h2) hh fun v w3 _ q => q) ?_
  refine And.intro (fun vs Rs w2 x hh hR_ h1 h2 => flCall (P_d h1 h2) hh fun v w3 _ q => q) ?_
  refine And.intro (fun vs Rs w2 x hh hR_ h1 h2 => flCall (P_d h1 h2) hh fun v w3 _ q => q) ?_
  refine And.intro (fun vs Rs w2 x hh hR_ h1 h2 => flCall (P_d h1 h2) hh fun v w3 _ q => q) ?_
  refine And.intro (fun vs Rs w2 x hh hR_ h1 h2 => flCall (P_d h1 h2) hh fun v w3 _ q => q) ?_
  refine And.intro (fun vs Rs w2 x hh hR_ => by
    intro g w3 e x3 z3 hh3
    exact ⟨x3, g, rfl, ⟨by omega, by omega⟩, hh3.box 4 _ rfl⟩) ?_
  intro vs Os w27 x27 hh27 hp hO hd
  have q27 := x27.size
  have hs27 : (DV.T (tPi tY (tPi tY (tPi pai_3 (tPi pai_4 (tPi (apT pai_1 [(tV 3), (tV 2)]) (apT (tV 2) [(tV 0)]))))))).rep _ _ _ _ := hp 17 (by omega)
  have hA27 : DV.A.rep _ _ _ _ := hp 18 (by omega)
  obtain ⟨cs27, es27, h27⟩ := hs27
  obtain ⟨g27, eg27, hg27, bg27⟩ := hA27
  replace hg27 := flCum_own (by rfl) hg27
  have gO27 := hO _ _ hg27
  have h27x := h27
  obtain ⟨ks27, ns27, ss27, lss27, tss27, las27, lcs27, tas27, tcs27, e27, rfl, hks27, hns27, hss27, hlls27, hlts27, hLs27, hTs27⟩ := h27.inv
  refine Exists.intro [g27] (Exists.intro _ (Exists.intro [.v (vs 0), .v (vs 1), .v (vs 2), .v (vs 3), .v (vs 4), .v (vs 5), .v (vs 6), .v (vs 7), .v (vs 8), .v (vs 9), .v (vs 10), .v (vs 11), .v (vs 12), .v (vs 13), .v (vs 14), .v (vs 15), .v (vs 16), .a [.v (.int .u8 ks27), .v (.int .i64 ns27), .v (.string ss27), .v (.slice las27 lss27.length lcs27), .v (.slice tas27 tss27.length tcs27)], .p 4 0] ⟨Holds.add hh27 (c := [.v (.int .u8 0), .v (.int .i64 0), .v (.string noS), .v (.slice none 0 0), .v (.slice none 0 0)]) (fun i hi he => by have := hh26.lt i hi; omega) gO27.2 bg27 rfl, rfl, by rw [show (List.range 19).map vs = [vs 0, vs 1, vs 2, vs 3, vs 4, vs 5, vs 6, vs 7, vs 8, vs 9, vs 10, vs 11, vs 12, vs 13, vs 14, vs 15, vs 16, vs 17, vs 18] from rfl, eg27, es27]; rfl, ?_⟩))
  intro w28 m28 z28 hh28
  replace m28 : Upd g27 w27 w28 := m28
  have x28 : Ext w26 w28 := x27.upd m28 (by omega)
  have y28 : Ext w w28 := y26.trans x28
  replace k3 := VX.ext k3 x28
  replace k6 := VX.ext k6 x28
  replace k9 := VX.ext k9 x28
  replace k25 := VX.ext k25 x28
  have k28 : VX w.heap.size w28 _ pai_5 := flStored h27x m28 (flCum_no (s := 17) (A := 18) (by decide) (by rfl) hd hg27) (fun hb => by have := hb.2; omega) (fun k hk => hk.1) (fun k hk => by have := y26.size; obtain ⟨q, _, hq⟩ := hk; have := (hO q k hq).1; omega)
  have kk3 := k3
  have kk9 := k9
  have kk25 := k25
  refine vFlow_mk 20 (fun k => w.heap.size ≤ k ∧ k < w28.heap.size) [.T tY, .T tY, .T pai_3, .T pai_4, .T pai_1, .T (tV 3), .T (tV 2), .ST [(tV 3), (tV 2)], .T (apT pai_1 [(tV 3), (tV 2)]), .T (tV 1), .T (tPr sPair 0 (tV 0)), .T (tPr sPair 1 (tV 0)), .ST [(tPr sPair 0 (tV 0)), (tPr sPair 1 (tV 0))], .T (apT (tV 1) [(tPr sPair 0 (tV 0)), (tPr sPair 1 (tV 0))]), .T (tLm (apT pai_1 [(tV 3), (tV 2)]) (apT (tV 1) [(tPr sPair 0 (tV 0)), (tPr sPair 1 (tV 0))])), .T (tLm pai_4 (tLm (apT pai_1 [(tV 3), (tV 2)]) (apT (tV 1) [(tPr sPair 0 (tV 0)), (tPr sPair 1 (tV 0))]))), .T (tLm pai_3 (tLm pai_4 (tLm (apT pai_1 [(tV 3), (tV 2)]) (apT (tV 1) [(tPr sPair 0 (tV 0)), (tPr sPair 1 (tV 0))])))), .T (tLm tY (tLm pai_3 (tLm pai_4 (tLm (apT pai_1 [(tV 3), (tV 2)]) (apT (tV 1) [(tPr sPair 0 (tV 0)), (tPr sPair 1 (tV 0))]))))), .T (tLm tY (tLm tY (tLm pai_3 (tLm pai_4 (tLm (apT pai_1 [(tV 3), (tV 2)]) (apT (tV 1) [(tPr sPair 0 (tV 0)), (tPr sPair 1 (tV 0))])))))), .A] rfl fun w29 x29 z29 hh29 => ?_
  have y29 : Ext w w29 := y28.trans x29
  replace k6 := VX.ext k6 x29
  replace k28 := VX.ext k28 x29
  refine And.intro (fun vs Rs w2 x hh hR_  => flCall (Type0_d) hh fun v w3 _ q => q) ?_
  refine And.intro (fun vs Rs w2 x hh hR_  => flCall (Type0_d) hh fun v w3 _ q => q) ?_
  refine And.intro (fun vs Rs w2 x hh hR_ => ⟨Ext.refl _, flLoad kk9 (x29.trans x)⟩) ?_
  refine And.intro (fun vs Rs w2 x hh hR_ => ⟨Ext.refl _, flLoad kk25 (x29.trans x)⟩) ?_
  refine And.intro (fun vs Rs w2 x hh hR_ => ⟨Ext.refl _, flLoad kk3 (x29.trans x)⟩) ?_
  refine And.intro (fun vs Rs w2 x hh hR_  => flCall (V_d 3 (by simp [i64ok])) hh fun v w3 _ q => q) ?_
  refine And.intro (fun vs Rs w2 x hh hR_  => flCall (V_d 2 (by simp [i64ok])) hh fun v w3 _ q => q) ?_
  refine And.intro (fun vs Rs w2 x hh hR_ h1 h2 => by
    obtain ⟨c1, e1, k1_⟩ := h1
    obtain ⟨c2, e2, k2_⟩ := h2
    refine OpT.buildE (E := encT) (R := rdS (fun k => w.heap.size ≤ k ∧ k < w28.heap.size) (fun k => Rs 5 k ∨ (Rs 6 k)) w2) (vs := [vs 5, vs 6]) (css := [c1, c2]) (l := [(tV 3), (tV 2)]) Tryz.zeroValue33 (.cons rfl (.cons rfl (.nil))) Tryz.underlying31 Tryz.sizeOf33 rfl (by simp [e1, e2, Value.cells]) (Reps.cons (VT.mono k1_ fun k hk => ⟨hk.1.imp id fun h => .inl h, hk.2⟩) (Reps.cons (VT.mono k2_ fun k hk => ⟨hk.1.imp id fun h => .inr (h), hk.2⟩) (Reps.nil _ _ _))) rfl rfl hh fun w3 g e x3 z3 o3 hh3 => ?_
    exact ⟨x3, _, _, rfl, by simp [lenOk], o3.sl.mono fun k hk => ⟨hk.1.elim (fun h => h.1.imp id fun h => h.elim .inl fun h => .inr (.inl h)) (fun h => .inr (.inr (.inr (⟨h, hk.2⟩)))), hk.2⟩⟩) ?_
  refine And.intro (fun vs Rs w2 x hh hR_ h1 h2 => flCall (A_d h1 h2) hh fun v w3 _ q => q) ?_
  refine And.intro (fun vs Rs w2 x hh hR_  => flCall (V_d 1 (by simp [i64ok])) hh fun v w3 _ q => q) ?_
  refine And.intro (fun vs Rs w2 x hh hR_  => flCall (field_d 0 (by simp [i64ok])) hh fun v w3 _ q => q) ?_
  refine And.intro (fun vs Rs w2 x hh hR_  => flCall (field_d 1 (by simp [i64ok])) hh fun v w3 _ q => q) ?_
  refine And.intro (fun vs Rs w2 x hh hR_ h1 h2 => by
    obtain ⟨c1, e1, k1_⟩ := h1
    obtain ⟨c2, e2, k2_⟩ := h2
    refine OpT.buildE (E := encT) (R := rdS (fun k => w.heap.size ≤ k ∧ k < w28.heap.size) (fun k => Rs 10 k ∨ (Rs 11 k)) w2) (vs := [vs 10, vs 11]) (css := [c1, c2]) (l := [(tPr sPair 0 (tV 0)), (tPr sPair 1 (tV 0))]) Tryz.zeroValue33 (.cons rfl (.cons rfl (.nil))) Tryz.underlying31 Tryz.sizeOf33 rfl (by simp [e1, e2, Value.cells]) (Reps.cons (VT.mono k1_ fun k hk => ⟨hk.1.imp id fun h => .inl h, hk.2⟩) (Reps.cons (VT.mono k2_ fun k hk => ⟨hk.1.imp id fun h => .inr (h), hk.2⟩) (Reps.nil _ _ _))) rfl rfl hh fun w3 g e x3 z3 o3 hh3 => ?_
    exact ⟨x3, _, _, rfl, by simp [lenOk], o3.sl.mono fun k hk => ⟨hk.1.elim (fun h => h.1.imp id fun h => h.elim .inl fun h => .inr (.inl h)) (fun h => .inr (.inr (.inr (⟨h, hk.2⟩)))), hk.2⟩⟩) ?_
  refine And.intro (fun vs Rs w2 x hh hR_ h1 h2 => flCall (A_d h1 h2) hh fun v w3 _ q => q) ?_
  refine And.intro (fun vs Rs w2 x hh hR_ h1 h2 => flCall (L_d h1 h2) hh fun v w3 _ q => q) ?_
  refine And.intro (fun vs Rs w2 x hh hR_ h1 h2 => flCall (L_d h1 h2) hh fun v w3 _ q => q) ?_
  refine And.intro (fun vs Rs w2 x hh hR_ h1 h2 => flCall (L_d h1 h2) hh fun v w3 _ q => q) ?_
  refine And.intro (fun vs Rs w2 x hh hR_ h1 h2 => flCall (L_d h1 h2) hh fun v w3 _ q => q) ?_
  refine And.intro (fun vs Rs w2 x hh hR_ h1 h2 => flCall (L_d h1 h2) hh fun v w3 _ q => q) ?_
  refine And.intro (fun vs Rs w2 x hh hR_ => by
    intro g w3 e x3 z3 hh3
    exact ⟨x3, g, rfl, ⟨by omega, by omega⟩, hh3.box 5 _ rfl⟩) ?_
  intro vs Os w30 x30 hh30 hp hO hd
  have q30 := x30.size
  have hs30 : (DV.T (tLm tY (tLm tY (tLm pai_3 (tLm pai_4 (tLm (apT pai_1 [(tV 3), (tV 2)]) (apT (tV 1) [(tPr sPair 0 (tV 0)), (tPr sPair 1 (tV 0))]))))))).rep _ _ _ _ := hp 18 (by omega)
  have hA30 : DV.A.rep _ _ _ _ := hp 19 (by omega)
  obtain ⟨cs30, es30, h30⟩ := hs30
  obtain ⟨g30, eg30, hg30, bg30⟩ := hA30
  replace hg30 := flCum_own (by rfl) hg30
  have gO30 := hO _ _ hg30
  have h30x := h30
  obtain ⟨ks30, ns30, ss30, lss30, tss30, las30, lcs30, tas30, tcs30, e30, rfl, hks30, hns30, hss30, hlls30, hlts30, hLs30, hTs30⟩ := h30.inv
  refine Exists.intro [g30] (Exists.intro _ (Exists.intro [.v (vs 0), .v (vs 1), .v (vs 2), .v (vs 3), .v (vs 4), .v (vs 5), .v (vs 6), .v (vs 7), .v (vs 8), .v (vs 9), .v (vs 10), .v (vs 11), .v (vs 12), .v (vs 13), .v (vs 14), .v (vs 15), .v (vs 16), .v (vs 17), .a [.v (.int .u8 ks30), .v (.int .i64 ns30), .v (.string ss30), .v (.slice las30 lss30.length lcs30), .v (.slice tas30 tss30.length tcs30)], .p 5 0] ⟨Holds.add hh30 (c := [.v (.int .u8 0), .v (.int .i64 0), .v (.string noS), .v (.slice none 0 0), .v (.slice none 0 0)]) (fun i hi he => by have := hh29.lt i hi; omega) gO30.2 bg30 rfl, rfl, by rw [show (List.range 20).map vs = [vs 0, vs 1, vs 2, vs 3, vs 4, vs 5, vs 6, vs 7, vs 8, vs 9, vs 10, vs 11, vs 12, vs 13, vs 14, vs 15, vs 16, vs 17, vs 18, vs 19] from rfl, eg30, es30]; rfl, ?_⟩))
  intro w31 m31 z31 hh31
  replace m31 : Upd g30 w30 w31 := m31
  have x31 : Ext w29 w31 := x30.upd m31 (by omega)
  have y31 : Ext w w31 := y29.trans x31
  replace k6 := VX.ext k6 x31
  replace k28 := VX.ext k28 x31
  have k31 : VX w.heap.size w31 _ pai_6 := flStored h30x m31 (flCum_no (s := 18) (A := 19) (by decide) (by rfl) hd hg30) (fun hb => by have := hb.2; omega) (fun k hk => hk.1) (fun k hk => by have := y29.size; obtain ⟨q, _, hq⟩ := hk; have := (hO q k hq).1; omega)
  have kk6 := k6
  have kk28 := k28
  have kk31 := k31
  refine vFlow_mk 12 (fun k => w.heap.size ≤ k ∧ k < w31.heap.size) [.T tY, .T tY, .T tY, .T (tPi tY tY), .T (tPi tY (tPi tY tY)), .IN paiI0, .T pai_2, .IN paiI1, .T pai_5, .T pai_6, .IN paiI2, .SI w.heap.size paiL] rfl fun w32 x32 z32 hh32 => ?_
  have y32 : Ext w w32 := y31.trans x32
  refine And.intro (fun vs Rs w2 x hh hR_  => flCall (Type0_d) hh fun v w3 _ q => q) ?_
  refine And.intro (fun vs Rs w2 x hh hR_  => flCall (Type0_d) hh fun v w3 _ q => q) ?_
  refine And.intro (fun vs Rs w2 x hh hR_  => flCall (Type0_d) hh fun v w3 _ q => q) ?_
  refine And.intro (fun vs Rs w2 x hh hR_ h1 h2 => flCall (P_d h1 h2) hh fun v w3 _ q => q) ?_
  refine And.intro (fun vs Rs w2 x hh hR_ h1 h2 => flCall (P_d h1 h2) hh fun v w3 _ q => q) ?_
  refine And.intro (fun vs Rs w2 x hh hR_ h1 => by
    obtain ⟨c1, e1, k1_⟩ := h1
    have k1x := k1_
    obtain ⟨kt1, nt1, st1, lst1, tst1, lat1, lct1, tat1, tct1, q1_, rfl, hkt1, hnt1, hst1, hllt1, hltt1, hLt1, hTt1⟩ := k1_.inv
    obtain ⟨vs', rfl⟩ := fl_at e1
    exact ⟨Ext.refl _, _, rfl, _, _, _, _, rfl, k1x.mono fun k hk => ⟨hk.1.imp id fun h => .inl h, hk.2⟩, tZ_rep _ _, Sl.nil _ _ _ _, by simp [lenOk, paiI0], paiI0_ok⟩) ?_
  refine And.intro (fun vs Rs w2 x hh hR_ => ⟨Ext.refl _, flLoad kk6 (x32.trans x)⟩) ?_
  refine And.intro (fun vs Rs w2 x hh hR_ h1 => by
    obtain ⟨c1, e1, k1_⟩ := h1
    have k1x := k1_
    obtain ⟨kt1, nt1, st1, lst1, tst1, lat1, lct1, tat1, tct1, q1_, rfl, hkt1, hnt1, hst1, hllt1, hltt1, hLt1, hTt1⟩ := k1_.inv
    obtain ⟨vs', rfl⟩ := fl_at e1
    exact ⟨Ext.refl _, _, rfl, _, _, _, _, rfl, k1x.mono fun k hk => ⟨hk.1.imp id fun h => .inl h, hk.2⟩, tZ_rep _ _, Sl.nil _ _ _ _, by simp [lenOk, paiI1], paiI1_ok⟩) ?_
  refine And.intro (fun vs Rs w2 x hh hR_ => ⟨Ext.refl _, flLoad kk28 (x32.trans x)⟩) ?_
  refine And.intro (fun vs Rs w2 x hh hR_ => ⟨Ext.refl _, flLoad kk31 (x32.trans x)⟩) ?_
  refine And.intro (fun vs Rs w2 x hh hR_ h1 h2 => by
    obtain ⟨c1, e1, k1_⟩ := h1
    have k1x := k1_
    obtain ⟨kt1, nt1, st1, lst1, tst1, lat1, lct1, tat1, tct1, q1_, rfl, hkt1, hnt1, hst1, hllt1, hltt1, hLt1, hTt1⟩ := k1_.inv
    obtain ⟨c2, e2, k2_⟩ := h2
    have k2x := k2_
    obtain ⟨kt2, nt2, st2, lst2, tst2, lat2, lct2, tat2, tct2, q2_, rfl, hkt2, hnt2, hst2, hllt2, hltt2, hLt2, hTt2⟩ := k2_.inv
    obtain ⟨vs', rfl⟩ := fl_at2 e1 e2
    exact ⟨Ext.refl _, _, rfl, _, _, _, _, rfl, k1x.mono fun k hk => ⟨hk.1.imp id fun h => .inl h, hk.2⟩, k2x.mono fun k hk => ⟨hk.1.imp id fun h => .inr (.inl h), hk.2⟩, Sl.nil _ _ _ _, by simp [lenOk, paiI2], paiI2_ok⟩) ?_
  refine And.intro (fun vs Rs w2 x hh hR_ h1 h2 h3 => by
    obtain ⟨c1, e1, k1_⟩ := h1
    obtain ⟨c2, e2, k2_⟩ := h2
    obtain ⟨c3, e3, k3_⟩ := h3
    refine OpT.buildE (E := encInf) (R := rdS (fun k => w.heap.size ≤ k ∧ k < w31.heap.size) (fun k => Rs 5 k ∨ (Rs 7 k ∨ (Rs 10 k))) w2) (vs := [vs 5, vs 7, vs 10]) (css := [c1, c2, c3]) (l := [paiI0, paiI1, paiI2]) Tryz.zeroValue36 (.cons rfl (.cons rfl (.cons rfl (.nil)))) Tryz.underlying22 Tryz.sizeOf36 rfl (by simp [e1, e2, e3, Value.cells]) (Reps.cons (encInf.mono k1_ fun k hk => ⟨hk.1.imp id fun h => .inl h, hk.2⟩) (Reps.cons (encInf.mono k2_ fun k hk => ⟨hk.1.imp id fun h => .inr (.inl h), hk.2⟩) (Reps.cons (encInf.mono k3_ fun k hk => ⟨hk.1.imp id fun h => .inr (.inr (h)), hk.2⟩) (Reps.nil _ _ _)))) rfl rfl hh fun w3 g e x3 z3 o3 hh3 => ?_
    exact ⟨x3, _, _, rfl, (y32.trans x).size, o3.mono fun k hk => ⟨hk.1.imp id fun h => h.elim .inl fun h => .inr (h.elim .inl fun h => .inr (.inl h)), hk.2⟩⟩) ?_
  intro vs Os w33 x33 hh33 hp hO hd
  have q33 := x33.size
  obtain ⟨A33, lo33, es33, hlo33, ho33⟩ : (DV.SI w.heap.size paiL).rep _ _ _ _ := hp 11 (by omega)
  refine Exists.intro [] (Exists.intro _ (Exists.intro [.v (vs 0), .v (vs 1), .v (vs 2), .v (vs 3), .v (vs 4), .v (vs 5), .v (vs 6), .v (vs 7), .v (vs 8), .v (vs 9), .v (vs 10), .v (vs 11)] ⟨hh33, rfl, rfl, ?_⟩))
  have y33 : Ext w w33 := y32.trans x33
  exact ⟨y33, A33, _, es33, lo33, hlo33, ho33.mono fun k hk => ⟨hk.1.elim (fun h => h.1) fun ⟨q, _, hq⟩ => by have := (hO q k hq).1; have := y32.size; omega, hk.2⟩⟩
end Go.Proofs.YtfljbnhhkdaobaaGreat
