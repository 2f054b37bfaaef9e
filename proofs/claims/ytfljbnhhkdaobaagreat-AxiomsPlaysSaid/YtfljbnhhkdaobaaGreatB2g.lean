/-
  The sample: lists.
-/
import Derived.Test.YtfljbnhhkdaobaaGreatA9
namespace Go.Proofs.YtfljbnhhkdaobaaGreat
open Go Go.RowKit Go.Proofs.Bw
set_option linter.unusedVariables false
set_option linter.unusedSimpArgs false
set_option maxHeartbeats 4000000 in
set_option maxRecDepth 20000 in
theorem lists_8 (w : World) : Runs Tryz.prog 82 #[] w fun v w' => Ext w w' ∧ ∃ (A : Option Addr) (c : Nat), v = .slice A lisL.length c ∧ ∃ lo, w.heap.size ≤ lo ∧ OwnE encInf w' lo 36 (fun k => w.heap.size ≤ k ∧ k < lo) A c lisL := by
  refine Runs.of_vc cx_ok [0, 1, 2, 3, 4, 5, 6, 7, 8, 9] [] Tryz.func82 rfl rfl rfl (Holds.nil _) ?_
  have y0 : Ext w w := Ext.refl w
  have hh0 := Holds.nil w
  refine (Co0_runs w y0.size sList (by decide)).mono ?_
  rintro _ w1 ⟨x1, cs1, rfl, h1⟩
  have hh1 := hh0.ext x1
  have z1 := x1.size
  have k1 : VX w.heap.size w1 _ (tCo sList []) := h1
  obtain ⟨ks1, ns1, ss1, lss1, tss1, las1, lcs1, tas1, tcs1, e1, rfl, hks1, hns1, hss1, hlls1, hlts1, hLs1, hTs1⟩ := h1.inv
  refine Lands.ret (s := .a [.v (.int .u8 ks1), .v (.int .i64 ns1), .v (.string ss1), .v (.slice las1 lss1.length lcs1), .v (.slice tas1 tss1.length tcs1)]) rfl rfl hh1 ?_
  have y1 : Ext w w1 := y0.trans x1
  intro g2 w2 e2 x2 z2 hh2; intro w3 m3 z3 hh3; replace m3 : Upd g2 w2 w3 := m3; have x3 : Ext w1 w3 := x2.upd m3 (by omega); have q3 := x3.size
  have y3 : Ext w w3 := y1.trans x3
  replace k1 := VX.ext k1 x3
  have k3 : VX w.heap.size w3 _ lis_1 := k1
  have kk3 := k3
  refine vFlow_mk 7 (fun k => w.heap.size ≤ k ∧ k < w3.heap.size) [.T tY, .T lis_1, .T (tV 0), .ST [(tV 0)], .T (apT lis_1 [(tV 0)]), .T (tPi tY (apT lis_1 [(tV 0)])), .A] rfl fun w4 x4 z4 hh4 => ?_
  have y4 : Ext w w4 := y3.trans x4
  replace k3 := VX.ext k3 x4
  refine And.intro (fun vs Rs w2 x hh hR_  => flCall (Type0_d) hh fun v w3 _ q => q) ?_
  refine And.intro (fun vs Rs w2 x hh hR_ => ⟨Ext.refl _, flLoad kk3 (x4.trans x)⟩) ?_
  refine And.intro (fun vs Rs w2 x hh hR_  => flCall (V_d 0 (by simp [i64ok])) hh fun v w3 _ q => q) ?_
  refine And.intro (fun vs Rs w2 x hh hR_ h1 => by
    obtain ⟨c1, e1, k1_⟩ := h1
    refine OpT.buildE (E := encT) (R := rdS (fun k => w.heap.size ≤ k ∧ k < w3.heap.size) (fun k => Rs 2 k) w2) (vs := [vs 2]) (css := [c1]) (l := [(tV 0)]) Tryz.zeroValue33 (.cons rfl (.nil)) Tryz.underlying31 Tryz.sizeOf33 rfl (by simp [e1, Value.cells]) (Reps.cons (VT.mono k1_ fun k hk => ⟨hk.1.imp id fun h => h, hk.2⟩) (Reps.nil _ _ _)) rfl rfl hh fun w3 g e x3 z3 o3 hh3 => ?_
    exact ⟨x3, _, _, rfl, by simp [lenOk], o3.sl.mono fun k hk => ⟨hk.1.elim (fun h => h.1.imp id fun h => .inl h) (fun h => .inr (.inr (⟨h, hk.2⟩))), hk.2⟩⟩) ?_
  refine And.intro (fun vs Rs w2 x hh hR_ h1 h2 => flCall (A_d h1 h2) hh fun v w3 _ q => q) ?_
  refine And.intro (fun vs Rs w2 x hh hR_ h1 h2 => flCall (P_d h1 h2) hh fun v w3 _ q => q) ?_
  refine And.intro (fun vs Rs w2 x hh hR_ => by
    intro g w3 e x3 z3 hh3
    exact ⟨x3, g, rfl, ⟨by omega, by omega⟩, hh3.box 1 _ rfl⟩) ?_
  intro vs Os w5 x5 hh5 hp hO hd
  have q5 := x5.size
  have hs5 : (DV.T (tPi tY (apT lis_1 [(tV 0)]))).rep _ _ _ _ := hp 5 (by omega)
  have hA5 : DV.A.rep _ _ _ _ := hp 6 (by omega)
  obtain ⟨cs5, es5, h5⟩ := hs5
  obtain ⟨g5, eg5, hg5, bg5⟩ := hA5
  replace hg5 := flCum_own (by rfl) hg5
  have gO5 := hO _ _ hg5
  have h5x := h5
  obtain ⟨ks5, ns5, ss5, lss5, tss5, las5, lcs5, tas5, tcs5, e5, rfl, hks5, hns5, hss5, hlls5, hlts5, hLs5, hTs5⟩ := h5.inv
  refine Exists.intro [g5] (Exists.intro _ (Exists.intro [.v (vs 0), .v (vs 1), .v (vs 2), .v (vs 3), .v (vs 4), .a [.v (.int .u8 ks5), .v (.int .i64 ns5), .v (.string ss5), .v (.slice las5 lss5.length lcs5), .v (.slice tas5 tss5.length tcs5)], .p 1 0] ⟨Holds.add hh5 (c := [.v (.int .u8 0), .v (.int .i64 0), .v (.string noS), .v (.slice none 0 0), .v (.slice none 0 0)]) (fun i hi he => by have := hh4.lt i hi; omega) gO5.2 bg5 rfl, rfl, by rw [show (List.range 7).map vs = [vs 0, vs 1, vs 2, vs 3, vs 4, vs 5, vs 6] from rfl, eg5, es5]; rfl, ?_⟩))
  intro w6 m6 z6 hh6
  replace m6 : Upd g5 w5 w6 := m6
  have x6 : Ext w4 w6 := x5.upd m6 (by omega)
  have y6 : Ext w w6 := y4.trans x6
  replace k3 := VX.ext k3 x6
  have k6 : VX w.heap.size w6 _ lis_2 := flStored h5x m6 (flCum_no (s := 5) (A := 6) (by decide) (by rfl) hd hg5) (fun hb => by have := hb.2; omega) (fun k hk => hk.1) (fun k hk => by have := y4.size; obtain ⟨q, _, hq⟩ := hk; have := (hO q k hq).1; omega)
  have kk3 := k3
  refine vFlow_mk 14 (fun k => w.heap.size ≤ k ∧ k < w6.heap.size) [.T tY, .T (tV 0), .T lis_1, .T (tV 1), .ST [(tV 1)], .T (apT lis_1 [(tV 1)]), .T lis_1, .T (tV 2), .ST [(tV 2)], .T (apT lis_1 [(tV 2)]), .T (tPi (apT lis_1 [(tV 1)]) (apT lis_1 [(tV 2)])), .T (tPi (tV 0) (tPi (apT lis_1 [(tV 1)]) (apT lis_1 [(tV 2)]))), .T (tPi tY (tPi (tV 0) (tPi (apT lis_1 [(tV 1)]) (apT lis_1 [(tV 2)])))), .A] rfl fun w7 x7 z7 hh7 => ?_
  have y7 : Ext w w7 := y6.trans x7
  replace k3 := VX.ext k3 x7
  replace k6 := VX.ext k6 x7
  refine And.intro (fun vs Rs w2 x hh hR_  => flCall (Type0_d) hh fun v w3 _ q => q) ?_
  refine And.intro (fun vs Rs w2 x hh hR_  => flCall (V_d 0 (by simp [i64ok])) hh fun v w3 _ q => q) ?_
  refine And.intro (fun vs Rs w2 x hh hR_ => ⟨Ext.refl _, flLoad kk3 (x7.trans x)⟩) ?_
  refine And.intro (fun vs Rs w2 x hh hR_  => flCall (V_d 1 (by simp [i64ok])) hh fun v w3 _ q => q) ?_
  refine And.intro (fun vs Rs w2 x hh hR_ h1 => by
    obtain ⟨c1, e1, k1_⟩ := h1
    refine OpT.buildE (E := encT) (R := rdS (fun k => w.heap.size ≤ k ∧ k < w6.heap.size) (fun k => Rs 3 k) w2) (vs := [vs 3]) (css := [c1]) (l := [(tV 1)]) Tryz.zeroValue33 (.cons rfl (.nil)) Tryz.underlying31 Tryz.sizeOf33 rfl (by simp [e1, Value.cells]) (Reps.cons (VT.mono k1_ fun k hk => ⟨hk.1.imp id fun h => h, hk.2⟩) (Reps.nil _ _ _)) rfl rfl hh fun w3 g e x3 z3 o3 hh3 => ?_
    exact ⟨x3, _, _, rfl, by simp [lenOk], o3.sl.mono fun k hk => ⟨hk.1.elim (fun h => h.1.imp id fun h => .inl h) (fun h => .inr (.inr (⟨h, hk.2⟩))), hk.2⟩⟩) ?_
  refine And.intro (fun vs Rs w2 x hh hR_ h1 h2 => flCall (A_d h1 h2) hh fun v w3 _ q => q) ?_
  refine And.intro (fun vs Rs w2 x hh hR_ => ⟨Ext.refl _, flLoad kk3 (x7.trans x)⟩) ?_
  refine And.intro (fun vs Rs w2 x hh hR_  => flCall (V_d 2 (by simp [i64ok])) hh fun v w3 _ q => q) ?_
  refine And.intro (fun vs Rs w2 x hh hR_ h1 => by
    obtain ⟨c1, e1, k1_⟩ := h1
    refine OpT.buildE (E := encT) (R := rdS (fun k => w.heap.size ≤ k ∧ k < w6.heap.size) (fun k => Rs 7 k) w2) (vs := [vs 7]) (css := [c1]) (l := [(tV 2)]) Tryz.zeroValue33 (.cons rfl (.nil)) Tryz.underlying31 Tryz.sizeOf33 rfl (by simp [e1, Value.cells]) (Reps.cons (VT.mono k1_ fun k hk => ⟨hk.1.imp id fun h => h, hk.2⟩) (Reps.nil _ _ _)) rfl rfl hh fun w3 g e x3 z3 o3 hh3 => ?_
    exact ⟨x3, _, _, rfl, by simp [lenOk], o3.sl.mono fun k hk => ⟨hk.1.elim (fun h => h.1.imp id fun h => .inl h) (fun h => .inr (.inr (⟨h, hk.2⟩))), hk.2⟩⟩) ?_
  refine And.intro (fun vs Rs w2 x hh hR_ h1 h2 => flCall (A_d h1 h2) hh fun v w3 _ q => q) ?_
  refine And.intro (fun vs Rs w2 x hh hR_ h1 h2 => flCall (P_d h1 h2) hh fun v w3 _ q => q) ?_
  refine And.intro (fun vs Rs w2 x hh hR_ h1 h2 => flCall (P_d h1 h2) hh fun v w3 _ q => q) ?_
  refine And.intro (fun vs Rs w2 x hh hR_ h1 h2 => flCall (P_d h1 h2) hh fun v w3 _ q => q) ?_
  refine And.intro (fun vs Rs w2 x hh hR_ => by
    intro g w3 e x3 z3 hh3
    exact ⟨x3, g, rfl, ⟨by omega, by omega⟩, hh3.box 2 _ rfl⟩) ?_
  intro vs Os w8 x8 hh8 hp hO hd
  have q8 := x8.size
  have hs8 : (DV.T (tPi tY (tPi (tV 0) (tPi (apT lis_1 [(tV 1)]) (apT lis_1 [(tV 2)]))))).rep _ _ _ _ := hp 12 (by omega)
  have hA8 : DV.A.rep _ _ _ _ := hp 13 (by omega)
  obtain ⟨cs8, es8, h8⟩ := hs8
  obtain ⟨g8, eg8, hg8, bg8⟩ := hA8
  replace hg8 := flCum_own (by rfl) hg8
  have gO8 := hO _ _ hg8
  have h8x := h8
  obtain ⟨ks8, ns8, ss8, lss8, tss8, las8, lcs8, tas8, tcs8, e8, rfl, hks8, hns8, hss8, hlls8, hlts8, hLs8, hTs8⟩ := h8.inv
  refine Exists.intro [g8] (Exists.intro _ (Exists.intro [.v (vs 0), .v (vs 1), .v (vs 2), .v (vs 3), .v (vs 4), .v (vs 5), .v (vs 6), .v (vs 7), .v (vs 8), .v (vs 9), .v (vs 10), .v (vs 11), .a [.v (.int .u8 ks8), .v (.int .i64 ns8), .v (.string ss8), .v (.slice las8 lss8.length lcs8), .v (.slice tas8 tss8.length tcs8)], .p 2 0] ⟨Holds.add hh8 (c := [.v (.int .u8 0), .v (.int .i64 0), .v (.string noS), .v (.slice none 0 0), .v (.slice none 0 0)]) (fun i hi he => by have := hh7.lt i hi; omega) gO8.2 bg8 rfl, rfl, by rw [show (List.range 14).map vs = [vs 0, vs 1, vs 2, vs 3, vs 4, vs 5, vs 6, vs 7, vs 8, vs 9, vs 10, vs 11, vs 12, vs 13] from rfl, eg8, es8]; rfl, ?_⟩))
  intro w9 m9 z9 hh9
  replace m9 : Upd g8 w8 w9 := m9
  have x9 : Ext w7 w9 := x8.upd m9 (by omega)
  have y9 : Ext w w9 := y7.trans x9
  replace k3 := VX.ext k3 x9
  replace k6 := VX.ext k6 x9
  have k9 : VX w.heap.size w9 _ lis_3 := flStored h8x m9 (flCum_no (s := 12) (A := 13) (by decide) (by rfl) hd hg8) (fun hb => by have := hb.2; omega) (fun k hk => hk.1) (fun k hk => by have := y7.size; obtain ⟨q, _, hq⟩ := hk; have := (hO q k hq).1; omega)
  have kk3 := k3
  refine vFlow_mk 8 (fun k => w.heap.size ≤ k ∧ k < w9.heap.size) [.T lis_1, .T (tV 0), .ST [(tV 0)], .T (apT lis_1 [(tV 0)]), .L levU, .T (tSo levU), .T (tPi (apT lis_1 [(tV 0)]) (tSo levU)), .A] rfl fun w10 x10 z10 hh10 => ?_
  have y10 : Ext w w10 := y9.trans x10
  replace k3 := VX.ext k3 x10
  replace k6 := VX.ext k6 x10
  replace k9 := VX.ext k9 x10
  refine And.intro (fun vs Rs w2 x hh hR_ => ⟨Ext.refl _, flLoad kk3 (x10.trans x)⟩) ?_
  refine And.intro (fun vs Rs w2 x hh hR_  => flCall (V_d 0 (by simp [i64ok])) hh fun v w3 _ q => q) ?_
  refine And.intro (fun vs Rs w2 x hh hR_ h1 => by
    obtain ⟨c1, e1, k1_⟩ := h1
    refine OpT.buildE (E := encT) (R := rdS (fun k => w.heap.size ≤ k ∧ k < w9.heap.size) (fun k => Rs 1 k) w2) (vs := [vs 1]) (css := [c1]) (l := [(tV 0)]) Tryz.zeroValue33 (.cons rfl (.nil)) Tryz.underlying31 Tryz.sizeOf33 rfl (by simp [e1, Value.cells]) (Reps.cons (VT.mono k1_ fun k hk => ⟨hk.1.imp id fun h => h, hk.2⟩) (Reps.nil _ _ _)) rfl rfl hh fun w3 g e x3 z3 o3 hh3 => ?_
    exact ⟨x3, _, _, rfl, by simp [lenOk], o3.sl.mono fun k hk => ⟨hk.1.elim (fun h => h.1.imp id fun h => .inl h) (fun h => .inr (.inr (⟨h, hk.2⟩))), hk.2⟩⟩) ?_
  refine And.intro (fun vs Rs w2 x hh hR_ h1 h2 => flCall (A_d h1 h2) hh fun v w3 _ q => q) ?_
  refine And.intro (fun vs Rs w2 x hh hR_  => flCall (U_d) hh fun v w3 _ q => q) ?_
  refine And.intro (fun vs Rs w2 x hh hR_ h1 => flCall (So_d h1) hh fun v w3 _ q => q) ?_
  refine And.intro (fun vs Rs w2 x hh hR_ h1 h2 => flCall (P_d h1 h2) hh fun v w3 _ q => q) ?_
  refine And.intro (fun vs Rs w2 x hh hR_ => by
    intro g w3 e x3 z3 hh3
    exact ⟨x3, g, rfl, ⟨by omega, by omega⟩, hh3.box 3 _ rfl⟩) ?_
  intro vs Os w11 x11 hh11 hp hO hd
  have q11 := x11.size
  have hs11 : (DV.T (tPi (apT lis_1 [(tV 0)]) (tSo levU))).rep _ _ _ _ := hp 6 (by omega)
  have hA11 : DV.A.rep _ _ _ _ := hp 7 (by omega)
  obtain ⟨cs11, es11, h11⟩ := hs11
  obtain ⟨g11, eg11, hg11, bg11⟩ := hA11
  replace hg11 := flCum_own (by rfl) hg11
  have gO11 := hO _ _ hg11
  have h11x := h11
  obtain ⟨ks11, ns11, ss11, lss11, tss11, las11, lcs11, tas11, tcs11, e11, rfl, hks11, hns11, hss11, hlls11, hlts11, hLs11, hTs11⟩ := h11.inv
  refine Exists.intro [g11] (Exists.intro _ (Exists.intro [.v (vs 0), .v (vs 1), .v (vs 2), .v (vs 3), .v (vs 4), .v (vs 5), .a [.v (.int .u8 ks11), .v (.int .i64 ns11), .v (.string ss11), .v (.slice las11 lss11.length lcs11), .v (.slice tas11 tss11.length tcs11)], .p 3 0] ⟨Holds.add hh11 (c := [.v (.int .u8 0), .v (.int .i64 0), .v (.string noS), .v (.slice none 0 0), .v (.slice none 0 0)]) (fun i hi he => by have := hh10.lt i hi; omega) gO11.2 bg11 rfl, rfl, by rw [show (List.range 8).map vs = [vs 0, vs 1, vs 2, vs 3, vs 4, vs 5, vs 6, vs 7] from rfl, eg11, es11]; rfl, ?_⟩))
  intro w12 m12 z12 hh12
  replace m12 : Upd g11 w11 w12 := m12
  have x12 : Ext w10 w12 := x11.upd m12 (by omega)
  have y12 : Ext w w12 := y10.trans x12
  replace k3 := VX.ext k3 x12
  replace k6 := VX.ext k6 x12
  replace k9 := VX.ext k9 x12
  have k12 : VX w.heap.size w12 _ lis_4 := flStored h11x m12 (flCum_no (s := 6) (A := 7) (by decide) (by rfl) hd hg11) (fun hb => by have := hb.2; omega) (fun k hk => hk.1) (fun k hk => by have := y10.size; obtain ⟨q, _, hq⟩ := hk; have := (hO q k hq).1; omega)
  refine (V_runs8 w12 y12.size 0 (by simp [i64ok])).mono ?_
  rintro _ w13 ⟨x13, cs13, rfl, h13⟩
  have hh13 := hh12.ext x13
  have z13 := x13.size
  have k13 : VX w.heap.size w13 _ (tV 0) := h13
  obtain ⟨ks13, ns13, ss13, lss13, tss13, las13, lcs13, tas13, tcs13, e13, rfl, hks13, hns13, hss13, hlls13, hlts13, hLs13, hTs13⟩ := h13.inv
  refine Lands.ret (s := .a [.v (.int .u8 ks13), .v (.int .i64 ns13), .v (.string ss13), .v (.slice las13 lss13.length lcs13), .v (.slice tas13 tss13.length tcs13)]) rfl rfl hh13 ?_
  have y13 : Ext w w13 := y12.trans x13
  replace k3 := VX.ext k3 x13
  replace k6 := VX.ext k6 x13
  replace k9 := VX.ext k9 x13
  replace k12 := VX.ext k12 x13
  refine (Co0_runs w13 y13.size sList__nil (by decide)).mono ?_
  rintro _ w14 ⟨x14, cs14, rfl, h14⟩
  have hh14 := hh13.ext x14
  have z14 := x14.size
  have k14 : VX w.heap.size w14 _ (tCo sList__nil []) := h14
  obtain ⟨ks14, ns14, ss14, lss14, tss14, las14, lcs14, tas14, tcs14, e14, rfl, hks14, hns14, hss14, hlls14, hlts14, hLs14, hTs14⟩ := h14.inv
  refine Lands.ret (s := .a [.v (.int .u8 ks14), .v (.int .i64 ns14), .v (.string ss14), .v (.slice las14 lss14.length lcs14), .v (.slice tas14 tss14.length tcs14)]) rfl rfl hh14 ?_
  have y14 : Ext w w14 := y13.trans x14
  replace k3 := VX.ext k3 x14
  replace k6 := VX.ext k6 x14
  replace k9 := VX.ext k9 x14
  replace k12 := VX.ext k12 x14
  replace k13 := VX.ext k13 x14
  refine (V_runs8 w14 y14.size 1 (by simp [i64ok])).mono ?_
  rintro _ w15 ⟨x15, cs15, rfl, h15⟩
  have hh15 := hh14.ext x15
  have z15 := x15.size
  have k15 : VX w.heap.size w15 _ (tV 1) := h15
  obtain ⟨ks15, ns15, ss15, lss15, tss15, las15, lcs15, tas15, tcs15, e15, rfl, hks15, hns15, hss15, hlls15, hlts15, hLs15, hTs15⟩ := h15.inv
  refine Lands.ret (s := .a [.v (.int .u8 ks15), .v (.int .i64 ns15), .v (.string ss15), .v (.slice las15 lss15.length lcs15), .v (.slice tas15 tss15.length tcs15)]) rfl rfl hh15 ?_
  have y15 : Ext w w15 := y14.trans x15
  replace k3 := VX.ext k3 x15
  replace k6 := VX.ext k6 x15
  replace k9 := VX.ext k9 x15
  replace k12 := VX.ext k12 x15
  replace k13 := VX.ext k13 x15
  replace k14 := VX.ext k14 x15
  refine OpT.buildE (E := encT) (R := (fun k => w.heap.size ≤ k ∧ k < w15.heap.size)) (vs := [_]) (l := [(tV 1)]) Tryz.zeroValue33 (.cons rfl (.nil)) Tryz.underlying31 Tryz.sizeOf33 rfl rfl (Reps.cons k15 (Reps.nil _ _ _)) rfl rfl hh15 fun w16 g16 e16 x16 z16 o16 hh16 => ?_
  have y16 : Ext w w16 := y15.trans x16
  replace k3 := VX.ext k3 x16
  replace k6 := VX.ext k6 x16
  replace k9 := VX.ext k9 x16
  replace k12 := VX.ext k12 x16
  replace k13 := VX.ext k13 x16
  replace k14 := VX.ext k14 x16
  refine (A_runs w16 y16.size (R := _) (tCo sList__nil []) _ _ [(tV 1)] 1 k14 (fun k hk => by rcases hk.1 with h | h; exact h.1; have := y15.size; omega) o16.sl (by simp [lenOk])).mono ?_
  rintro _ w17 ⟨x17, cs17, rfl, h17⟩
  have hh17 := hh16.ext x17
  have z17 := x17.size
  have k17 : VX w.heap.size w17 _ (apT (tCo sList__nil []) [(tV 1)]) := h17
  obtain ⟨ks17, ns17, ss17, lss17, tss17, las17, lcs17, tas17, tcs17, e17, rfl, hks17, hns17, hss17, hlls17, hlts17, hLs17, hTs17⟩ := h17.inv
  refine Lands.ret (s := .a [.v (.int .u8 ks17), .v (.int .i64 ns17), .v (.string ss17), .v (.slice las17 lss17.length lcs17), .v (.slice tas17 tss17.length tcs17)]) rfl rfl hh17 ?_
  have y17 : Ext w w17 := y16.trans x17
  replace k3 := VX.ext k3 x17
  replace k6 := VX.ext k6 x17
  replace k9 := VX.ext k9 x17
  replace k12 := VX.ext k12 x17
  replace k13 := VX.ext k13 x17
  refine OpT.buildE (E := encT) (R := (fun k => w.heap.size ≤ k ∧ k < w17.heap.size)) (vs := [_]) (l := [(apT (tCo sList__nil []) [(tV 1)])]) Tryz.zeroValue33 (.cons rfl (.nil)) Tryz.underlying31 Tryz.sizeOf33 rfl rfl (Reps.cons k17 (Reps.nil _ _ _)) rfl rfl hh17 fun w18 g18 e18 x18 z18 o18 hh18 => ?_
  have y18 : Ext w w18 := y17.trans x18
  replace k3 := VX.ext k3 x18
  replace k6 := VX.ext k6 x18
  replace k9 := VX.ext k9 x18
  replace k12 := VX.ext k12 x18
  replace k13 := VX.ext k13 x18
  refine (A_runs w18 y18.size (R := _) (tV 0) _ _ [(apT (tCo sList__nil []) [(tV 1)])] 1 k13 (fun k hk => by rcases hk.1 with h | h; exact h.1; have := y17.size; omega) o18.sl (by simp [lenOk])).mono ?_
  rintro _ w19 ⟨x19, cs19, rfl, h19⟩
  have hh19 := hh18.ext x19
  have z19 := x19.size
  have k19 : VX w.heap.size w19 _ (apT (tV 0) [(apT (tCo sList__nil []) [(tV 1)])]) := h19
  obtain ⟨ks19, ns19, ss19, lss19, tss19, las19, lcs19, tas19, tcs19, e19, rfl, hks19, hns19, hss19, hlls19, hlts19, hLs19, hTs19⟩ := h19.inv
  refine Lands.ret (s := .a [.v (.int .u8 ks19), .v (.int .i64 ns19), .v (.string ss19), .v (.slice las19 lss19.length lcs19), .v (.slice tas19 tss19.length tcs19)]) rfl rfl hh19 ?_
  have y19 : Ext w w19 := y18.trans x19
  replace k3 := VX.ext k3 x19
  replace k6 := VX.ext k6 x19
  replace k9 := VX.ext k9 x19
  replace k12 := VX.ext k12 x19
  intro g20 w20 e20 x20 z20 hh20; intro w21 m21 z21 hh21; replace m21 : Upd g20 w20 w21 := m21; have x21 : Ext w19 w21 := x20.upd m21 (by omega); have q21 := x21.size
  have y21 : Ext w w21 := y19.trans x21
  replace k3 := VX.ext k3 x21
  replace k6 := VX.ext k6 x21
  replace k9 := VX.ext k9 x21
  replace k12 := VX.ext k12 x21
  replace k19 := VX.ext k19 x21
  have k21 : VX w.heap.size w21 _ lis_5 := k19
  have kk3 := k3
  refine vFlow_mk 22 (fun k => w.heap.size ≤ k ∧ k < w21.heap.size) [.T (tV 2), .T lis_1, .T (tV 3), .ST [(tV 3)], .T (apT lis_1 [(tV 3)]), .T (tV 3), .T (tV 0), .ST [(tV 0)], .T (apT (tV 3) [(tV 0)]), .T (tV 4), .T (tCo sList__cons []), .T (tV 5), .T (tV 2), .T (tV 1), .ST [(tV 5), (tV 2), (tV 1)], .T (apT (tCo sList__cons []) [(tV 5), (tV 2), (tV 1)]), .ST [(apT (tCo sList__cons []) [(tV 5), (tV 2), (tV 1)])], .T (apT (tV 4) [(apT (tCo sList__cons []) [(tV 5), (tV 2), (tV 1)])]), .T (tPi (apT (tV 3) [(tV 0)]) (apT (tV 4) [(apT (tCo sList__cons []) [(tV 5), (tV 2), (tV 1)])])), .T (tPi (apT lis_1 [(tV 3)]) (tPi (apT (tV 3) [(tV 0)]) (apT (tV 4) [(apT (tCo sList__cons []) [(tV 5), (tV 2), (tV 1)])]))), .T (tPi (tV 2) (tPi (apT lis_1 [(tV 3)]) (tPi (apT (tV 3) [(tV 0)]) (apT (tV 4) [(apT (tCo sList__cons []) [(tV 5), (tV 2), (tV 1)])])))), .A] rfl fun w22 x22 z22 hh22 => ?_
  have y22 : Ext w w22 := y21.trans x22
  replace k3 := VX.ext k3 x22
  replace k6 := VX.ext k6 x22
  replace k9 := VX.ext k9 x22
  replace k12 := VX.ext k12 x22
  replace k21 := VX.ext k21 x22
  refine And.intro (fun vs Rs w2 x hh hR_  => flCall (V_d 2 (by simp [i64ok])) hh fun v w3 _ q => q) ?_
  refine And.intro (fun vs Rs w2 x hh hR_ => ⟨Ext.refl _, flLoad kk3 (x22.trans x)⟩) ?_
  refine And.intro (fun vs Rs w2 x hh hR_  => flCall (V_d 3 (by simp [i64ok])) hh fun v w3 _ q => q) ?_
  refine And.intro (fun vs Rs w2 x hh hR_ h1 => by
    obtain ⟨c1, e1, k1_⟩ := h1
    refine OpT.buildE (E := encT) (R := rdS (fun k => w.heap.size ≤ k ∧ k < w21.heap.size) (fun k => Rs 2 k) w2) (vs := [vs 2]) (css := [c1]) (l := [(tV 3)]) Tryz.zeroValue33 (.cons rfl (.nil)) Tryz.underlying31 Tryz.sizeOf33 rfl (by simp [e1, Value.cells]) (Reps.cons (VT.mono k1_ fun k hk => ⟨hk.1.imp id fun h => h, hk.2⟩) (Reps.nil _ _ _)) rfl rfl hh fun w3 g e x3 z3 o3 hh3 => ?_
    exact ⟨x3, _, _, rfl, by simp [lenOk], o3.sl.mono fun k hk => ⟨hk.1.elim (fun h => h.1.imp id fun h => .inl h) (fun h => .inr (.inr (⟨h, hk.2⟩))), hk.2⟩⟩) ?_
  refine And.intro (fun vs Rs w2 x hh hR_ h1 h2 => flCall (A_d h1 h2) hh fun v w3 _ q => q) ?_
  refine And.intro (fun vs Rs w2 x hh hR_  => flCall (V_d 3 (by simp [i64ok])) hh fun v w3 _ q => q) ?_
  refine And.intro (fun vs Rs w2 x hh hR_  => flCall (V_d 0 (by simp [i64ok])) hh fun v w3 _ q => q) ?_
  refine And.intro (fun vs Rs w2 x hh hR_ h1 => by
    obtain ⟨c1, e1, k1_⟩ := h1
    refine OpT.buildE (E := encT) (R := rdS (fun k => w.heap.size ≤ k ∧ k < w21.heap.size) (fun k => Rs 6 k) w2) (vs := [vs 6]) (css := [c1]) (l := [(tV 0)]) Tryz.zeroValue33 (.cons rfl (.nil)) Tryz.underlying31 Tryz.sizeOf33 rfl (by simp [e1, Value.cells]) (Reps.cons (VT.mono k1_ fun k hk => ⟨hk.1.imp id fun h => h, hk.2⟩) (Reps.nil _ _ _)) rfl rfl hh fun w3 g e x3 z3 o3 hh3 => ?_
    exact ⟨x3, _, _, rfl, by simp [lenOk], o3.sl.mono fun k hk => ⟨hk.1.elim (fun h => h.1.imp id fun h => .inl h) (fun h => .inr (.inr (⟨h, hk.2⟩))), hk.2⟩⟩) ?_
  refine And.intro (fun vs Rs w2 x hh hR_ h1 h2 => flCall (A_d h1 h2) hh fun v w3 _ q => q) ?_
  refine And.intro (fun vs Rs w2 x hh hR_  => flCall (V_d 4 (by simp [i64ok])) hh fun v w3 _ q => q) ?_
  refine And.intro (fun vs Rs w2 x hh hR_  => flCall (Co0_d sList__cons (by decide)) hh fun v w3 _ q => q) ?_
  refine And.intro (fun vs Rs w2 x hh hR_  => flCall (V_d 5 (by simp [i64ok])) hh fun v w3 _ q => q) ?_
  refine And.intro (fun vs Rs w2 x hh hR_  => flCall (V_d 2 (by simp [i64ok])) hh fun v w3 _ q => q) ?_
  refine And.intro (fun vs Rs w2 x hh hR_  => flCall (V_d 1 (by simp [i64ok])) hh fun v w3 _ q => q) ?_
  refine And.intro (fun vs Rs w2 x hh hR_ h1 h2 h3 => by
    obtain ⟨c1, e1, k1_⟩ := h1
    obtain ⟨c2, e2, k2_⟩ := h2
    obtain ⟨c3, e3, k3_⟩ := h3
    refine OpT.buildE (E := encT) (R := rdS (fun k => w.heap.size ≤ k ∧ k < w21.heap.size) (fun k => Rs 11 k ∨ (Rs 12 k ∨ (Rs 13 k))) w2) (vs := [vs 11, vs 12, vs 13]) (css := [c1, c2, c3]) (l := [(tV 5), (tV 2), (tV 1)]) Tryz.zeroValue33 (.cons rfl (.cons rfl (.cons rfl (.nil)))) Tryz.underlying31 Tryz.sizeOf33 rfl (by simp [e1, e2, e3, Value.cells]) (Reps.cons (VT.mono k1_ fun k hk => ⟨hk.1.imp id fun h => .inl h, hk.2⟩) (Reps.cons (VT.mono k2_ fun k hk => ⟨hk.1.imp id fun h => .inr (.inl h), hk.2⟩) (Reps.cons (VT.mono k3_ fun k hk => ⟨hk.1.imp id fun h => .inr (.inr (h)), hk.2⟩) (Reps.nil _ _ _)))) rfl rfl hh fun w3 g e x3 z3 o3 hh3 => ?_
    exact ⟨x3, _, _, rfl, by simp [lenOk], o3.sl.mono fun k hk => ⟨hk.1.elim (fun h => h.1.imp id fun h => h.elim .inl fun h => .inr (h.elim .inl fun h => .inr (.inl h))) (fun h => .inr (.inr (.inr (.inr (⟨h, hk.2⟩))))), hk.2⟩⟩) ?_
  refine And.intro (fun vs Rs w2 x hh hR_ h1 h2 => flCall (A_d h1 h2) hh fun v w3 _ q => q) ?_
  refine And.intro (fun vs Rs w2 x hh hR_ h1 => by
    obtain ⟨c1, e1, k1_⟩ := h1
    refine OpT.buildE (E := encT) (R := rdS (fun k => w.heap.size ≤ k ∧ k < w21.heap.size) (fun k => Rs 15 k) w2) (vs := [vs 15]) (css := [c1]) (l := [(apT (tCo sList__cons []) [(tV 5), (tV 2), (tV 1)])]) Tryz.zeroValue33 (.cons rfl (.nil)) Tryz.underlying31 Tryz.sizeOf33 rfl (by simp [e1, Value.cells]) (Reps.cons (VT.mono k1_ fun k hk => ⟨hk.1.imp id fun h => h, hk.2⟩) (Reps.nil _ _ _)) rfl rfl hh fun w3 g e x3 z3 o3 hh3 => ?_
    exact ⟨x3, _, _, rfl, by simp [lenOk], o3.sl.mono fun k hk => ⟨hk.1.elim (fun h => h.1.imp id fun h => .inl h) (fun h => .inr (.inr (⟨h, hk.2⟩))), hk.2⟩⟩) ?_
  refine And.intro (fun vs Rs w2 x hh hR_ h1 h2 => flCall (A_d h1 h2) hh fun v w3 _ q => q) ?_
  refine And.intro (fun vs Rs w2 x hh hR_ h1 h2 => flCall (P_d h1 h2) hh fun v w3 _ q => q) ?_
  refine And.intro (fun vs Rs w2 x hh hR_ h1 h2 => flCall (P_d h1 h2) hh fun v w3 _ q => q) ?_
  refine And.intro (fun vs Rs w2 x hh hR_ h1 h2 => flCall (P_d h1 h2) hh fun v w3 _ q => q) ?_
  refine And.intro (fun vs Rs w2 x hh hR_ => by
    intro g w3 e x3 z3 hh3
    exact ⟨x3, g, rfl, ⟨by omega, by omega⟩, hh3.box 5 _ rfl⟩) ?_
  intro vs Os w23 x23 hh23 hp hO hd
  have q23 := x23.size
  have hs23 : (DV.T (tPi (tV 2) (tPi (apT lis_1 [(tV 3)]) (tPi (apT (tV 3) [(tV 0)]) (apT (tV 4) [(apT (tCo sList__cons []) [(tV 5), (tV 2), (tV 1)])]))))).rep _ _ _ _ := hp 20 (by omega)
  have hA23 : DV.A.rep _ _ _ _ := hp 21 (by omega)
  obtain ⟨cs23, es23, h23⟩ := hs23
  obtain ⟨g23, eg23, hg23, bg23⟩ := hA23
  replace hg23 := flCum_own (by rfl) hg23
  have gO23 := hO _ _ hg23
  have h23x := h23
  obtain ⟨ks23, ns23, ss23, lss23, tss23, las23, lcs23, tas23, tcs23, e23, rfl, hks23, hns23, hss23, hlls23, hlts23, hLs23, hTs23⟩ := h23.inv
  refine Exists.intro [g23] (Exists.intro _ (Exists.intro [.v (vs 0), .v (vs 1), .v (vs 2), .v (vs 3), .v (vs 4), .v (vs 5), .v (vs 6), .v (vs 7), .v (vs 8), .v (vs 9), .v (vs 10), .v (vs 11), .v (vs 12), .v (vs 13), .v (vs 14), .v (vs 15), .v (vs 16), .v (vs 17), .v (vs 18), .v (vs 19), .a [.v (.int .u8 ks23), .v (.int .i64 ns23), .v (.string ss23), .v (.slice las23 lss23.length lcs23), .v (.slice tas23 tss23.length tcs23)], .p 5 0] ⟨Holds.add hh23 (c := [.v (.int .u8 0), .v (.int .i64 0), .v (.string noS), .v (.slice none 0 0), .v (.slice none 0 0)]) (fun i hi he => by have := hh22.lt i hi; omega) gO23.2 bg23 rfl, rfl, by rw [show (List.range 22).map vs = [vs 0, vs 1, vs 2, vs 3, vs 4, vs 5, vs 6, vs 7, vs 8, vs 9, vs 10, vs 11, vs 12, vs 13, vs 14, vs 15, vs 16, vs 17, vs 18, vs 19, vs 20, vs 21] from rfl, eg23, es23]; rfl, ?_⟩))
  intro w24 m24 z24 hh24
  replace m24 : Upd g23 w23 w24 := m24
  have x24 : Ext w22 w24 := x23.upd m24 (by omega)
  have y24 : Ext w w24 := y22.trans x24
  replace k3 := VX.ext k3 x24
  replace k6 := VX.ext k6 x24
  replace k9 := VX.ext k9 x24
  replace k12 := VX.ext k12 x24
  replace k21 := VX.ext k21 x24
  have k24 : VX w.heap.size w24 _ lis_6 := flStored h23x m24 (flCum_no (s := 20) (A := 21) (by decide) (by rfl) hd hg23) (fun hb => by have := hb.2; omega) (fun k hk => hk.1) (fun k hk => by have := y22.size; obtain ⟨q, _, hq⟩ := hk; have := (hO q k hq).1; omega)
  have kk3 := k3
  have kk12 := k12
  have kk21 := k21
  have kk24 := k24
  refine vFlow_mk 18 (fun k => w.heap.size ≤ k ∧ k < w24.heap.size) [.T tY, .T lis_4, .T lis_5, .T lis_6, .T lis_1, .T (tV 3), .ST [(tV 3)], .T (apT lis_1 [(tV 3)]), .T (tV 3), .T (tV 0), .ST [(tV 0)], .T (apT (tV 3) [(tV 0)]), .T (tPi (apT lis_1 [(tV 3)]) (apT (tV 3) [(tV 0)])), .T (tPi lis_6 (tPi (apT lis_1 [(tV 3)]) (apT (tV 3) [(tV 0)]))), .T (tPi lis_5 (tPi lis_6 (tPi (apT lis_1 [(tV 3)]) (apT (tV 3) [(tV 0)])))), .T (tPi lis_4 (tPi lis_5 (tPi lis_6 (tPi (apT lis_1 [(tV 3)]) (apT (tV 3) [(tV 0)]))))), .T (tPi tY (tPi lis_4 (tPi lis_5 (tPi lis_6 (tPi (apT lis_1 [(tV 3)]) (apT (tV 3) [(tV 0)])))))), .A] rfl fun w25 x25 z25 hh25 => ?_
  have y25 : Ext w w25 := y24.trans x25
  replace k3 := VX.ext k3 x25
  replace k6 := VX.ext k6 x25
  replace k9 := VX.ext k9 x25
  replace k12 := VX.ext k12 x25
  replace k21 := VX.ext k21 x25
  replace k24 := VX.ext k24 x25
  refine And.intro (fun vs Rs w2 x hh hR_  => flCall (Type0_d) hh fun v w3 _ q => q) ?_
  refine And.intro (fun vs Rs w2 x hh hR_ => ⟨Ext.refl _, flLoad kk12 (x25.trans x)⟩) ?_
  refine And.intro (fun vs Rs w2 x hh hR_ => ⟨Ext.refl _, flLoad kk21 (x25.trans x)⟩) ?_
  refine And.intro (fun vs Rs w2 x hh hR_ => ⟨Ext.refl _, flLoad kk24 (x25.trans x)⟩) ?_
  refine And.intro (fun vs Rs w2 x hh hR_ => ⟨Ext.refl _, flLoad kk3 (x25.trans x)⟩) ?_
  refine And.intro (fun vs Rs w2 x hh hR_  => flCall (V_d 3 (by simp [i64ok])) hh fun v w3 _ q => q) ?_
  refine And.intro (fun vs Rs w2 x hh hR_ h1 => by
    obtain ⟨c1, e1, k1_⟩ := h1
    refine OpT.buildE (E := encT) (R := rdS (fun k => w.heap.size ≤ k ∧ k < w24.heap.size) (fun k => Rs 5 k) w2) (vs := [vs 5]) (css := [c1]) (l := [(tV 3)]) Tryz.zeroValue33 (.cons rfl (.nil)) Tryz.underlying31 Tryz.sizeOf33 rfl (by simp [e1, Value.cells]) (Reps.cons (VT.mono k1_ fun k hk => ⟨hk.1.imp id fun h => h, hk.2⟩) (Reps.nil _ _ _)) rfl rfl hh fun w3 g e x3 z3 o3 hh3 => ?_
    exact ⟨x3, _, _, rfl, by simp [lenOk], o3.sl.mono fun k hk => ⟨hk.1.elim (fun h => h.1.imp id fun h => .inl h) (fun h => .inr (.inr (⟨h, hk.2⟩))), hk.2⟩⟩) ?_
  refine And.intro (fun vs Rs w2 x hh hR_ h1 h2 => flCall (A_d h1 h2) hh fun v w3 _ q => q) ?_
  refine And.intro (fun vs Rs w2 x hh hR_  => flCall (V_d 3 (by simp [i64ok])) hh fun v w3 _ q => q) ?_
  refine And.intro (fun vs Rs w2 x hh hR_  => flCall (V_d 0 (by simp [i64ok])) hh fun v w3 _ q => q) ?_
  refine And.intro (fun vs Rs w2 x hh hR_ h1 => by
    obtain ⟨c1, e1, k1_⟩ := h1
    refine OpT.buildE (E := encT) (R := rdS (fun k => w.heap.size ≤ k ∧ k < w24.heap.size) (fun k => Rs 9 k) w2) (vs := [vs 9]) (css := [c1]) (l := [(tV 0)]) Tryz.zeroValue33 (.cons rfl (.nil)) Tryz.underlying31 Tryz.sizeOf33 rfl (by simp [e1, Value.cells]) (Reps.cons (VT.mono k1_ fun k hk => ⟨hk.1.imp id fun h => h, hk.2⟩) (Reps.nil _ _ _)) rfl rfl hh fun w3 g e x3 z3 o3 hh3 => ?_
    exact ⟨x3, _, _, rfl, by simp [lenOk], o3.sl.mono fun k hk => ⟨hk.1.elim (fun h => h.1.imp id fun h => .inl h) (fun h => .inr (.inr (⟨h, hk.2⟩))), hk.2⟩⟩) ?_
  refine And.intro (fun vs Rs w2 x hh hR_ h1 h2 => flCall (A_d h1 h2) hh fun v w3 _ q => q) ?_
  refine And.intro (fun vs Rs w2 x hh hR_ h1 h2 => flCall (P_d h1 h2) hh fun v w3 _ q => q) ?_
  refine And.intro (fun vs Rs w2 x hh hR_ h1 h2 => flCall (P_d h1 h2) hh fun v w3 _ q => q) ?_
  refine And.intro (fun vs Rs w2 x hh hR_ h1 h2 => flCall (P_d h1 h2) hh fun v w3 _ q => q) ?_
  refine And.intro (fun vs Rs w2 x hh hR_ h1 h2 => flCall (P_d h1 h2) hh fun v w3 _ q => q) ?_
  refine And.intro (fun vs Rs w2 x hh hR_ h1 h2 => flCall (P_d h1 h2) hh fun v w3 _ q => q) ?_
  refine And.intro (fun vs Rs w2 x hh hR_ => by
    intro g w3 e x3 z3 hh3
    exact ⟨x3, g, rfl, ⟨by omega, by omega⟩, hh3.box 6 _ rfl⟩) ?_
  intro vs Os w26 x26 hh26 hp hO hd
  have q26 := x26.size
  have hs26 : (DV.T (tPi tY (tPi lis_4 (tPi lis_5 (tPi lis_6 (tPi (apT lis_1 [(tV 3)]) (apT (tV 3) [(tV 0)]))))))).rep _ _ _ _ := hp 16 (by omega)
  have hA26 : DV.A.rep _ _ _ _ := hp 17 (by omega)
  obtain ⟨cs26, es26, h26⟩ := hs26
  obtain ⟨g26, eg26, hg26, bg26⟩ := hA26
  replace hg26 := flCum_own (by rfl) hg26
  have gO26 := hO _ _ hg26
  have h26x := h26
  obtain ⟨ks26, ns26, ss26, lss26, tss26, las26, lcs26, tas26, tcs26, e26, rfl, hks26, hns26, hss26, hlls26, hlts26, hLs26, hTs26⟩ := h26.inv
  refine Exists.intro [g26] (Exists.intro _ (Exists.intro [.v (vs 0), .v (vs 1), .v (vs 2), .v (vs 3), .v (vs 4), .v (vs 5), .v (vs 6), .v (vs 7), .v (vs 8), .v (vs 9), .v (vs 10), .v (vs 11), .v (vs 12), .v (vs 13), .v (vs 14), .v (vs 15), .a [.v (.int .u8 ks26), .v (.int .i64 ns26), .v (.string ss26), .v (.slice las26 lss26.length lcs26), .v (.slice tas26 tss26.length tcs26)], .p 6 0] ⟨Holds.add hh26 (c := [.v (.int .u8 0), .v (.int .i64 0), .v (.string noS), .v (.slice none 0 0), .v (.slice none 0 0)]) (fun i hi he => by have := hh25.lt i hi; omega) gO26.2 bg26 rfl, rfl, by rw [show (List.range 18).map vs = [vs 0, vs 1, vs 2, vs 3, vs 4, vs 5, vs 6, vs 7, vs 8, vs 9, vs 10, vs 11, vs 12, vs 13, vs 14, vs 15, vs 16, vs 17] from rfl, eg26, es26]; rfl, ?_⟩))
  intro w27 m27 z27 hh27
  replace m27 : Upd g26 w26 w27 := m27
  have x27 : Ext w25 w27 := x26.upd m27 (by omega)
  have y27 : Ext w w27 := y25.trans x27
  replace k3 := VX.ext k3 x27
  replace k6 := VX.ext k6 x27
  replace k9 := VX.ext k9 x27
  replace k12 := VX.ext k12 x27
  replace k21 := VX.ext k21 x27
  replace k24 := VX.ext k24 x27
  have k27 : VX w.heap.size w27 _ lis_7 := flStored h26x m27 (flCum_no (s := 16) (A := 17) (by decide) (by rfl) hd hg26) (fun hb => by have := hb.2; omega) (fun k hk => hk.1) (fun k hk => by have := y25.size; obtain ⟨q, _, hq⟩ := hk; have := (hO q k hq).1; omega)
  have kk12 := k12
  have kk21 := k21
  have kk24 := k24
  refine vFlow_mk 10 (fun k => w.heap.size ≤ k ∧ k < w27.heap.size) [.T tY, .T lis_4, .T lis_5, .T lis_6, .T (tV 1), .T (tLm lis_6 (tV 1)), .T (tLm lis_5 (tLm lis_6 (tV 1))), .T (tLm lis_4 (tLm lis_5 (tLm lis_6 (tV 1)))), .T (tLm tY (tLm lis_4 (tLm lis_5 (tLm lis_6 (tV 1))))), .A] rfl fun w28 x28 z28 hh28 => ?_
  have y28 : Ext w w28 := y27.trans x28
  replace k3 := VX.ext k3 x28
  replace k6 := VX.ext k6 x28
  replace k9 := VX.ext k9 x28
  replace k12 := VX.ext k12 x28
  replace k21 := VX.ext k21 x28
  replace k24 := VX.ext k24 x28
  replace k27 := VX.ext k27 x28
  refine And.intro (fun vs Rs w2 x hh hR_  => flCall (Type0_d) hh fun v w3 _ q => q) ?_
  refine And.intro (fun vs Rs w2 x hh hR_ => ⟨Ext.refl _, flLoad kk12 (x28.trans x)⟩) ?_
  refine And.intro (fun vs Rs w2 x hh hR_ => ⟨Ext.refl _, flLoad kk21 (x28.trans x)⟩) ?_
  refine And.intro (fun vs Rs w2 x hh hR_ => ⟨Ext.refl _, flLoad kk24 (x28.trans x)⟩) ?_
  refine And.intro (fun vs Rs w2 x hh hR_  => flCall (V_d 1 (by simp [i64ok])) hh fun v w3 _ q => q) ?_
  refine And.intro (fun vs Rs w2 x hh hR_ h1 h2 => flCall (L_d h1 h2) hh fun v w3 _ q => q) ?_
  refine And.intro (fun vs Rs w2 x hh hR_ h1 h2 => flCall (L_d h1 h2) hh fun v w3 _ q => q) ?_
  refine And.intro (fun vs Rs w2 x hh hR_ h1 h2 => flCall (L_d h1 h2) hh fun v w3 _ q => q) ?_
  refine And.intro (fun vs Rs w2 x hh hR_ h1 h2 => flCall (L_d h1 h2) hh fun v w3 _ q => q) ?_
  refine And.intro (fun vs Rs w2 x hh hR_ => by
    intro g w3 e x3 z3 hh3
    exact ⟨x3, g, rfl, ⟨by omega, by omega⟩, hh3.box 7 _ rfl⟩) ?_
  intro vs Os w29 x29 hh29 hp hO hd
  have q29 := x29.size
  have hs29 : (DV.T (tLm tY (tLm lis_4 (tLm lis_5 (tLm lis_6 (tV 1)))))).rep _ _ _ _ := hp 8 (by omega)
  have hA29 : DV.A.rep _ _ _ _ := hp 9 (by omega)
  obtain ⟨cs29, es29, h29⟩ := hs29
  obtain ⟨g29, eg29, hg29, bg29⟩ := hA29
  replace hg29 := flCum_own (by rfl) hg29
  have gO29 := hO _ _ hg29
  have h29x := h29
  obtain ⟨ks29, ns29, ss29, lss29, tss29, las29, lcs29, tas29, tcs29, e29, rfl, hks29, hns29, hss29, hlls29, hlts29, hLs29, hTs29⟩ := h29.inv
  refine Exists.intro [g29] (Exists.intro _ (Exists.intro [.v (vs 0), .v (vs 1), .v (vs 2), .v (vs 3), .v (vs 4), .v (vs 5), .v (vs 6), .v (vs 7), .a [.v (.int .u8 ks29), .v (.int .i64 ns29), .v (.string ss29), .v (.slice las29 lss29.length lcs29), .v (.slice tas29 tss29.length tcs29)], .p 7 0] ⟨Holds.add hh29 (c := [.v (.int .u8 0), .v (.int .i64 0), .v (.string noS), .v (.slice none 0 0), .v (.slice none 0 0)]) (fun i hi he => by have := hh28.lt i hi; omega) gO29.2 bg29 rfl, rfl, by rw [show (List.range 10).map vs = [vs 0, vs 1, vs 2, vs 3, vs 4, vs 5, vs 6, vs 7, vs 8, vs 9] from rfl, eg29, es29]; rfl, ?_⟩))
  intro w30 m30 z30 hh30
  replace m30 : Upd g29 w29 w30 := m30
  have x30 : Ext w28 w30 := x29.upd m30 (by omega)
  have y30 : Ext w w30 := y28.trans x30
  replace k3 := VX.ext k3 x30
  replace k6 := VX.ext k6 x30
  replace k9 := VX.ext k9 x30
  replace k12 := VX.ext k12 x30
  replace k21 := VX.ext k21 x30
  replace k24 := VX.ext k24 x30
  replace k27 := VX.ext k27 x30
  have k30 : VX w.heap.size w30 _ lis_8 := flStored h29x m30 (flCum_no (s := 8) (A := 9) (by decide) (by rfl) hd hg29) (fun hb => by have := hb.2; omega) (fun k hk => hk.1) (fun k hk => by have := y28.size; obtain ⟨q, _, hq⟩ := hk; have := (hO q k hq).1; omega)
  have kk3 := k3
  have kk12 := k12
  have kk21 := k21
  have kk24 := k24
  refine vFlow_mk 31 (fun k => w.heap.size ≤ k ∧ k < w30.heap.size) [.T tY, .T lis_4, .T lis_5, .T lis_6, .T (tV 3), .T lis_1, .T (tV 4), .ST [(tV 4)], .T (apT lis_1 [(tV 4)]), .T (tV 2), .T (tV 1), .T (tV 0), .L levU, .SL [levU], .T (tCo sList__rec [levU]), .T (tV 5), .T (tV 4), .T (tV 3), .T (tV 2), .T (tV 0), .ST [(tV 5), (tV 4), (tV 3), (tV 2), (tV 0)], .T (apT (tCo sList__rec [levU]) [(tV 5), (tV 4), (tV 3), (tV 2), (tV 0)]), .ST [(tV 1), (tV 0), (apT (tCo sList__rec [levU]) [(tV 5), (tV 4), (tV 3), (tV 2), (tV 0)])], .T (apT (tV 2) [(tV 1), (tV 0), (apT (tCo sList__rec [levU]) [(tV 5), (tV 4), (tV 3), (tV 2), (tV 0)])]), .T (tLm (apT lis_1 [(tV 4)]) (apT (tV 2) [(tV 1), (tV 0), (apT (tCo sList__rec [levU]) [(tV 5), (tV 4), (tV 3), (tV 2), (tV 0)])])), .T (tLm (tV 3) (tLm (apT lis_1 [(tV 4)]) (apT (tV 2) [(tV 1), (tV 0), (apT (tCo sList__rec [levU]) [(tV 5), (tV 4), (tV 3), (tV 2), (tV 0)])]))), .T (tLm lis_6 (tLm (tV 3) (tLm (apT lis_1 [(tV 4)]) (apT (tV 2) [(tV 1), (tV 0), (apT (tCo sList__rec [levU]) [(tV 5), (tV 4), (tV 3), (tV 2), (tV 0)])])))), .T (tLm lis_5 (tLm lis_6 (tLm (tV 3) (tLm (apT lis_1 [(tV 4)]) (apT (tV 2) [(tV 1), (tV 0), (apT (tCo sList__rec [levU]) [(tV 5), (tV 4), (tV 3), (tV 2), (tV 0)])]))))), .T (tLm lis_4 (tLm lis_5 (tLm lis_6 (tLm (tV 3) (tLm (apT lis_1 [(tV 4)]) (apT (tV 2) [(tV 1), (tV 0), (apT (tCo sList__rec [levU]) [(tV 5), (tV 4), (tV 3), (tV 2), (tV 0)])])))))), .T (tLm tY (tLm lis_4 (tLm lis_5 (tLm lis_6 (tLm (tV 3) (tLm (apT lis_1 [(tV 4)]) (apT (tV 2) [(tV 1), (tV 0), (apT (tCo sList__rec [levU]) [(tV 5), (tV 4), (tV 3), (tV 2), (tV 0)])]))))))), .A] rfl fun w31 x31 z31 hh31 => ?_
  have y31 : Ext w w31 := y30.trans x31
  replace k6 := VX.ext k6 x31
  replace k9 := VX.ext k9 x31
  replace k27 := VX.ext k27 x31
  replace k30 := VX.ext k30 x31
  refine And.intro (fun vs Rs w2 x hh hR_  => flCall (Type0_d) hh fun v w3 _ q => q) ?_
  refine And.intro (fun vs Rs w2 x hh hR_ => ⟨Ext.refl _, flLoad kk12 (x31.trans x)⟩) ?_
  refine And.intro (fun vs Rs w2 x hh hR_ => ⟨Ext.refl _, flLoad kk21 (x31.trans x)⟩) ?_
  refine And.intro (fun vs Rs w2 x hh hR_ => ⟨Ext.refl _, flLoad kk24 (x31.trans x)⟩) ?_
  refine And.intro (fun vs Rs w2 x hh hR_  => flCall (V_d 3 (by simp [i64ok])) hh fun v w3 _ q => q) ?_
  refine And.intro (fun vs Rs w2 x hh hR_ => ⟨Ext.refl _, flLoad kk3 (x31.trans x)⟩) ?_
  refine And.intro (fun vs Rs w2 x hh hR_  => flCall (V_d 4 (by simp [i64ok])) hh fun v w3 _ q => q) ?_
  refine And.intro (fun vs Rs w2 x hh hR_ h1 => by
    obtain ⟨c1, e1, k1_⟩ := h1
    refine OpT.buildE (E := encT) (R := rdS (fun k => w.heap.size ≤ k ∧ k < w30.heap.size) (fun k => Rs 6 k) w2) (vs := [vs 6]) (css := [c1]) (l := [(tV 4)]) Tryz.zeroValue33 (.cons rfl (.nil)) Tryz.underlying31 Tryz.sizeOf33 rfl (by simp [e1, Value.cells]) (Reps.cons (VT.mono k1_ fun k hk => ⟨hk.1.imp id fun h => h, hk.2⟩) (Reps.nil _ _ _)) rfl rfl hh fun w3 g e x3 z3 o3 hh3 => ?_
    exact ⟨x3, _, _, rfl, by simp [lenOk], o3.sl.mono fun k hk => ⟨hk.1.elim (fun h => h.1.imp id fun h => .inl h) (fun h => .inr (.inr (⟨h, hk.2⟩))), hk.2⟩⟩) ?_
  refine And.intro (fun vs Rs w2 x hh hR_ h1 h2 => flCall (A_d h1 h2) hh fun v w3 _ q => q) ?_
  refine And.intro (fun vs Rs w2 x hh hR_  => flCall (V_d 2 (by simp [i64ok])) hh fun v w3 _ q => q) ?_
  refine And.intro (fun vs Rs w2 x hh hR_  => flCall (V_d 1 (by simp [i64ok])) hh fun v w3 _ q => q) ?_
  refine And.intro (fun vs Rs w2 x hh hR_  => flCall (V_d 0 (by simp [i64ok])) hh fun v w3 _ q => q) ?_
  refine And.intro (fun vs Rs w2 x hh hR_  => flCall (U_d) hh fun v w3 _ q => q) ?_
  refine And.intro (fun vs Rs w2 x hh hR_ h1 => by
    obtain ⟨e1, k1_⟩ := h1
    refine OpT.buildE (E := encL) (R := rdS (fun k => w.heap.size ≤ k ∧ k < w30.heap.size) (fun k => Rs 12 k) w2) (vs := [vs 12]) (css := [levU.cells]) (l := [levU]) Tryz.zeroValue63 (.cons rfl (.nil)) Tryz.underlying30 Tryz.sizeOf63 rfl (by simp [e1, Value.cells]) (Reps.cons ⟨rfl, k1_⟩ (Reps.nil _ _ _)) rfl rfl hh fun w3 g e x3 z3 o3 hh3 => ?_
    exact ⟨x3, _, _, rfl, by simp [lenOk], o3.sl.mono fun k hk => ⟨hk.1.elim (fun h => h.1.imp id fun h => .inl h) (fun h => .inr (.inr (⟨h, hk.2⟩))), hk.2⟩⟩) ?_
  refine And.intro (fun vs Rs w2 x hh hR_ h1 => flCall (Co_d sList__rec (by decide) h1) hh fun v w3 _ q => q) ?_
  refine And.intro (fun vs Rs w2 x hh hR_  => flCall (V_d 5 (by simp [i64ok])) hh fun v w3 _ q => q) ?_
  refine And.intro (fun vs Rs w2 x hh hR_  => flCall (V_d 4 (by simp [i64ok])) hh fun v w3 _ q => q) ?_
  refine And.intro (fun vs Rs w2 x hh hR_  => flCall (V_d 3 (by simp [i64ok])) hh fun v w3 _ q => q) ?_
  refine And.intro (fun vs Rs w2 x hh hR_  => flCall (V_d 2 (by simp [i64ok])) hh fun v w3 _ q => q) ?_
  refine And.intro (fun vs Rs w2 x hh hR_  => flCall (V_d 0 (by simp [i64ok])) hh fun v w3 _ q => q) ?_
  refine And.intro (fun vs Rs w2 x hh hR_ h1 h2 h3 h4 h5 => by
    obtain ⟨c1, e1, k1_⟩ := h1
    obtain ⟨c2, e2, k2_⟩ := h2
    obtain ⟨c3, e3, k3_⟩ := h3
    obtain ⟨c4, e4, k4_⟩ := h4
    obtain ⟨c5, e5, k5_⟩ := h5
    refine OpT.buildE (E := encT) (R := rdS (fun k => w.heap.size ≤ k ∧ k < w30.heap.size) (fun k => Rs 15 k ∨ (Rs 16 k ∨ (Rs 17 k ∨ (Rs 18 k ∨ (Rs 19 k))))) w2) (vs := [vs 15, vs 16, vs 17, vs 18, vs 19]) (css := [c1, c2, c3, c4, c5]) (l := [(tV 5), (tV 4), (tV 3), (tV 2), (tV 0)]) Tryz.zeroValue33 (.cons rfl (.cons rfl (.cons rfl (.cons rfl (.cons rfl (.nil)))))) Tryz.underlying31 Tryz.sizeOf33 rfl (by simp [e1, e2, e3, e4, e5, Value.cells]) (Reps.cons (VT.mono k1_ fun k hk => ⟨hk.1.imp id fun h => .inl h, hk.2⟩) (Reps.cons (VT.mono k2_ fun k hk => ⟨hk.1.imp id fun h => .inr (.inl h), hk.2⟩) (Reps.cons (VT.mono k3_ fun k hk => ⟨hk.1.imp id fun h => .inr (.inr (.inl h)), hk.2⟩) (Reps.cons (VT.mono k4_ fun k hk => ⟨hk.1.imp id fun h => .inr (.inr (.inr (.inl h))), hk.2⟩) (Reps.cons (VT.mono k5_ fun k hk => ⟨hk.1.imp id fun h => .inr (.inr (.inr (.inr (h)))), hk.2⟩) (Reps.nil _ _ _)))))) rfl rfl hh fun w3 g e x3 z3 o3 hh3 => ?_
    exact ⟨x3, _, _, rfl, by simp [lenOk], o3.sl.mono fun k hk => ⟨hk.1.elim (fun h => h.1.imp id fun h => h.elim .inl fun h => .inr (h.elim .inl fun h => .inr (h.elim .inl fun h => .inr (h.elim .inl fun h => .inr (.inl h))))) (fun h => .inr (.inr (.inr (.inr (.inr (.inr (⟨h, hk.2⟩))))))), hk.2⟩⟩) ?_
  refine And.intro (fun vs Rs w2 x hh hR_ h1 h2 => flCall (A_d h1 h2) hh fun v w3 _ q => q) ?_
  refine And.intro (fun vs Rs w2 x hh hR_ h1 h2 h3 => by
    obtain ⟨c1, e1, k1_⟩ := h1
    obtain ⟨c2, e2, k2_⟩ := h2
    obtain ⟨c3, e3, k3_⟩ := h3
    refine OpT.buildE (E := encT) (R := rdS (fun k => w.heap.size ≤ k ∧ k < w30.heap.size) (fun k => Rs 10 k ∨ (Rs 11 k ∨ (Rs 21 k))) w2) (vs := [vs 10, vs 11, vs 21]) (css := [c1, c2, c3]) (l := [(tV 1), (tV 0), (apT (tCo sList__rec [levU]) [(tV 5), (tV 4), (tV 3), (tV 2), (tV 0)])]) Tryz.zeroValue33 (.cons rfl (.cons rfl (.cons rfl (.nil)))) Tryz.underlying31 Tryz.sizeOf33 rfl (by simp [e1, e2, e3, Value.cells]) (Reps.cons (VT.mono k1_ fun k hk => ⟨hk.1.imp id fun h => .inl h, hk.2⟩) (Reps.cons (VT.mono k2_ fun k hk => ⟨hk.1.imp id fun h => .inr (.inl h), hk.2⟩) (Reps.cons (VT.mono k3_ fun k hk => ⟨hk.1.imp id fun h => .inr (.inr (h)), hk.2⟩) (Reps.nil _ _ _)))) rfl rfl hh fun w3 g e x3 z3 o3 hh3 => ?_
    exact ⟨x3, _, _, rfl, by simp [lenOk], o3.sl.mono fun k hk => ⟨hk.1.elim (fun h => h.1.imp id fun h => h.elim .inl fun h => .inr (h.elim .inl fun h => .inr (.inl h))) (fun h => .inr (.inr (.inr (.inr (⟨h, hk.2⟩))))), hk.2⟩⟩) ?_
  refine And.intro (fun vs Rs w2 x hh hR_ h1 h2 => flCall (A_d h1 h2) hh fun v w3 _ q => q) ?_
  refine And.intro (fun vs Rs w2 x hh hR_ h1 h2 => flCall (L_d h1 h2) hh fun v w3 _ q => q) ?_
  refine And.intro (fun vs Rs w2 x hh hR_ h1 h2 => flCall (L_d h1 h2) hh fun v w3 _ q => q) ?_
  refine And.intro (fun vs Rs w2 x hh hR_ h1 h2 => flCall (L_d h1 h2) hh fun v w3 _ q => q) ?_
  refine And.intro (fun vs Rs w2 x hh hR_ h1 h2 => flCall (L_d h1 h2) hh fun v w3 _ q => q) ?_
  refine And.intro (fun vs Rs w2 x hh hR_ h1 h2 => flCall (L_d h1 h2) hh fun v w3 _ q => q) ?_
  refine And.intro (fun vs Rs w2 x hh hR_ h1 h2 => flCall (L_d h1 h2) hh fun v w3 _ q => q) ?_
  refine And.intro (fun vs Rs w2 x hh hR_ => by
    intro g w3 e x3 z3 hh3
    exact ⟨x3, g, rfl, ⟨by omega, by omega⟩, hh3.box 8 _ rfl⟩) ?_
  intro vs Os w32 x32 hh32 hp hO hd
  have q32 := x32.size
  have hs32 : (DV.T (tLm tY (tLm lis_4 (tLm lis_5 (tLm lis_6 (tLm (tV 3) (tLm (apT lis_1 [(tV 4)]) (apT (tV 2) [(tV 1), (tV 0), (apT (tCo sList__rec [levU]) [(tV 5), (tV 4), (tV 3), (tV 2), (tV 0)])])))))))).rep _ _ _ _ := hp 29 (by omega)
  have hA32 : DV.A.rep _ _ _ _ := hp 30 (by omega)
  obtain ⟨cs32, es32, h32⟩ := hs32
  obtain ⟨g32, eg32, hg32, bg32⟩ := hA32
  replace hg32 := flCum_own (by rfl) hg32
  have gO32 := hO _ _ hg32
  have h32x := h32
  obtain ⟨ks32, ns32, ss32, lss32, tss32, las32, lcs32, tas32, tcs32, e32, rfl, hks32, hns32, hss32, hlls32, hlts32, hLs32, hTs32⟩ := h32.inv
  refine Exists.intro [g32] (Exists.intro _ (Exists.intro [.v (vs 0), .v (vs 1), .v (vs 2), .v (vs 3), .v (vs 4), .v (vs 5), .v (vs 6), .v (vs 7), .v (vs 8), .v (vs 9), .v (vs 10), .v (vs 11), .v (vs 12), .v (vs 13), .v (vs 14), .v (vs 15), .v (vs 16), .v (vs 17), .v (vs 18), .v (vs 19), .v (vs 20), .v (vs 21), .v (vs 22), .v (vs 23), .v (vs 24), .v (vs 25), .v (vs 26), .v (vs 27), .v (vs 28), .a [.v (.int .u8 ks32), .v (.int .i64 ns32), .v (.string ss32), .v (.slice las32 lss32.length lcs32), .v (.slice tas32 tss32.length tcs32)], .p 8 0] ⟨Holds.add hh32 (c := [.v (.int .u8 0), .v (.int .i64 0), .v (.string noS), .v (.slice none 0 0), .v (.slice none 0 0)]) (fun i hi he => by have := hh31.lt i hi; omega) gO32.2 bg32 rfl, rfl, by rw [show (List.range 31).map vs = [vs 0, vs 1, vs 2, vs 3, vs 4, vs 5, vs 6, vs 7, vs 8, vs 9, vs 10, vs 11, vs 12, vs 13, vs 14, vs 15, vs 16, vs 17, vs 18, vs 19, vs 20, vs 21, vs 22, vs 23, vs 24, vs 25, vs 26, vs 27, vs 28, vs 29, vs 30] from rfl, eg32, es32]; rfl, ?_⟩))
  intro w33 m33 z33 hh33
  replace m33 : Upd g32 w32 w33 := m33
  have x33 : Ext w31 w33 := x32.upd m33 (by omega)
  have y33 : Ext w w33 := y31.trans x33
  replace k6 := VX.ext k6 x33
  replace k9 := VX.ext k9 x33
  replace k27 := VX.ext k27 x33
  replace k30 := VX.ext k30 x33
  have k33 : VX w.heap.size w33 _ lis_9 := flStored h32x m33 (flCum_no (s := 29) (A := 30) (by decide) (by rfl) hd hg32) (fun hb => by have := hb.2; omega) (fun k hk => hk.1) (fun k hk => by have := y31.size; obtain ⟨q, _, hq⟩ := hk; have := (hO q k hq).1; omega)
  have kk6 := k6
  have kk9 := k9
  have kk27 := k27
  have kk30 := k30
  have kk33 := k33
  refine vFlow_mk 16 (fun k => w.heap.size ≤ k ∧ k < w33.heap.size) [.T tY, .T tY, .T (tPi tY tY), .IN lisI0, .T lis_2, .IN lisI1, .T lis_3, .IN lisI2, .T lis_7, .T lis_8, .RU ⟨sList__nil, 0, lis_8⟩, .T lis_9, .RU ⟨sList__cons, 2, lis_9⟩, .SR [⟨sList__nil, 0, lis_8⟩, ⟨sList__cons, 2, lis_9⟩], .IN lisI3, .SI w.heap.size lisL] rfl fun w34 x34 z34 hh34 => ?_
  have y34 : Ext w w34 := y33.trans x34
  refine And.intro (fun vs Rs w2 x hh hR_  => flCall (Type0_d) hh fun v w3 _ q => q) ?_
  refine And.intro (fun vs Rs w2 x hh hR_  => flCall (Type0_d) hh fun v w3 _ q => q) ?_
  refine And.intro (fun vs Rs w2 x hh hR_ h1 h2 => flCall (P_d h1 h2) hh fun v w3 _ q => q) ?_
  refine And.intro (fun vs Rs w2 x hh hR_ h1 => by
    obtain ⟨c1, e1, k1_⟩ := h1
    have k1x := k1_
    obtain ⟨kt1, nt1, st1, lst1, tst1, lat1, lct1, tat1, tct1, q1_, rfl, hkt1, hnt1, hst1, hllt1, hltt1, hLt1, hTt1⟩ := k1_.inv
    obtain ⟨vs', rfl⟩ := fl_at e1
    exact ⟨Ext.refl _, _, rfl, _, _, _, _, rfl, k1x.mono fun k hk => ⟨hk.1.imp id fun h => .inl h, hk.2⟩, tZ_rep _ _, Sl.nil _ _ _ _, by simp [lenOk, lisI0], lisI0_ok⟩) ?_
  refine And.intro (fun vs Rs w2 x hh hR_ => ⟨Ext.refl _, flLoad kk6 (x34.trans x)⟩) ?_
  refine And.intro (fun vs Rs w2 x hh hR_ h1 => by
    obtain ⟨c1, e1, k1_⟩ := h1
    have k1x := k1_
    obtain ⟨kt1, nt1, st1, lst1, tst1, lat1, lct1, tat1, tct1, q1_, rfl, hkt1, hnt1, hst1, hllt1, hltt1, hLt1, hTt1⟩ := k1_.inv
    obtain ⟨vs', rfl⟩ := fl_at e1
    exact ⟨Ext.refl _, _, rfl, _, _, _, _, rfl, k1x.mono fun k hk => ⟨hk.1.imp id fun h => .inl h, hk.2⟩, tZ_rep _ _, Sl.nil _ _ _ _, by simp [lenOk, lisI1], lisI1_ok⟩) ?_
  refine And.intro (fun vs Rs w2 x hh hR_ => ⟨Ext.refl _, flLoad kk9 (x34.trans x)⟩) ?_
  refine And.intro (fun vs Rs w2 x hh hR_ h1 => by
    obtain ⟨c1, e1, k1_⟩ := h1
    have k1x := k1_
    obtain ⟨kt1, nt1, st1, lst1, tst1, lat1, lct1, tat1, tct1, q1_, rfl, hkt1, hnt1, hst1, hllt1, hltt1, hLt1, hTt1⟩ := k1_.inv
    obtain ⟨vs', rfl⟩ := fl_at e1
    exact ⟨Ext.refl _, _, rfl, _, _, _, _, rfl, k1x.mono fun k hk => ⟨hk.1.imp id fun h => .inl h, hk.2⟩, tZ_rep _ _, Sl.nil _ _ _ _, by simp [lenOk, lisI2], lisI2_ok⟩) ?_
  refine And.intro (fun vs Rs w2 x hh hR_ => ⟨Ext.refl _, flLoad kk27 (x34.trans x)⟩) ?_
  refine And.intro (fun vs Rs w2 x hh hR_ => ⟨Ext.refl _, flLoad kk30 (x34.trans x)⟩) ?_
  refine And.intro (fun vs Rs w2 x hh hR_ h1 => by
    obtain ⟨c1, e1, k1_⟩ := h1
    have k1x := k1_
    obtain ⟨kt1, nt1, st1, lst1, tst1, lat1, lct1, tat1, tct1, q1_, rfl, hkt1, hnt1, hst1, hllt1, hltt1, hLt1, hTt1⟩ := k1_.inv
    obtain ⟨vs', rfl⟩ := fl_at e1
    exact ⟨Ext.refl _, _, rfl, _, rfl, k1x.mono fun k hk => ⟨hk.1.imp id fun h => .inl h, hk.2⟩, by simp [i64ok], by decide⟩) ?_
  refine And.intro (fun vs Rs w2 x hh hR_ => ⟨Ext.refl _, flLoad kk33 (x34.trans x)⟩) ?_
  refine And.intro (fun vs Rs w2 x hh hR_ h1 => by
    obtain ⟨c1, e1, k1_⟩ := h1
    have k1x := k1_
    obtain ⟨kt1, nt1, st1, lst1, tst1, lat1, lct1, tat1, tct1, q1_, rfl, hkt1, hnt1, hst1, hllt1, hltt1, hLt1, hTt1⟩ := k1_.inv
    obtain ⟨vs', rfl⟩ := fl_at e1
    exact ⟨Ext.refl _, _, rfl, _, rfl, k1x.mono fun k hk => ⟨hk.1.imp id fun h => .inl h, hk.2⟩, by simp [i64ok], by decide⟩) ?_
  refine And.intro (fun vs Rs w2 x hh hR_ h1 h2 => by
    obtain ⟨c1, e1, k1_⟩ := h1
    obtain ⟨c2, e2, k2_⟩ := h2
    refine OpT.buildE (E := encR) (R := rdS (fun k => w.heap.size ≤ k ∧ k < w33.heap.size) (fun k => Rs 10 k ∨ (Rs 12 k)) w2) (vs := [vs 10, vs 12]) (css := [c1, c2]) (l := [⟨sList__nil, 0, lis_8⟩, ⟨sList__cons, 2, lis_9⟩]) Tryz.zeroValue84 (.cons rfl (.cons rfl (.nil))) Tryz.underlying34 Tryz.sizeOf84 rfl (by simp [e1, e2, Value.cells]) (Reps.cons (encR.mono k1_ fun k hk => ⟨hk.1.imp id fun h => .inl h, hk.2⟩) (Reps.cons (encR.mono k2_ fun k hk => ⟨hk.1.imp id fun h => .inr (h), hk.2⟩) (Reps.nil _ _ _))) rfl rfl hh fun w3 g e x3 z3 o3 hh3 => ?_
    exact ⟨x3, _, _, rfl, by simp [lenOk], o3.sl.mono fun k hk => ⟨hk.1.elim (fun h => h.1.imp id fun h => h.elim .inl fun h => .inr (.inl h)) (fun h => .inr (.inr (.inr (⟨h, hk.2⟩)))), hk.2⟩⟩) ?_
  refine And.intro (fun vs Rs w2 x hh hR_ h1 h2 => by
    obtain ⟨c1, e1, k1_⟩ := h1
    have k1x := k1_
    obtain ⟨kt1, nt1, st1, lst1, tst1, lat1, lct1, tat1, tct1, q1_, rfl, hkt1, hnt1, hst1, hllt1, hltt1, hLt1, hTt1⟩ := k1_.inv
    obtain ⟨A2_, c2, e2, n2_, k2_⟩ := h2
    obtain ⟨vs', rfl⟩ := fl_at2 e1 e2
    exact ⟨Ext.refl _, _, rfl, _, _, _, _, rfl, k1x.mono fun k hk => ⟨hk.1.imp id fun h => .inl h, hk.2⟩, tZ_rep _ _, k2_.mono fun k hk => ⟨hk.1.imp id fun h => .inr (.inl h), hk.2⟩, n2_, lisI3_ok⟩) ?_
  refine And.intro (fun vs Rs w2 x hh hR_ h1 h2 h3 h4 => by
    obtain ⟨c1, e1, k1_⟩ := h1
    obtain ⟨c2, e2, k2_⟩ := h2
    obtain ⟨c3, e3, k3_⟩ := h3
    obtain ⟨c4, e4, k4_⟩ := h4
    refine OpT.buildE (E := encInf) (R := rdS (fun k => w.heap.size ≤ k ∧ k < w33.heap.size) (fun k => Rs 3 k ∨ (Rs 5 k ∨ (Rs 7 k ∨ (Rs 14 k)))) w2) (vs := [vs 3, vs 5, vs 7, vs 14]) (css := [c1, c2, c3, c4]) (l := [lisI0, lisI1, lisI2, lisI3]) Tryz.zeroValue36 (.cons rfl (.cons rfl (.cons rfl (.cons rfl (.nil))))) Tryz.underlying22 Tryz.sizeOf36 rfl (by simp [e1, e2, e3, e4, Value.cells]) (Reps.cons (encInf.mono k1_ fun k hk => ⟨hk.1.imp id fun h => .inl h, hk.2⟩) (Reps.cons (encInf.mono k2_ fun k hk => ⟨hk.1.imp id fun h => .inr (.inl h), hk.2⟩) (Reps.cons (encInf.mono k3_ fun k hk => ⟨hk.1.imp id fun h => .inr (.inr (.inl h)), hk.2⟩) (Reps.cons (encInf.mono k4_ fun k hk => ⟨hk.1.imp id fun h => .inr (.inr (.inr (h))), hk.2⟩) (Reps.nil _ _ _))))) rfl rfl hh fun w3 g e x3 z3 o3 hh3 => ?_
    exact ⟨x3, _, _, rfl, (y34.trans x).size, o3.mono fun k hk => ⟨hk.1.imp id fun h => h.elim .inl fun h => .inr (h.elim .inl fun h => .inr (h.elim .inl fun h => .inr (.inl h))), hk.2⟩⟩) ?_
  intro vs Os w35 x35 hh35 hp hO hd
  have q35 := x35.size
  obtain ⟨A35, lo35, es35, hlo35, ho35⟩ : (DV.SI w.heap.size lisL).rep _ _ _ _ := hp 15 (by omega)
  refine Exists.intro [] (Exists.intro _ (Exists.intro [.v (vs 0), .v (vs 1), .v (vs 2), .v (vs 3), .v (vs 4), .v (vs 5), .v (vs 6), .v (vs 7), .v (vs 8), .v (vs 9), .v (vs 10), .v (vs 11), .v (vs 12), .v (vs 13), .v (vs 14), .v (vs 15)] ⟨hh35, rfl, rfl, ?_⟩))
  have y35 : Ext w w35 := y34.trans x35
  exact ⟨y35, A35, _, es35, lo35, hlo35, ho35.mono fun k hk => ⟨hk.1.elim (fun h => h.1) fun ⟨q, _, hq⟩ => by have := (hO q k hq).1; have := y34.size; omega, hk.2⟩⟩
end Go.Proofs.YtfljbnhhkdaobaaGreat

/-
  The sample: what is made of them.
-/
namespace Go.Proofs.YtfljbnhhkdaobaaGreat
open Go Go.RowKit Go.Proofs.Bw
set_option linter.unusedVariables false
set_option linter.unusedSimpArgs false
set_option maxHeartbeats 4000000 in
set_option maxRecDepth 20000 in
theorem made_8 (w : World) : Runs Tryz.prog 83 #[] w fun v w' => Ext w w' ∧ ∃ (A : Option Addr) (c : Nat), v = .slice A madL.length c ∧ ∃ lo, w.heap.size ≤ lo ∧ OwnE encInf w' lo 36 (fun k => w.heap.size ≤ k ∧ k < lo) A c madL := by
  refine Runs.of_vc cx_ok [0, 1, 2, 3, 4] [] Tryz.func83 rfl rfl rfl (Holds.nil _) ?_
  have y0 : Ext w w := Ext.refl w
  have hh0 := Holds.nil w
  refine (N_runs w y0.size).mono ?_
  rintro _ w1 ⟨x1, cs1, rfl, h1⟩
  have hh1 := hh0.ext x1
  have z1 := x1.size
  have k1 : VX w.heap.size w1 _ tN := h1
  obtain ⟨ks1, ns1, ss1, lss1, tss1, las1, lcs1, tas1, tcs1, e1, rfl, hks1, hns1, hss1, hlls1, hlts1, hLs1, hTs1⟩ := h1.inv
  refine Lands.ret (s := .a [.v (.int .u8 ks1), .v (.int .i64 ns1), .v (.string ss1), .v (.slice las1 lss1.length lcs1), .v (.slice tas1 tss1.length tcs1)]) rfl rfl hh1 ?_
  have y1 : Ext w w1 := y0.trans x1
  refine (N_runs w1 y1.size).mono ?_
  rintro _ w2 ⟨x2, cs2, rfl, h2⟩
  have hh2 := hh1.ext x2
  have z2 := x2.size
  have k2 : VX w.heap.size w2 _ tN := h2
  obtain ⟨ks2, ns2, ss2, lss2, tss2, las2, lcs2, tas2, tcs2, e2, rfl, hks2, hns2, hss2, hlls2, hlts2, hLs2, hTs2⟩ := h2.inv
  refine Lands.ret (s := .a [.v (.int .u8 ks2), .v (.int .i64 ns2), .v (.string ss2), .v (.slice las2 lss2.length lcs2), .v (.slice tas2 tss2.length tcs2)]) rfl rfl hh2 ?_
  have y2 : Ext w w2 := y1.trans x2
  replace k1 := VX.ext k1 x2
  refine (Lev_runs 0 w2).mono ?_
  rintro _ w3 ⟨rfl, x3⟩
  have hh3 := hh2.ext x3
  have z3 := x3.size
  refine Lands.ret (s := .a [.v (.int .i64 (levN 0).c), .v (.int .i64 (levN 0).p0), .v (.int .i64 (levN 0).p1), .v (.int .i64 (levN 0).p2), .v (.int .i64 (levN 0).p3)]) rfl rfl hh3 ?_
  have y3 : Ext w w3 := y2.trans x3
  replace k1 := VX.ext k1 x3
  replace k2 := VX.ext k2 x3
  refine OpT.buildE (E := encL) (R := (fun _ => False)) (vs := [_]) (l := [(levN 0)]) Tryz.zeroValue63 (.cons rfl (.nil)) Tryz.underlying30 Tryz.sizeOf63 rfl rfl (Reps.cons (⟨rfl, (levN_wf (by simp [i64ok]))⟩) (Reps.nil _ _ _)) rfl rfl hh3 fun w4 g4 e4 x4 z4 o4 hh4 => ?_
  have y4 : Ext w w4 := y3.trans x4
  replace k1 := VX.ext k1 x4
  replace k2 := VX.ext k2 x4
  refine (Co_runs w4 y4.size (R := _) sN__rec (by decide) _ [(levN 0)] 1 (by simp [lenOk]) (fun k hk => by rcases hk.1 with h | h; exact h.elim; have := y3.size; omega) o4.sl).mono ?_
  rintro _ w5 ⟨x5, cs5, rfl, h5⟩
  have hh5 := hh4.ext x5
  have z5 := x5.size
  have k5 : VX w.heap.size w5 _ (tCo sN__rec [(levN 0)]) := h5
  obtain ⟨ks5, ns5, ss5, lss5, tss5, las5, lcs5, tas5, tcs5, e5, rfl, hks5, hns5, hss5, hlls5, hlts5, hLs5, hTs5⟩ := h5.inv
  refine Lands.ret (s := .a [.v (.int .u8 ks5), .v (.int .i64 ns5), .v (.string ss5), .v (.slice las5 lss5.length lcs5), .v (.slice tas5 tss5.length tcs5)]) rfl rfl hh5 ?_
  have y5 : Ext w w5 := y4.trans x5
  replace k1 := VX.ext k1 x5
  replace k2 := VX.ext k2 x5
  refine (N_runs w5 y5.size).mono ?_
  rintro _ w6 ⟨x6, cs6, rfl, h6⟩
  have hh6 := hh5.ext x6
  have z6 := x6.size
  have k6 : VX w.heap.size w6 _ tN := h6
  obtain ⟨ks6, ns6, ss6, lss6, tss6, las6, lcs6, tas6, tcs6, e6, rfl, hks6, hns6, hss6, hlls6, hlts6, hLs6, hTs6⟩ := h6.inv
  refine Lands.ret (s := .a [.v (.int .u8 ks6), .v (.int .i64 ns6), .v (.string ss6), .v (.slice las6 lss6.length lcs6), .v (.slice tas6 tss6.length tcs6)]) rfl rfl hh6 ?_
  have y6 : Ext w w6 := y5.trans x6
  replace k1 := VX.ext k1 x6
  replace k2 := VX.ext k2 x6
  replace k5 := VX.ext k5 x6
  refine (N_runs w6 y6.size).mono ?_
  rintro _ w7 ⟨x7, cs7, rfl, h7⟩
  have hh7 := hh6.ext x7
  have z7 := x7.size
  have k7 : VX w.heap.size w7 _ tN := h7
  obtain ⟨ks7, ns7, ss7, lss7, tss7, las7, lcs7, tas7, tcs7, e7, rfl, hks7, hns7, hss7, hlls7, hlts7, hLs7, hTs7⟩ := h7.inv
  refine Lands.ret (s := .a [.v (.int .u8 ks7), .v (.int .i64 ns7), .v (.string ss7), .v (.slice las7 lss7.length lcs7), .v (.slice tas7 tss7.length tcs7)]) rfl rfl hh7 ?_
  have y7 : Ext w w7 := y6.trans x7
  replace k1 := VX.ext k1 x7
  replace k2 := VX.ext k2 x7
  replace k5 := VX.ext k5 x7
  replace k6 := VX.ext k6 x7
  refine (L_runs8 w7 y7.size tN tN _ _ k6 k7).mono ?_
  rintro _ w8 ⟨x8, cs8, rfl, h8⟩
  have hh8 := hh7.ext x8
  have z8 := x8.size
  have k8 : VX w.heap.size w8 _ (tLm tN tN) := h8
  obtain ⟨ks8, ns8, ss8, lss8, tss8, las8, lcs8, tas8, tcs8, e8, rfl, hks8, hns8, hss8, hlls8, hlts8, hLs8, hTs8⟩ := h8.inv
  refine Lands.ret (s := .a [.v (.int .u8 ks8), .v (.int .i64 ns8), .v (.string ss8), .v (.slice las8 lss8.length lcs8), .v (.slice tas8 tss8.length tcs8)]) rfl rfl hh8 ?_
  have y8 : Ext w w8 := y7.trans x8
  replace k1 := VX.ext k1 x8
  replace k2 := VX.ext k2 x8
  replace k5 := VX.ext k5 x8
  refine (V_runs8 w8 y8.size 1 (by simp [i64ok])).mono ?_
  rintro _ w9 ⟨x9, cs9, rfl, h9⟩
  have hh9 := hh8.ext x9
  have z9 := x9.size
  have k9 : VX w.heap.size w9 _ (tV 1) := h9
  obtain ⟨ks9, ns9, ss9, lss9, tss9, las9, lcs9, tas9, tcs9, e9, rfl, hks9, hns9, hss9, hlls9, hlts9, hLs9, hTs9⟩ := h9.inv
  refine Lands.ret (s := .a [.v (.int .u8 ks9), .v (.int .i64 ns9), .v (.string ss9), .v (.slice las9 lss9.length lcs9), .v (.slice tas9 tss9.length tcs9)]) rfl rfl hh9 ?_
  have y9 : Ext w w9 := y8.trans x9
  replace k1 := VX.ext k1 x9
  replace k2 := VX.ext k2 x9
  replace k5 := VX.ext k5 x9
  replace k8 := VX.ext k8 x9
  refine (N_runs w9 y9.size).mono ?_
  rintro _ w10 ⟨x10, cs10, rfl, h10⟩
  have hh10 := hh9.ext x10
  have z10 := x10.size
  have k10 : VX w.heap.size w10 _ tN := h10
  obtain ⟨ks10, ns10, ss10, lss10, tss10, las10, lcs10, tas10, tcs10, e10, rfl, hks10, hns10, hss10, hlls10, hlts10, hLs10, hTs10⟩ := h10.inv
  refine Lands.ret (s := .a [.v (.int .u8 ks10), .v (.int .i64 ns10), .v (.string ss10), .v (.slice las10 lss10.length lcs10), .v (.slice tas10 tss10.length tcs10)]) rfl rfl hh10 ?_
  have y10 : Ext w w10 := y9.trans x10
  replace k1 := VX.ext k1 x10
  replace k2 := VX.ext k2 x10
  replace k5 := VX.ext k5 x10
  replace k8 := VX.ext k8 x10
  replace k9 := VX.ext k9 x10
  refine (N_runs w10 y10.size).mono ?_
  rintro _ w11 ⟨x11, cs11, rfl, h11⟩
  have hh11 := hh10.ext x11
  have z11 := x11.size
  have k11 : VX w.heap.size w11 _ tN := h11
  obtain ⟨ks11, ns11, ss11, lss11, tss11, las11, lcs11, tas11, tcs11, e11, rfl, hks11, hns11, hss11, hlls11, hlts11, hLs11, hTs11⟩ := h11.inv
  refine Lands.ret (s := .a [.v (.int .u8 ks11), .v (.int .i64 ns11), .v (.string ss11), .v (.slice las11 lss11.length lcs11), .v (.slice tas11 tss11.length tcs11)]) rfl rfl hh11 ?_
  have y11 : Ext w w11 := y10.trans x11
  replace k1 := VX.ext k1 x11
  replace k2 := VX.ext k2 x11
  replace k5 := VX.ext k5 x11
  replace k8 := VX.ext k8 x11
  replace k9 := VX.ext k9 x11
  replace k10 := VX.ext k10 x11
  refine (Co0_runs w11 y11.size sN__succ (by decide)).mono ?_
  rintro _ w12 ⟨x12, cs12, rfl, h12⟩
  have hh12 := hh11.ext x12
  have z12 := x12.size
  have k12 : VX w.heap.size w12 _ (tCo sN__succ []) := h12
  obtain ⟨ks12, ns12, ss12, lss12, tss12, las12, lcs12, tas12, tcs12, e12, rfl, hks12, hns12, hss12, hlls12, hlts12, hLs12, hTs12⟩ := h12.inv
  refine Lands.ret (s := .a [.v (.int .u8 ks12), .v (.int .i64 ns12), .v (.string ss12), .v (.slice las12 lss12.length lcs12), .v (.slice tas12 tss12.length tcs12)]) rfl rfl hh12 ?_
  have y12 : Ext w w12 := y11.trans x12
  replace k1 := VX.ext k1 x12
  replace k2 := VX.ext k2 x12
  replace k5 := VX.ext k5 x12
  replace k8 := VX.ext k8 x12
  replace k9 := VX.ext k9 x12
  replace k10 := VX.ext k10 x12
  replace k11 := VX.ext k11 x12
  refine (V_runs8 w12 y12.size 0 (by simp [i64ok])).mono ?_
  rintro _ w13 ⟨x13, cs13, rfl, h13⟩
  have hh13 := hh12.ext x13
  have z13 := x13.size
  have k13 : VX w.heap.size w13 _ (tV 0) := h13
  obtain ⟨ks13, ns13, ss13, lss13, tss13, las13, lcs13, tas13, tcs13, e13, rfl, hks13, hns13, hss13, hlls13, hlts13, hLs13, hTs13⟩ := h13.inv
  refine Lands.ret (s := .a [.v (.int .u8 ks13), .v (.int .i64 ns13), .v (.string ss13), .v (.slice las13 lss13.length lcs13), .v (.slice tas13 tss13.length tcs13)]) rfl rfl hh13 ?_
  have y13 : Ext w w13 := y12.trans x13
  replace k1 := VX.ext k1 x13
  replace k2 := VX.ext k2 x13
  replace k5 := VX.ext k5 x13
  replace k8 := VX.ext k8 x13
  replace k9 := VX.ext k9 x13
  replace k10 := VX.ext k10 x13
  replace k11 := VX.ext k11 x13
  replace k12 := VX.ext k12 x13
  refine OpT.buildE (E := encT) (R := (fun k => w.heap.size ≤ k ∧ k < w13.heap.size)) (vs := [_]) (l := [(tV 0)]) Tryz.zeroValue33 (.cons rfl (.nil)) Tryz.underlying31 Tryz.sizeOf33 rfl rfl (Reps.cons k13 (Reps.nil _ _ _)) rfl rfl hh13 fun w14 g14 e14 x14 z14 o14 hh14 => ?_
  have y14 : Ext w w14 := y13.trans x14
  replace k1 := VX.ext k1 x14
  replace k2 := VX.ext k2 x14
  replace k5 := VX.ext k5 x14
  replace k8 := VX.ext k8 x14
  replace k9 := VX.ext k9 x14
  replace k10 := VX.ext k10 x14
  replace k11 := VX.ext k11 x14
  replace k12 := VX.ext k12 x14
  refine (A_runs w14 y14.size (R := _) (tCo sN__succ []) _ _ [(tV 0)] 1 k12 (fun k hk => by rcases hk.1 with h | h; exact h.1; have := y13.size; omega) o14.sl (by simp [lenOk])).mono ?_
  rintro _ w15 ⟨x15, cs15, rfl, h15⟩
  have hh15 := hh14.ext x15
  have z15 := x15.size
  have k15 : VX w.heap.size w15 _ (apT (tCo sN__succ []) [(tV 0)]) := h15
  obtain ⟨ks15, ns15, ss15, lss15, tss15, las15, lcs15, tas15, tcs15, e15, rfl, hks15, hns15, hss15, hlls15, hlts15, hLs15, hTs15⟩ := h15.inv
  refine Lands.ret (s := .a [.v (.int .u8 ks15), .v (.int .i64 ns15), .v (.string ss15), .v (.slice las15 lss15.length lcs15), .v (.slice tas15 tss15.length tcs15)]) rfl rfl hh15 ?_
  have y15 : Ext w w15 := y14.trans x15
  replace k1 := VX.ext k1 x15
  replace k2 := VX.ext k2 x15
  replace k5 := VX.ext k5 x15
  replace k8 := VX.ext k8 x15
  replace k9 := VX.ext k9 x15
  replace k10 := VX.ext k10 x15
  replace k11 := VX.ext k11 x15
  refine (L_runs8 w15 y15.size tN (apT (tCo sN__succ []) [(tV 0)]) _ _ k11 k15).mono ?_
  rintro _ w16 ⟨x16, cs16, rfl, h16⟩
  have hh16 := hh15.ext x16
  have z16 := x16.size
  have k16 : VX w.heap.size w16 _ (tLm tN (apT (tCo sN__succ []) [(tV 0)])) := h16
  obtain ⟨ks16, ns16, ss16, lss16, tss16, las16, lcs16, tas16, tcs16, e16, rfl, hks16, hns16, hss16, hlls16, hlts16, hLs16, hTs16⟩ := h16.inv
  refine Lands.ret (s := .a [.v (.int .u8 ks16), .v (.int .i64 ns16), .v (.string ss16), .v (.slice las16 lss16.length lcs16), .v (.slice tas16 tss16.length tcs16)]) rfl rfl hh16 ?_
  have y16 : Ext w w16 := y15.trans x16
  replace k1 := VX.ext k1 x16
  replace k2 := VX.ext k2 x16
  replace k5 := VX.ext k5 x16
  replace k8 := VX.ext k8 x16
  replace k9 := VX.ext k9 x16
  replace k10 := VX.ext k10 x16
  refine (L_runs8 w16 y16.size tN (tLm tN (apT (tCo sN__succ []) [(tV 0)])) _ _ k10 k16).mono ?_
  rintro _ w17 ⟨x17, cs17, rfl, h17⟩
  have hh17 := hh16.ext x17
  have z17 := x17.size
  have k17 : VX w.heap.size w17 _ (tLm tN (tLm tN (apT (tCo sN__succ []) [(tV 0)]))) := h17
  obtain ⟨ks17, ns17, ss17, lss17, tss17, las17, lcs17, tas17, tcs17, e17, rfl, hks17, hns17, hss17, hlls17, hlts17, hLs17, hTs17⟩ := h17.inv
  refine Lands.ret (s := .a [.v (.int .u8 ks17), .v (.int .i64 ns17), .v (.string ss17), .v (.slice las17 lss17.length lcs17), .v (.slice tas17 tss17.length tcs17)]) rfl rfl hh17 ?_
  have y17 : Ext w w17 := y16.trans x17
  replace k1 := VX.ext k1 x17
  replace k2 := VX.ext k2 x17
  replace k5 := VX.ext k5 x17
  replace k8 := VX.ext k8 x17
  replace k9 := VX.ext k9 x17
  refine (V_runs8 w17 y17.size 0 (by simp [i64ok])).mono ?_
  rintro _ w18 ⟨x18, cs18, rfl, h18⟩
  have hh18 := hh17.ext x18
  have z18 := x18.size
  have k18 : VX w.heap.size w18 _ (tV 0) := h18
  obtain ⟨ks18, ns18, ss18, lss18, tss18, las18, lcs18, tas18, tcs18, e18, rfl, hks18, hns18, hss18, hlls18, hlts18, hLs18, hTs18⟩ := h18.inv
  refine Lands.ret (s := .a [.v (.int .u8 ks18), .v (.int .i64 ns18), .v (.string ss18), .v (.slice las18 lss18.length lcs18), .v (.slice tas18 tss18.length tcs18)]) rfl rfl hh18 ?_
  have y18 : Ext w w18 := y17.trans x18
  replace k1 := VX.ext k1 x18
  replace k2 := VX.ext k2 x18
  replace k5 := VX.ext k5 x18
  replace k8 := VX.ext k8 x18
  replace k9 := VX.ext k9 x18
  replace k17 := VX.ext k17 x18
  refine OpT.buildE (E := encT) (R := (fun k => w.heap.size ≤ k ∧ k < w18.heap.size)) (vs := [_, _, _, _]) (l := [(tLm tN tN), (tV 1), (tLm tN (tLm tN (apT (tCo sN__succ []) [(tV 0)]))), (tV 0)]) Tryz.zeroValue33 (.cons rfl (.cons rfl (.cons rfl (.cons rfl (.nil))))) Tryz.underlying31 Tryz.sizeOf33 rfl rfl (Reps.cons k8 (Reps.cons k9 (Reps.cons k17 (Reps.cons k18 (Reps.nil _ _ _))))) rfl rfl hh18 fun w19 g19 e19 x19 z19 o19 hh19 => ?_
  have y19 : Ext w w19 := y18.trans x19
  replace k1 := VX.ext k1 x19
  replace k2 := VX.ext k2 x19
  replace k5 := VX.ext k5 x19
  refine (A_runs w19 y19.size (R := _) (tCo sN__rec [(levN 0)]) _ _ [(tLm tN tN), (tV 1), (tLm tN (tLm tN (apT (tCo sN__succ []) [(tV 0)]))), (tV 0)] 4 k5 (fun k hk => by rcases hk.1 with h | h; exact h.1; have := y18.size; omega) o19.sl (by simp [lenOk])).mono ?_
  rintro _ w20 ⟨x20, cs20, rfl, h20⟩
  have hh20 := hh19.ext x20
  have z20 := x20.size
  have k20 : VX w.heap.size w20 _ (apT (tCo sN__rec [(levN 0)]) [(tLm tN tN), (tV 1), (tLm tN (tLm tN (apT (tCo sN__succ []) [(tV 0)]))), (tV 0)]) := h20
  obtain ⟨ks20, ns20, ss20, lss20, tss20, las20, lcs20, tas20, tcs20, e20, rfl, hks20, hns20, hss20, hlls20, hlts20, hLs20, hTs20⟩ := h20.inv
  refine Lands.ret (s := .a [.v (.int .u8 ks20), .v (.int .i64 ns20), .v (.string ss20), .v (.slice las20 lss20.length lcs20), .v (.slice tas20 tss20.length tcs20)]) rfl rfl hh20 ?_
  have y20 : Ext w w20 := y19.trans x20
  replace k1 := VX.ext k1 x20
  replace k2 := VX.ext k2 x20
  refine (L_runs8 w20 y20.size tN (apT (tCo sN__rec [(levN 0)]) [(tLm tN tN), (tV 1), (tLm tN (tLm tN (apT (tCo sN__succ []) [(tV 0)]))), (tV 0)]) _ _ k2 k20).mono ?_
  rintro _ w21 ⟨x21, cs21, rfl, h21⟩
  have hh21 := hh20.ext x21
  have z21 := x21.size
  have k21 : VX w.heap.size w21 _ (tLm tN (apT (tCo sN__rec [(levN 0)]) [(tLm tN tN), (tV 1), (tLm tN (tLm tN (apT (tCo sN__succ []) [(tV 0)]))), (tV 0)])) := h21
  obtain ⟨ks21, ns21, ss21, lss21, tss21, las21, lcs21, tas21, tcs21, e21, rfl, hks21, hns21, hss21, hlls21, hlts21, hLs21, hTs21⟩ := h21.inv
  refine Lands.ret (s := .a [.v (.int .u8 ks21), .v (.int .i64 ns21), .v (.string ss21), .v (.slice las21 lss21.length lcs21), .v (.slice tas21 tss21.length tcs21)]) rfl rfl hh21 ?_
  have y21 : Ext w w21 := y20.trans x21
  replace k1 := VX.ext k1 x21
  refine (L_runs8 w21 y21.size tN (tLm tN (apT (tCo sN__rec [(levN 0)]) [(tLm tN tN), (tV 1), (tLm tN (tLm tN (apT (tCo sN__succ []) [(tV 0)]))), (tV 0)])) _ _ k1 k21).mono ?_
  rintro _ w22 ⟨x22, cs22, rfl, h22⟩
  have hh22 := hh21.ext x22
  have z22 := x22.size
  have k22 : VX w.heap.size w22 _ (tLm tN (tLm tN (apT (tCo sN__rec [(levN 0)]) [(tLm tN tN), (tV 1), (tLm tN (tLm tN (apT (tCo sN__succ []) [(tV 0)]))), (tV 0)]))) := h22
  obtain ⟨ks22, ns22, ss22, lss22, tss22, las22, lcs22, tas22, tcs22, e22, rfl, hks22, hns22, hss22, hlls22, hlts22, hLs22, hTs22⟩ := h22.inv
  refine Lands.ret (s := .a [.v (.int .u8 ks22), .v (.int .i64 ns22), .v (.string ss22), .v (.slice las22 lss22.length lcs22), .v (.slice tas22 tss22.length tcs22)]) rfl rfl hh22 ?_
  have y22 : Ext w w22 := y21.trans x22
  intro g23 w23 e23 x23 z23 hh23; intro w24 m24 z24 hh24; replace m24 : Upd g23 w23 w24 := m24; have x24 : Ext w22 w24 := x23.upd m24 (by omega); have q24 := x24.size
  have y24 : Ext w w24 := y22.trans x24
  replace k22 := VX.ext k22 x24
  have k24 : VX w.heap.size w24 _ mad_1 := k22
  refine (N_runs w24 y24.size).mono ?_
  rintro _ w25 ⟨x25, cs25, rfl, h25⟩
  have hh25 := hh24.ext x25
  have z25 := x25.size
  have k25 : VX w.heap.size w25 _ tN := h25
  obtain ⟨ks25, ns25, ss25, lss25, tss25, las25, lcs25, tas25, tcs25, e25, rfl, hks25, hns25, hss25, hlls25, hlts25, hLs25, hTs25⟩ := h25.inv
  refine Lands.ret (s := .a [.v (.int .u8 ks25), .v (.int .i64 ns25), .v (.string ss25), .v (.slice las25 lss25.length lcs25), .v (.slice tas25 tss25.length tcs25)]) rfl rfl hh25 ?_
  have y25 : Ext w w25 := y24.trans x25
  replace k24 := VX.ext k24 x25
  refine (N_runs w25 y25.size).mono ?_
  rintro _ w26 ⟨x26, cs26, rfl, h26⟩
  have hh26 := hh25.ext x26
  have z26 := x26.size
  have k26 : VX w.heap.size w26 _ tN := h26
  obtain ⟨ks26, ns26, ss26, lss26, tss26, las26, lcs26, tas26, tcs26, e26, rfl, hks26, hns26, hss26, hlls26, hlts26, hLs26, hTs26⟩ := h26.inv
  refine Lands.ret (s := .a [.v (.int .u8 ks26), .v (.int .i64 ns26), .v (.string ss26), .v (.slice las26 lss26.length lcs26), .v (.slice tas26 tss26.length tcs26)]) rfl rfl hh26 ?_
  have y26 : Ext w w26 := y25.trans x26
  replace k24 := VX.ext k24 x26
  replace k25 := VX.ext k25 x26
  refine (N_runs w26 y26.size).mono ?_
  rintro _ w27 ⟨x27, cs27, rfl, h27⟩
  have hh27 := hh26.ext x27
  have z27 := x27.size
  have k27 : VX w.heap.size w27 _ tN := h27
  obtain ⟨ks27, ns27, ss27, lss27, tss27, las27, lcs27, tas27, tcs27, e27, rfl, hks27, hns27, hss27, hlls27, hlts27, hLs27, hTs27⟩ := h27.inv
  refine Lands.ret (s := .a [.v (.int .u8 ks27), .v (.int .i64 ns27), .v (.string ss27), .v (.slice las27 lss27.length lcs27), .v (.slice tas27 tss27.length tcs27)]) rfl rfl hh27 ?_
  have y27 : Ext w w27 := y26.trans x27
  replace k24 := VX.ext k24 x27
  replace k25 := VX.ext k25 x27
  replace k26 := VX.ext k26 x27
  refine (P_runs8 w27 y27.size tN tN _ _ k26 k27).mono ?_
  rintro _ w28 ⟨x28, cs28, rfl, h28⟩
  have hh28 := hh27.ext x28
  have z28 := x28.size
  have k28 : VX w.heap.size w28 _ (tPi tN tN) := h28
  obtain ⟨ks28, ns28, ss28, lss28, tss28, las28, lcs28, tas28, tcs28, e28, rfl, hks28, hns28, hss28, hlls28, hlts28, hLs28, hTs28⟩ := h28.inv
  refine Lands.ret (s := .a [.v (.int .u8 ks28), .v (.int .i64 ns28), .v (.string ss28), .v (.slice las28 lss28.length lcs28), .v (.slice tas28 tss28.length tcs28)]) rfl rfl hh28 ?_
  have y28 : Ext w w28 := y27.trans x28
  replace k24 := VX.ext k24 x28
  replace k25 := VX.ext k25 x28
  refine (P_runs8 w28 y28.size tN (tPi tN tN) _ _ k25 k28).mono ?_
  rintro _ w29 ⟨x29, cs29, rfl, h29⟩
  have hh29 := hh28.ext x29
  have z29 := x29.size
  have k29 : VX w.heap.size w29 _ (tPi tN (tPi tN tN)) := h29
  obtain ⟨ks29, ns29, ss29, lss29, tss29, las29, lcs29, tas29, tcs29, e29, rfl, hks29, hns29, hss29, hlls29, hlts29, hLs29, hTs29⟩ := h29.inv
  refine Lands.ret (s := .a [.v (.int .u8 ks29), .v (.int .i64 ns29), .v (.string ss29), .v (.slice las29 lss29.length lcs29), .v (.slice tas29 tss29.length tcs29)]) rfl rfl hh29 ?_
  have y29 : Ext w w29 := y28.trans x29
  replace k24 := VX.ext k24 x29
  intro g30 w30 e30 x30 z30 hh30; intro w31 m31 z31 hh31; replace m31 : Upd g30 w30 w31 := m31; have x31 : Ext w29 w31 := x30.upd m31 (by omega); have q31 := x31.size
  have y31 : Ext w w31 := y29.trans x31
  replace k24 := VX.ext k24 x31
  replace k29 := VX.ext k29 x31
  have k31 : VX w.heap.size w31 _ mad_2 := k29
  refine (Co0_runs w31 y31.size sPair (by decide)).mono ?_
  rintro _ w32 ⟨x32, cs32, rfl, h32⟩
  have hh32 := hh31.ext x32
  have z32 := x32.size
  have k32 : VX w.heap.size w32 _ (tCo sPair []) := h32
  obtain ⟨ks32, ns32, ss32, lss32, tss32, las32, lcs32, tas32, tcs32, e32, rfl, hks32, hns32, hss32, hlls32, hlts32, hLs32, hTs32⟩ := h32.inv
  refine Lands.ret (s := .a [.v (.int .u8 ks32), .v (.int .i64 ns32), .v (.string ss32), .v (.slice las32 lss32.length lcs32), .v (.slice tas32 tss32.length tcs32)]) rfl rfl hh32 ?_
  have y32 : Ext w w32 := y31.trans x32
  replace k24 := VX.ext k24 x32
  replace k31 := VX.ext k31 x32
  intro g33 w33 e33 x33 z33 hh33; intro w34 m34 z34 hh34; replace m34 : Upd g33 w33 w34 := m34; have x34 : Ext w32 w34 := x33.upd m34 (by omega); have q34 := x34.size
  have y34 : Ext w w34 := y32.trans x34
  replace k24 := VX.ext k24 x34
  replace k31 := VX.ext k31 x34
  replace k32 := VX.ext k32 x34
  have k34 : VX w.heap.size w34 _ mad_3 := k32
  have kk34 := k34
  refine vFlow_mk 18 (fun k => w.heap.size ≤ k ∧ k < w34.heap.size) [.T tY, .T tY, .T mad_3, .T (tV 1), .T (tV 0), .ST [(tV 1), (tV 0)], .T (apT mad_3 [(tV 1), (tV 0)]), .T (tCo sPair__mk []), .T (tV 1), .T (tV 2), .T (tPr sPair 1 (tV 0)), .T (tPr sPair 0 (tV 0)), .ST [(tV 1), (tV 2), (tPr sPair 1 (tV 0)), (tPr sPair 0 (tV 0))], .T (apT (tCo sPair__mk []) [(tV 1), (tV 2), (tPr sPair 1 (tV 0)), (tPr sPair 0 (tV 0))]), .T (tLm (apT mad_3 [(tV 1), (tV 0)]) (apT (tCo sPair__mk []) [(tV 1), (tV 2), (tPr sPair 1 (tV 0)), (tPr sPair 0 (tV 0))])), .T (tLm tY (tLm (apT mad_3 [(tV 1), (tV 0)]) (apT (tCo sPair__mk []) [(tV 1), (tV 2), (tPr sPair 1 (tV 0)), (tPr sPair 0 (tV 0))]))), .T (tLm tY (tLm tY (tLm (apT mad_3 [(tV 1), (tV 0)]) (apT (tCo sPair__mk []) [(tV 1), (tV 2), (tPr sPair 1 (tV 0)), (tPr sPair 0 (tV 0))])))), .A] rfl fun w35 x35 z35 hh35 => ?_
  have y35 : Ext w w35 := y34.trans x35
  replace k24 := VX.ext k24 x35
  replace k31 := VX.ext k31 x35
  replace k34 := VX.ext k34 x35
  refine And.intro (fun vs Rs w2 x hh hR_  => flCall (Type0_d) hh fun v w3 _ q => q) ?_
  refine And.intro (fun vs Rs w2 x hh hR_  => flCall (Type0_d) hh fun v w3 _ q => q) ?_
  refine And.intro (fun vs Rs w2 x hh hR_ => ⟨Ext.refl _, flLoad kk34 (x35.trans x)⟩) ?_
  refine And.intro (fun vs Rs w2 x hh hR_  => flCall (V_d 1 (by simp [i64ok])) hh fun v w3 _ q => q) ?_
  refine And.intro (fun vs Rs w2 x hh hR_  => flCall (V_d 0 (by simp [i64ok])) hh fun v w3 _ q => q) ?_
  refine And.intro (fun vs Rs w2 x hh hR_ h1 h2 => by
    obtain ⟨c1, e1, k1_⟩ := h1
    obtain ⟨c2, e2, k2_⟩ := h2
    refine OpT.buildE (E := encT) (R := rdS (fun k => w.heap.size ≤ k ∧ k < w34.heap.size) (fun k => Rs 3 k ∨ (Rs 4 k)) w2) (vs := [vs 3, vs 4]) (css := [c1, c2]) (l := [(tV 1), (tV 0)]) Tryz.zeroValue33 (.cons rfl (.cons rfl (.nil))) Tryz.underlying31 Tryz.sizeOf33 rfl (by simp [e1, e2, Value.cells]) (Reps.cons (VT.mono k1_ fun k hk => ⟨hk.1.imp id fun h => .inl h, hk.2⟩) (Reps.cons (VT.mono k2_ fun k hk => ⟨hk.1.imp id fun h => .inr (h), hk.2⟩) (Reps.nil _ _ _))) rfl rfl hh fun w3 g e x3 z3 o3 hh3 => ?_
    exact ⟨x3, _, _, rfl, by simp [lenOk], o3.sl.mono fun k hk => ⟨hk.1.elim (fun h => h.1.imp id fun h => h.elim .inl fun h => .inr (.inl h)) (fun h => .inr (.inr (.inr (⟨h, hk.2⟩)))), hk.2⟩⟩) ?_
  refine And.intro (fun vs Rs w2 x hh hR_ h1 h2 => flCall (A_d h1 h2) hh fun v w3 _ q => q) ?_
  refine And.intro (fun vs Rs w2 x hh hR_  => flCall (Co0_d sPair__mk (by decide)) hh fun v w3 _ q => q) ?_
  refine And.intro (fun vs Rs w2 x hh hR_  => flCall (V_d 1 (by simp [i64ok])) hh fun v w3 _ q => q) ?_
  refine And.intro (fun vs Rs w2 x hh hR_  => flCall (V_d 2 (by simp [i64ok])) hh fun v w3 _ q => q) ?_
  refine And.intro (fun vs Rs w2 x hh hR_  => flCall (field_d 1 (by simp [i64ok])) hh fun v w3 _ q => q) ?_
  refine And.intro (fun vs Rs w2 x hh hR_  => flCall (field_d 0 (by simp [i64ok])) hh fun v w3 _ q => q) ?_
  refine And.intro (fun vs Rs w2 x hh hR_ h1 h2 h3 h4 => by
    obtain ⟨c1, e1, k1_⟩ := h1
    obtain ⟨c2, e2, k2_⟩ := h2
    obtain ⟨c3, e3, k3_⟩ := h3
    obtain ⟨c4, e4, k4_⟩ := h4
    refine OpT.buildE (E := encT) (R := rdS (fun k => w.heap.size ≤ k ∧ k < w34.heap.size) (fun k => Rs 8 k ∨ (Rs 9 k ∨ (Rs 10 k ∨ (Rs 11 k)))) w2) (vs := [vs 8, vs 9, vs 10, vs 11]) (css := [c1, c2, c3, c4]) (l := [(tV 1), (tV 2), (tPr sPair 1 (tV 0)), (tPr sPair 0 (tV 0))]) Tryz.zeroValue33 (.cons rfl (.cons rfl (.cons rfl (.cons rfl (.nil))))) Tryz.underlying31 Tryz.sizeOf33 rfl (by simp [e1, e2, e3, e4, Value.cells]) (Reps.cons (VT.mono k1_ fun k hk => ⟨hk.1.imp id fun h => .inl h, hk.2⟩) (Reps.cons (VT.mono k2_ fun k hk => ⟨hk.1.imp id fun h => .inr (.inl h), hk.2⟩) (Reps.cons (VT.mono k3_ fun k hk => ⟨hk.1.imp id fun h => .inr (.inr (.inl h)), hk.2⟩) (Reps.cons (VT.mono k4_ fun k hk => ⟨hk.1.imp id fun h => .inr (.inr (.inr (h))), hk.2⟩) (Reps.nil _ _ _))))) rfl rfl hh fun w3 g e x3 z3 o3 hh3 => ?_
    exact ⟨x3, _, _, rfl, by simp [lenOk], o3.sl.mono fun k hk => ⟨hk.1.elim (fun h => h.1.imp id fun h => h.elim .inl fun h => .inr (h.elim .inl fun h => .inr (h.elim .inl fun h => .inr (.inl h)))) (fun h => .inr (.inr (.inr (.inr (.inr (⟨h, hk.2⟩)))))), hk.2⟩⟩) ?_
  refine And.intro (fun vs Rs w2 x hh hR_ h1 h2 => flCall (A_d h1 h2) hh fun v w3 _ q => q) ?_
  refine And.intro (fun vs Rs w2 x hh hR_ h1 h2 => flCall (L_d h1 h2) hh fun v w3 _ q => q) ?_
  refine And.intro (fun vs Rs w2 x hh hR_ h1 h2 => flCall (L_d h1 h2) hh fun v w3 _ q => q) ?_
  refine And.intro (fun vs Rs w2 x hh hR_ h1 h2 => flCall (L_d h1 h2) hh fun v w3 _ q => q) ?_
  refine And.intro (fun vs Rs w2 x hh hR_ => by
    intro g w3 e x3 z3 hh3
    exact ⟨x3, g, rfl, ⟨by omega, by omega⟩, hh3.box 3 _ rfl⟩) ?_
  intro vs Os w36 x36 hh36 hp hO hd
  have q36 := x36.size
  have hs36 : (DV.T (tLm tY (tLm tY (tLm (apT mad_3 [(tV 1), (tV 0)]) (apT (tCo sPair__mk []) [(tV 1), (tV 2), (tPr sPair 1 (tV 0)), (tPr sPair 0 (tV 0))]))))).rep _ _ _ _ := hp 16 (by omega)
  have hA36 : DV.A.rep _ _ _ _ := hp 17 (by omega)
  obtain ⟨cs36, es36, h36⟩ := hs36
  obtain ⟨g36, eg36, hg36, bg36⟩ := hA36
  replace hg36 := flCum_own (by rfl) hg36
  have gO36 := hO _ _ hg36
  have h36x := h36
  obtain ⟨ks36, ns36, ss36, lss36, tss36, las36, lcs36, tas36, tcs36, e36, rfl, hks36, hns36, hss36, hlls36, hlts36, hLs36, hTs36⟩ := h36.inv
  refine Exists.intro [g36] (Exists.intro _ (Exists.intro [.v (vs 0), .v (vs 1), .v (vs 2), .v (vs 3), .v (vs 4), .v (vs 5), .v (vs 6), .v (vs 7), .v (vs 8), .v (vs 9), .v (vs 10), .v (vs 11), .v (vs 12), .v (vs 13), .v (vs 14), .v (vs 15), .a [.v (.int .u8 ks36), .v (.int .i64 ns36), .v (.string ss36), .v (.slice las36 lss36.length lcs36), .v (.slice tas36 tss36.length tcs36)], .p 3 0] ⟨Holds.add hh36 (c := [.v (.int .u8 0), .v (.int .i64 0), .v (.string noS), .v (.slice none 0 0), .v (.slice none 0 0)]) (fun i hi he => by have := hh35.lt i hi; omega) gO36.2 bg36 rfl, rfl, by rw [show (List.range 18).map vs = [vs 0, vs 1, vs 2, vs 3, vs 4, vs 5, vs 6, vs 7, vs 8, vs 9, vs 10, vs 11, vs 12, vs 13, vs 14, vs 15, vs 16, vs 17] from rfl, eg36, es36]; rfl, ?_⟩))
  intro w37 m37 z37 hh37
  replace m37 : Upd g36 w36 w37 := m37
  have x37 : Ext w35 w37 := x36.upd m37 (by omega)
  have y37 : Ext w w37 := y35.trans x37
  replace k24 := VX.ext k24 x37
  replace k31 := VX.ext k31 x37
  replace k34 := VX.ext k34 x37
  have k37 : VX w.heap.size w37 _ mad_4 := flStored h36x m37 (flCum_no (s := 16) (A := 17) (by decide) (by rfl) hd hg36) (fun hb => by have := hb.2; omega) (fun k hk => hk.1) (fun k hk => by have := y35.size; obtain ⟨q, _, hq⟩ := hk; have := (hO q k hq).1; omega)
  have kk24 := k24
  have kk31 := k31
  have kk34 := k34
  have kk37 := k37
  refine vFlow_mk 63 (fun k => w.heap.size ≤ k ∧ k < w37.heap.size) [.T tN, .IN madI0, .T tN, .T tN, .T (tPi tN tN), .IN madI1, .T mad_3, .T tN, .T tN, .ST [tN, tN], .T (apT mad_3 [tN, tN]), .IN madI2, .T mad_2, .T mad_1, .IN madI3, .T tN, .T (tNum 1), .IN madI4, .T tN, .T tN, .T (tPi tN tN), .T tN, .T (tCo sadd []), .T (tV 0), .T (tV 0), .ST [(tV 0), (tV 0)], .T (apT (tCo sadd []) [(tV 0), (tV 0)]), .T (tLm tN (apT (tCo sadd []) [(tV 0), (tV 0)])), .IN madI5, .L levU, .T (tSo levU), .T (tV 0), .T (tV 1), .T (tPi (tV 0) (tV 1)), .T (tPi (tSo levU) (tPi (tV 0) (tV 1))), .L levU, .T (tSo levU), .T (tV 0), .T (tV 0), .T (tLm (tV 0) (tV 0)), .T (tLm (tSo levU) (tLm (tV 0) (tV 0))), .IN madI6, .T tY, .T tY, .T mad_3, .T (tV 1), .T (tV 0), .ST [(tV 1), (tV 0)], .T (apT mad_3 [(tV 1), (tV 0)]), .T mad_3, .T (tV 1), .T (tV 2), .ST [(tV 1), (tV 2)], .T (apT mad_3 [(tV 1), (tV 2)]), .T (tPi (apT mad_3 [(tV 1), (tV 0)]) (apT mad_3 [(tV 1), (tV 2)])), .T (tPi tY (tPi (apT mad_3 [(tV 1), (tV 0)]) (apT mad_3 [(tV 1), (tV 2)]))), .T (tPi tY (tPi tY (tPi (apT mad_3 [(tV 1), (tV 0)]) (apT mad_3 [(tV 1), (tV 2)])))), .T mad_4, .IN madI7, .T tN, .T (tNum 2), .IN madI8, .SI w.heap.size madL] rfl fun w38 x38 z38 hh38 => ?_
  have y38 : Ext w w38 := y37.trans x38
  refine And.intro (fun vs Rs w2 x hh hR_  => flCall (N_d) hh fun v w3 _ q => q) ?_
  refine And.intro (fun vs Rs w2 x hh hR_ h1 => by
    obtain ⟨c1, e1, k1_⟩ := h1
    have k1x := k1_
    obtain ⟨kt1, nt1, st1, lst1, tst1, lat1, lct1, tat1, tct1, q1_, rfl, hkt1, hnt1, hst1, hllt1, hltt1, hLt1, hTt1⟩ := k1_.inv
    obtain ⟨vs', rfl⟩ := fl_at e1
    exact ⟨Ext.refl _, _, rfl, _, _, _, _, rfl, k1x.mono fun k hk => ⟨hk.1.imp id fun h => .inl h, hk.2⟩, tZ_rep _ _, Sl.nil _ _ _ _, by simp [lenOk, madI0], madI0_ok⟩) ?_
  refine And.intro (fun vs Rs w2 x hh hR_  => flCall (N_d) hh fun v w3 _ q => q) ?_
  refine And.intro (fun vs Rs w2 x hh hR_  => flCall (N_d) hh fun v w3 _ q => q) ?_
  refine And.intro (fun vs Rs w2 x hh hR_ h1 h2 => flCall (P_d h1 h2) hh fun v w3 _ q => q) ?_
  refine And.intro (fun vs Rs w2 x hh hR_ h1 => by
    obtain ⟨c1, e1, k1_⟩ := h1
    have k1x := k1_
    obtain ⟨kt1, nt1, st1, lst1, tst1, lat1, lct1, tat1, tct1, q1_, rfl, hkt1, hnt1, hst1, hllt1, hltt1, hLt1, hTt1⟩ := k1_.inv
    obtain ⟨vs', rfl⟩ := fl_at e1
    exact ⟨Ext.refl _, _, rfl, _, _, _, _, rfl, k1x.mono fun k hk => ⟨hk.1.imp id fun h => .inl h, hk.2⟩, tZ_rep _ _, Sl.nil _ _ _ _, by simp [lenOk, madI1], madI1_ok⟩) ?_
  refine And.intro (fun vs Rs w2 x hh hR_ => ⟨Ext.refl _, flLoad kk34 (x38.trans x)⟩) ?_
  refine And.intro (fun vs Rs w2 x hh hR_  => flCall (N_d) hh fun v w3 _ q => q) ?_
  refine And.intro (fun vs Rs w2 x hh hR_  => flCall (N_d) hh fun v w3 _ q => q) ?_
  refine And.intro (fun vs Rs w2 x hh hR_ h1 h2 => by
    obtain ⟨c1, e1, k1_⟩ := h1
    obtain ⟨c2, e2, k2_⟩ := h2
    refine OpT.buildE (E := encT) (R := rdS (fun k => w.heap.size ≤ k ∧ k < w37.heap.size) (fun k => Rs 7 k ∨ (Rs 8 k)) w2) (vs := [vs 7, vs 8]) (css := [c1, c2]) (l := [tN, tN]) Tryz.zeroValue33 (.cons rfl (.cons rfl (.nil))) Tryz.underlying31 Tryz.sizeOf33 rfl (by simp [e1, e2, Value.cells]) (Reps.cons (VT.mono k1_ fun k hk => ⟨hk.1.imp id fun h => .inl h, hk.2⟩) (Reps.cons (VT.mono k2_ fun k hk => ⟨hk.1.imp id fun h => .inr (h), hk.2⟩) (Reps.nil _ _ _))) rfl rfl hh fun w3 g e x3 z3 o3 hh3 => ?_
    exact ⟨x3, _, _, rfl, by simp [lenOk], o3.sl.mono fun k hk => ⟨hk.1.elim (fun h => h.1.imp id fun h => h.elim .inl fun h => .inr (.inl h)) (fun h => .inr (.inr (.inr (⟨h, hk.2⟩)))), hk.2⟩⟩) ?_
  refine And.intro (fun vs Rs w2 x hh hR_ h1 h2 => flCall (A_d h1 h2) hh fun v w3 _ q => q) ?_
  refine And.intro (fun vs Rs w2 x hh hR_ h1 => by
    obtain ⟨c1, e1, k1_⟩ := h1
    have k1x := k1_
    obtain ⟨kt1, nt1, st1, lst1, tst1, lat1, lct1, tat1, tct1, q1_, rfl, hkt1, hnt1, hst1, hllt1, hltt1, hLt1, hTt1⟩ := k1_.inv
    obtain ⟨vs', rfl⟩ := fl_at e1
    exact ⟨Ext.refl _, _, rfl, _, _, _, _, rfl, k1x.mono fun k hk => ⟨hk.1.imp id fun h => .inl h, hk.2⟩, tZ_rep _ _, Sl.nil _ _ _ _, by simp [lenOk, madI2], madI2_ok⟩) ?_
  refine And.intro (fun vs Rs w2 x hh hR_ => ⟨Ext.refl _, flLoad kk31 (x38.trans x)⟩) ?_
  refine And.intro (fun vs Rs w2 x hh hR_ => ⟨Ext.refl _, flLoad kk24 (x38.trans x)⟩) ?_
  refine And.intro (fun vs Rs w2 x hh hR_ h1 h2 => by
    obtain ⟨c1, e1, k1_⟩ := h1
    have k1x := k1_
    obtain ⟨kt1, nt1, st1, lst1, tst1, lat1, lct1, tat1, tct1, q1_, rfl, hkt1, hnt1, hst1, hllt1, hltt1, hLt1, hTt1⟩ := k1_.inv
    obtain ⟨c2, e2, k2_⟩ := h2
    have k2x := k2_
    obtain ⟨kt2, nt2, st2, lst2, tst2, lat2, lct2, tat2, tct2, q2_, rfl, hkt2, hnt2, hst2, hllt2, hltt2, hLt2, hTt2⟩ := k2_.inv
    obtain ⟨vs', rfl⟩ := fl_at2 e1 e2
    exact ⟨Ext.refl _, _, rfl, _, _, _, _, rfl, k1x.mono fun k hk => ⟨hk.1.imp id fun h => .inl h, hk.2⟩, k2x.mono fun k hk => ⟨hk.1.imp id fun h => .inr (.inl h), hk.2⟩, Sl.nil _ _ _ _, by simp [lenOk, madI3], madI3_ok⟩) ?_
  refine And.intro (fun vs Rs w2 x hh hR_  => flCall (N_d) hh fun v w3 _ q => q) ?_
  refine And.intro (fun vs Rs w2 x hh hR_  => flCall (Num_d 1 (by omega)) hh fun v w3 _ q => q) ?_
  refine And.intro (fun vs Rs w2 x hh hR_ h1 h2 => by
    obtain ⟨c1, e1, k1_⟩ := h1
    have k1x := k1_
    obtain ⟨kt1, nt1, st1, lst1, tst1, lat1, lct1, tat1, tct1, q1_, rfl, hkt1, hnt1, hst1, hllt1, hltt1, hLt1, hTt1⟩ := k1_.inv
    obtain ⟨c2, e2, k2_⟩ := h2
    have k2x := k2_
    obtain ⟨kt2, nt2, st2, lst2, tst2, lat2, lct2, tat2, tct2, q2_, rfl, hkt2, hnt2, hst2, hllt2, hltt2, hLt2, hTt2⟩ := k2_.inv
    obtain ⟨vs', rfl⟩ := fl_at2 e1 e2
    exact ⟨Ext.refl _, _, rfl, _, _, _, _, rfl, k1x.mono fun k hk => ⟨hk.1.imp id fun h => .inl h, hk.2⟩, k2x.mono fun k hk => ⟨hk.1.imp id fun h => .inr (.inl h), hk.2⟩, Sl.nil _ _ _ _, by simp [lenOk, madI4], madI4_ok⟩) ?_
  refine And.intro (fun vs Rs w2 x hh hR_  => flCall (N_d) hh fun v w3 _ q => q) ?_
  refine And.intro (fun vs Rs w2 x hh hR_  => flCall (N_d) hh fun v w3 _ q => q) ?_
  refine And.intro (fun vs Rs w2 x hh hR_ h1 h2 => flCall (P_d h1 h2) hh fun v w3 _ q => q) ?_
  refine And.intro (fun vs Rs w2 x hh hR_  => flCall (N_d) hh fun v w3 _ q => q) ?_
  refine And.intro (fun vs Rs w2 x hh hR_  => flCall (Co0_d sadd (by decide)) hh fun v w3 _ q => q) ?_
  refine And.intro (fun vs Rs w2 x hh hR_  => flCall (V_d 0 (by simp [i64ok])) hh fun v w3 _ q => q) ?_
  refine And.intro (fun vs Rs w2 x hh hR_  => flCall (V_d 0 (by simp [i64ok])) hh fun v w3 _ q => q) ?_
  refine And.intro (fun vs Rs w2 x hh hR_ h1 h2 => by
    obtain ⟨c1, e1, k1_⟩ := h1
    obtain ⟨c2, e2, k2_⟩ := h2
    refine OpT.buildE (E := encT) (R := rdS (fun k => w.heap.size ≤ k ∧ k < w37.heap.size) (fun k => Rs 23 k ∨ (Rs 24 k)) w2) (vs := [vs 23, vs 24]) (css := [c1, c2]) (l := [(tV 0), (tV 0)]) Tryz.zeroValue33 (.cons rfl (.cons rfl (.nil))) Tryz.underlying31 Tryz.sizeOf33 rfl (by simp [e1, e2, Value.cells]) (Reps.cons (VT.mono k1_ fun k hk => ⟨hk.1.imp id fun h => .inl h, hk.2⟩) (Reps.cons (VT.mono k2_ fun k hk => ⟨hk.1.imp id fun h => .inr (h), hk.2⟩) (Reps.nil _ _ _))) rfl rfl hh fun w3 g e x3 z3 o3 hh3 => ?_
    exact ⟨x3, _, _, rfl, by simp [lenOk], o3.sl.mono fun k hk => ⟨hk.1.elim (fun h => h.1.imp id fun h => h.elim .inl fun h => .inr (.inl h)) (fun h => .inr (.inr (.inr (⟨h, hk.2⟩)))), hk.2⟩⟩) ?_
  refine And.intro (fun vs Rs w2 x hh hR_ h1 h2 => flCall (A_d h1 h2) hh fun v w3 _ q => q) ?_
  refine And.intro (fun vs Rs w2 x hh hR_ h1 h2 => flCall (L_d h1 h2) hh fun v w3 _ q => q) ?_
  refine And.intro (fun vs Rs w2 x hh hR_ h1 h2 => by
    obtain ⟨c1, e1, k1_⟩ := h1
    have k1x := k1_
    obtain ⟨kt1, nt1, st1, lst1, tst1, lat1, lct1, tat1, tct1, q1_, rfl, hkt1, hnt1, hst1, hllt1, hltt1, hLt1, hTt1⟩ := k1_.inv
    obtain ⟨c2, e2, k2_⟩ := h2
    have k2x := k2_
    obtain ⟨kt2, nt2, st2, lst2, tst2, lat2, lct2, tat2, tct2, q2_, rfl, hkt2, hnt2, hst2, hllt2, hltt2, hLt2, hTt2⟩ := k2_.inv
    obtain ⟨vs', rfl⟩ := fl_at2 e1 e2
    exact ⟨Ext.refl _, _, rfl, _, _, _, _, rfl, k1x.mono fun k hk => ⟨hk.1.imp id fun h => .inl h, hk.2⟩, k2x.mono fun k hk => ⟨hk.1.imp id fun h => .inr (.inl h), hk.2⟩, Sl.nil _ _ _ _, by simp [lenOk, madI5], madI5_ok⟩) ?_
  refine And.intro (fun vs Rs w2 x hh hR_  => flCall (U_d) hh fun v w3 _ q => q) ?_
  refine And.intro (fun vs Rs w2 x hh hR_ h1 => flCall (So_d h1) hh fun v w3 _ q => q) ?_
  refine And.intro (fun vs Rs w2 x hh hR_  => flCall (V_d 0 (by simp [i64ok])) hh fun v w3 _ q => q) ?_
  refine And.intro (fun vs Rs w2 x hh hR_  => flCall (V_d 1 (by simp [i64ok])) hh fun v w3 _ q => q) ?_
  refine And.intro (fun vs Rs w2 x hh hR_ h1 h2 => flCall (P_d h1 h2) hh fun v w3 _ q => q) ?_
  refine And.intro (fun vs Rs w2 x hh hR_ h1 h2 => flCall (P_d h1 h2) hh fun v w3 _ q => q) ?_
  refine And.intro (fun vs Rs w2 x hh hR_  => flCall (U_d) hh fun v w3 _ q => q) ?_
  refine And.intro (fun vs Rs w2 x hh hR_ h1 => flCall (So_d h1) hh fun v w3 _ q => q) ?_
  refine And.intro (fun vs Rs w2 x hh hR_  => flCall (V_d 0 (by simp [i64ok])) hh fun v w3 _ q => q) ?_
  refine And.intro (fun vs Rs w2 x hh hR_  => flCall (V_d 0 (by simp [i64ok])) hh fun v w3 _ q => q) ?_
  refine And.intro (fun vs Rs w2 x hh hR_ h1 h2 => flCall (L_d h1 h2) hh fun v w3 _ q => q) ?_
  refine And.intro (fun vs Rs w2 x hh hR_ h1 h2 => flCall (L_d h1 h2) hh fun v w3 _ q => q) ?_
  refine And.intro (fun vs Rs w2 x hh hR_ h1 h2 => by
    obtain ⟨c1, e1, k1_⟩ := h1
    have k1x := k1_
    obtain ⟨kt1, nt1, st1, lst1, tst1, lat1, lct1, tat1, tct1, q1_, rfl, hkt1, hnt1, hst1, hllt1, hltt1, hLt1, hTt1⟩ := k1_.inv
    obtain ⟨c2, e2, k2_⟩ := h2
    have k2x := k2_
    obtain ⟨kt2, nt2, st2, lst2, tst2, lat2, lct2, tat2, tct2, q2_, rfl, hkt2, hnt2, hst2, hllt2, hltt2, hLt2, hTt2⟩ := k2_.inv
    obtain ⟨vs', rfl⟩ := fl_at2 e1 e2
    exact ⟨Ext.refl _, _, rfl, _, _, _, _, rfl, k1x.mono fun k hk => ⟨hk.1.imp id fun h => .inl h, hk.2⟩, k2x.mono fun k hk => ⟨hk.1.imp id fun h => .inr (.inl h), hk.2⟩, Sl.nil _ _ _ _, by simp [lenOk, madI6], madI6_ok⟩) ?_
  refine And.intro (fun vs Rs w2 x hh hR_  => flCall (Type0_d) hh fun v w3 _ q => q) ?_
  refine And.intro (fun vs Rs w2 x hh hR_  => flCall (Type0_d) hh fun v w3 _ q => q) ?_
  refine And.intro (fun vs Rs w2 x hh hR_ => ⟨Ext.refl _, flLoad kk34 (x38.trans x)⟩) ?_
  refine And.intro (fun vs Rs w2 x hh hR_  => flCall (V_d 1 (by simp [i64ok])) hh fun v w3 _ q => q) ?_
  refine And.intro (fun vs Rs w2 x hh hR_  => flCall (V_d 0 (by simp [i64ok])) hh fun v w3 _ q => q) ?_
  refine And.intro (fun vs Rs w2 x hh hR_ h1 h2 => by
    obtain ⟨c1, e1, k1_⟩ := h1
    obtain ⟨c2, e2, k2_⟩ := h2
    refine OpT.buildE (E := encT) (R := rdS (fun k => w.heap.size ≤ k ∧ k < w37.heap.size) (fun k => Rs 45 k ∨ (Rs 46 k)) w2) (vs := [vs 45, vs 46]) (css := [c1, c2]) (l := [(tV 1), (tV 0)]) Tryz.zeroValue33 (.cons rfl (.cons rfl (.nil))) Tryz.underlying31 Tryz.sizeOf33 rfl (by simp [e1, e2, Value.cells]) (Reps.cons (VT.mono k1_ fun k hk => ⟨hk.1.imp id fun h => .inl h, hk.2⟩) (Reps.cons (VT.mono k2_ fun k hk => ⟨hk.1.imp id fun h => .inr (h), hk.2⟩) (Reps.nil _ _ _))) rfl rfl hh fun w3 g e x3 z3 o3 hh3 => ?_
    exact ⟨x3, _, _, rfl, by simp [lenOk], o3.sl.mono fun k hk => ⟨hk.1.elim (fun h => h.1.imp id fun h => h.elim .inl fun h => .inr (.inl h)) (fun h => .inr (.inr (.inr (⟨h, hk.2⟩)))), hk.2⟩⟩) ?_
  refine And.intro (fun vs Rs w2 x hh hR_ h1 h2 => flCall (A_d h1 h2) hh fun v w3 _ q => q) ?_
  refine And.intro (fun vs Rs w2 x hh hR_ => ⟨Ext.refl _, flLoad kk34 (x38.trans x)⟩) ?_
  refine And.intro (fun vs Rs w2 x hh hR_  => flCall (V_d 1 (by simp [i64ok])) hh fun v w3 _ q => q) ?_
  refine And.intro (fun vs Rs w2 x hh hR_  => flCall (V_d 2 (by simp [i64ok])) hh fun v w3 _ q => q) ?_
  refine And.intro (fun vs Rs w2 x hh hR_ h1 h2 => by
    obtain ⟨c1, e1, k1_⟩ := h1
    obtain ⟨c2, e2, k2_⟩ := h2
    refine OpT.buildE (E := encT) (R := rdS (fun k => w.heap.size ≤ k ∧ k < w37.heap.size) (fun k => Rs 50 k ∨ (Rs 51 k)) w2) (vs := [vs 50, vs 51]) (css := [c1, c2]) (l := [(tV 1), (tV 2)]) Tryz.zeroValue33 (.cons rfl (.cons rfl (.nil))) Tryz.underlying31 Tryz.sizeOf33 rfl (by simp [e1, e2, Value.cells]) (Reps.cons (VT.mono k1_ fun k hk => ⟨hk.1.imp id fun h => .inl h, hk.2⟩) (Reps.cons (VT.mono k2_ fun k hk => ⟨hk.1.imp id fun h => .inr (h), hk.2⟩) (Reps.nil _ _ _))) rfl rfl hh fun w3 g e x3 z3 o3 hh3 => ?_
    exact ⟨x3, _, _, rfl, by simp [lenOk], o3.sl.mono fun k hk => ⟨hk.1.elim (fun h => h.1.imp id fun h => h.elim .inl fun h => .inr (.inl h)) (fun h => .inr (.inr (.inr (⟨h, hk.2⟩)))), hk.2⟩⟩) ?_
  refine And.intro (fun vs Rs w2 x hh hR_ h1 h2 => flCall (A_d h1 h2) hh fun v w3 _ q => q) ?_
  refine And.intro (fun vs Rs w2 x hh hR_ h1 h2 => flCall (P_d h1 h2) hh fun v w3 _ q => q) ?_
  refine And.intro (fun vs Rs w2 x hh hR_ h1 h2 => flCall (P_d h1 h2) hh fun v w3 _ q => q) ?_
  refine And.intro (fun vs Rs w2 x hh hR_ h1 h2 => flCall (P_d h1 h2) hh fun v w3 _ q => q) ?_
  refine And.intro (fun vs Rs w2 x hh hR_ => ⟨Ext.refl _, flLoad kk37 (x38.trans x)⟩) ?_
  refine And.intro (fun vs Rs w2 x hh hR_ h1 h2 => by
    obtain ⟨c1, e1, k1_⟩ := h1
    have k1x := k1_
    obtain ⟨kt1, nt1, st1, lst1, tst1, lat1, lct1, tat1, tct1, q1_, rfl, hkt1, hnt1, hst1, hllt1, hltt1, hLt1, hTt1⟩ := k1_.inv
    obtain ⟨c2, e2, k2_⟩ := h2
    have k2x := k2_
    obtain ⟨kt2, nt2, st2, lst2, tst2, lat2, lct2, tat2, tct2, q2_, rfl, hkt2, hnt2, hst2, hllt2, hltt2, hLt2, hTt2⟩ := k2_.inv
    obtain ⟨vs', rfl⟩ := fl_at2 e1 e2
    exact ⟨Ext.refl _, _, rfl, _, _, _, _, rfl, k1x.mono fun k hk => ⟨hk.1.imp id fun h => .inl h, hk.2⟩, k2x.mono fun k hk => ⟨hk.1.imp id fun h => .inr (.inl h), hk.2⟩, Sl.nil _ _ _ _, by simp [lenOk, madI7], madI7_ok⟩) ?_
  refine And.intro (fun vs Rs w2 x hh hR_  => flCall (N_d) hh fun v w3 _ q => q) ?_
  refine And.intro (fun vs Rs w2 x hh hR_  => flCall (Num_d 2 (by omega)) hh fun v w3 _ q => q) ?_
  refine And.intro (fun vs Rs w2 x hh hR_ h1 h2 => by
    obtain ⟨c1, e1, k1_⟩ := h1
    have k1x := k1_
    obtain ⟨kt1, nt1, st1, lst1, tst1, lat1, lct1, tat1, tct1, q1_, rfl, hkt1, hnt1, hst1, hllt1, hltt1, hLt1, hTt1⟩ := k1_.inv
    obtain ⟨c2, e2, k2_⟩ := h2
    have k2x := k2_
    obtain ⟨kt2, nt2, st2, lst2, tst2, lat2, lct2, tat2, tct2, q2_, rfl, hkt2, hnt2, hst2, hllt2, hltt2, hLt2, hTt2⟩ := k2_.inv
    obtain ⟨vs', rfl⟩ := fl_at2 e1 e2
    exact ⟨Ext.refl _, _, rfl, _, _, _, _, rfl, k1x.mono fun k hk => ⟨hk.1.imp id fun h => .inl h, hk.2⟩, k2x.mono fun k hk => ⟨hk.1.imp id fun h => .inr (.inl h), hk.2⟩, Sl.nil _ _ _ _, by simp [lenOk, madI8], madI8_ok⟩) ?_
  refine And.intro (fun vs Rs w2 x hh hR_ h1 h2 h3 h4 h5 h6 h7 h8 h9 => by
    obtain ⟨c1, e1, k1_⟩ := h1
    obtain ⟨c2, e2, k2_⟩ := h2
    obtain ⟨c3, e3, k3_⟩ := h3
    obtain ⟨c4, e4, k4_⟩ := h4
    obtain ⟨c5, e5, k5_⟩ := h5
    obtain ⟨c6, e6, k6_⟩ := h6
    obtain ⟨c7, e7, k7_⟩ := h7
    obtain ⟨c8, e8, k8_⟩ := h8
    obtain ⟨c9, e9, k9_⟩ := h9
    refine OpT.buildE (E := encInf) (R := rdS (fun k => w.heap.size ≤ k ∧ k < w37.heap.size) (fun k => Rs 1 k ∨ (Rs 5 k ∨ (Rs 11 k ∨ (Rs 14 k ∨ (Rs 17 k ∨ (Rs 28 k ∨ (Rs 41 k ∨ (Rs 58 k ∨ (Rs 61 k))))))))) w2) (vs := [vs 1, vs 5, vs 11, vs 14, vs 17, vs 28, vs 41, vs 58, vs 61]) (css := [c1, c2, c3, c4, c5, c6, c7, c8, c9]) (l := [madI0, madI1, madI2, madI3, madI4, madI5, madI6, madI7, madI8]) Tryz.zeroValue36 (.cons rfl (.cons rfl (.cons rfl (.cons rfl (.cons rfl (.cons rfl (.cons rfl (.cons rfl (.cons rfl (.nil)))))))))) Tryz.underlying22 Tryz.sizeOf36 rfl (by simp [e1, e2, e3, e4, e5, e6, e7, e8, e9, Value.cells]) (Reps.cons (encInf.mono k1_ fun k hk => ⟨hk.1.imp id fun h => .inl h, hk.2⟩) (Reps.cons (encInf.mono k2_ fun k hk => ⟨hk.1.imp id fun h => .inr (.inl h), hk.2⟩) (Reps.cons (encInf.mono k3_ fun k hk => ⟨hk.1.imp id fun h => .inr (.inr (.inl h)), hk.2⟩) (Reps.cons (encInf.mono k4_ fun k hk => ⟨hk.1.imp id fun h => .inr (.inr (.inr (.inl h))), hk.2⟩) (Reps.cons (encInf.mono k5_ fun k hk => ⟨hk.1.imp id fun h => .inr (.inr (.inr (.inr (.inl h)))), hk.2⟩) (Reps.cons (encInf.mono k6_ fun k hk => ⟨hk.1.imp id fun h => .inr (.inr (.inr (.inr (.inr (.inl h))))), hk.2⟩) (Reps.cons (encInf.mono k7_ fun k hk => ⟨hk.1.imp id fun h => .inr (.inr (.inr (.inr (.inr (.inr (.inl h)))))), hk.2⟩) (Reps.cons (encInf.mono k8_ fun k hk => ⟨hk.1.imp id fun h => .inr (.inr (.inr (.inr (.inr (.inr (.inr (.inl h))))))), hk.2⟩) (Reps.cons (encInf.mono k9_ fun k hk => ⟨hk.1.imp id fun h => .inr (.inr (.inr (.inr (.inr (.inr (.inr (.inr (h)))))))), hk.2⟩) (Reps.nil _ _ _)))))))))) rfl rfl hh fun w3 g e x3 z3 o3 hh3 => ?_
    exact ⟨x3, _, _, rfl, (y38.trans x).size, o3.mono fun k hk => ⟨hk.1.imp id fun h => h.elim .inl fun h => .inr (h.elim .inl fun h => .inr (h.elim .inl fun h => .inr (h.elim .inl fun h => .inr (h.elim .inl fun h => .inr (h.elim .inl fun h => .inr (h.elim .inl fun h => .inr (h.elim .inl fun h => .inr (.inl h)))))))), hk.2⟩⟩) ?_
  intro vs Os w39 x39 hh39 hp hO hd
  have q39 := x39.size
  obtain ⟨A39, lo39, es39, hlo39, ho39⟩ : (DV.SI w.heap.size madL).rep _ _ _ _ := hp 62 (by omega)
  refine Exists.intro [] (Exists.intro _ (Exists.intro [.v (vs 0), .v (vs 1), .v (vs 2), .v (vs 3), .v (vs 4), .v (vs 5), .v (vs 6), .v (vs 7), .v (vs 8), .v (vs 9), .v (vs 10), .v (vs 11), .v (vs 12), .v (vs 13), .v (vs 14), .v (vs 15), .v (vs 16), .v (vs 17), .v (vs 18), .v (vs 19), .v (vs 20), .v (vs 21), .v (vs 22), .v (vs 23), .v (vs 24), .v (vs 25), .v (vs 26), .v (vs 27), .v (vs 28), .v (vs 29), .v (vs 30), .v (vs 31), .v (vs 32), .v (vs 33), .v (vs 34), .v (vs 35), .v (vs 36), .v (vs 37), .v (vs 38), .v (vs 39), .v (vs 40), .v (vs 41), .v (vs 42), .v (vs 43), .v (vs 44), .v (vs 45), .v (vs 46), .v (vs 47), .v (vs 48), .v (vs 49), .v (vs 50), .v (vs 51), .v (vs 52), .v (vs 53), .v (vs 54), .v (vs 55), .v (vs 56), .v (vs 57), .v (vs 58), .v (vs 59), .v (vs 60), .v (vs 61), .v (vs 62)] ⟨hh39, rfl, rfl, ?_⟩))
  have y39 : Ext w w39 := y38.trans x39
  exact ⟨y39, A39, _, es39, lo39, hlo39, ho39.mono fun k hk => ⟨hk.1.elim (fun h => h.1) fun ⟨q, _, hq⟩ => by have := (hO q k hq).1; have := y38.size; omega, hk.2⟩⟩
end Go.Proofs.YtfljbnhhkdaobaaGreat
