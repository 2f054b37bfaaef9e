/-
  RulesNumbers.
-/
import Derived.Test.YtfljbnhhkdaobaaGreatB5
import Derived.Test.YtfljbnhhkdaobaaGreatB6
import Derived.Test.YtfljbnhhkdaobaaGreatRows
import Derived.ProofKit
import Derived.SizedLaws
import Derived.ChangeMaps5
namespace Go.Proofs.YtfljbnhhkdaobaaGreat
open Go Go.RowKit Go.Proofs.Bw
set_option linter.unusedVariables false
set_option linter.unusedSimpArgs false
set_option maxHeartbeats 4000000 in
set_option maxRecDepth 20000 in
theorem numbers8_runs {R : Nat → Prop} (c z s : T) (cc cz cs : List Value) (n : Int) (hn : 0 ≤ n ∧ n ≤ 255) (w : World) (vc : VT w R cc c) (vz : VT w R cz z) (vs : VT w R cs s) : Runs Tryz.prog 7 #[.int .u8 n, .agg cc.toArray, .agg cz.toArray, .agg cs.toArray] w fun v w' => v = .bool true ∧ Ext w w' := by
  have vc0 := vc.small
  have vz0 := vz.small
  have vs0 := vs.small
  obtain ⟨kc, nc, sc, lsc, tsc, lac, lcc, tac, tcc, ec, rfl, hkc, hnc, hsc, hllc, hltc, hLc, hTc⟩ := vc.inv
  obtain ⟨kz, nz, sz, lsz, tsz, laz, lcz, taz, tcz, ez, rfl, hkz, hnz, hsz, hllz, hltz, hLz, hTz⟩ := vz.inv
  obtain ⟨ks, ns, ss, lss, tss, las, lcs, tas, tcs, es, rfl, hks, hns, hss, hlls, hlts, hLs, hTs⟩ := vs.inv
  refine Runs.of_vc (ρ := []) cx_ok [0, 1, 2, 3, 5, 6, 7, 8, 9, 10, 11, 12, 13, 14, 15, 16, 17, 18, 19, 21, 27, 63, 82, 97, 104, 137] [.v _, .a [.v (.int .u8 kc), .v (.int .i64 nc), .v (.string sc), .v (.slice lac lsc.length lcc), .v (.slice tac tsc.length tcc)], .a [.v (.int .u8 kz), .v (.int .i64 nz), .v (.string sz), .v (.slice laz lsz.length lcz), .v (.slice taz tsz.length tcz)], .a [.v (.int .u8 ks), .v (.int .i64 ns), .v (.string ss), .v (.slice las lss.length lcs), .v (.slice tas tss.length tcs)]] Tryz.func7 rfl rfl rfl (Holds.nil w) ?_
  intro g1 w1 e1 x1 z1 hh1
  intro g2 w2 e2 x2 z2 hh2
  intro g3 w3 e3 x3 z3 hh3
  have y3 := x1.trans (x2.trans x3)
  refine (Sample_runs w3 (fun _ => False) (fun _ h => h.elim)).mono ?_
  rintro _ w5 ⟨x5, e, m, A, cap, rfl, hE5⟩
  have hh5 := hh3.ext x5
  have z5 := x5.size
  have Y5 := y3.trans x5
  refine Lands.ret (s := .t [.v (.pointer (some ⟨e, 0, none⟩)), .v (.bool true)]) rfl rfl hh5 ?_
  refine Or.inl (And.intro (fun hx => nomatch (rfl).symm.trans hx) (fun _ => ?_))
  have in5 : ∀ k, R k ∧ k < w.heap.size → RdE w5 (fun _ => False) e m A k := fun k hk => ⟨⟨by have := hk.2; omega, id⟩, fun hm => by have := hE5.lt k hm; have := hk.2; omega⟩
  have vc5 := (VT.ext vc0 Y5).mono in5
  have vz5 := (VT.ext vz0 Y5).mono in5
  have vs5 := (VT.ext vs0 Y5).mono in5
  have dzc : isDeep c = false → size c ≤ 131072 := fun h => (isDeep_no h).1
  have dzz : isDeep z = false → size z ≤ 131072 := fun h => (isDeep_no h).1
  have dzs : isDeep s = false → size s ≤ 131072 := fun h => (isDeep_no h).1
  refine vDrw_mk [1, 4, 8, 12, 17, 22, 27, 29, 32] (.one 0 (.one 1 (.one 2 (.one 3 (.one 4 (.one 5 (.one 6 (.one 7 (.one 8 (.one 9 (.one 10 (.one 11 (.one 12 (.one 13 (.one 14 (.one 15 (.one 16 (.one 17 (.one 18 (.one 19 (.one 20 (.one 21 (.one 22 (.one 23 (.one 24 (.one 25 (.one 26 (.one 28 (.one 31 (.one 27 (.one 29 (.one 30 (.one 32 (.one 33 (.one 34 (.one 35 .nil)))))))))))))))))))))))))))))))))))) rfl fun w6 x6 hh6 => ?_
  refine vDrA [0, 1, 3, 7, 15, 31, 63, 127, 255, 511, 1023, 2047, 4095, 8191, 16383, 32767, 65535, 131071, 262143, 524287, 1048575, 2097151, 4194303, 8388607, 16777215, 33554431, 67108863, 134217727, 67108863, 536870911, 1073741823, 67108863, 3221225471, 8589934591, 17179869183, 34359738367] (by decide +kernel) ?_
  have z6 := x6.size
  refine vcZ (rDeep_runs c _ w6 _ (VT.re vc5 x6)) hh6 fun w7 x7 z7 hh7 => ?_
  refine Or.inl (Exists.intro (.bool (isDeep z)) (And.intro (fun _ => rDeep_runs _ _ w7 _ (VT.re vz5 (x6.trans x7))) (fun w8 x8 hh8 => ?_)))
  refine Or.inl (Exists.intro (.bool (isDeep s)) (And.intro (fun _ => rDeep_runs _ _ w8 _ (VT.re vs5 (x6.trans (x7.trans x8)))) (fun w9 x9 hh9 => ?_)))
  have x59 := x6.trans (x7.trans (x8.trans x9))
  refine Or.inl (Exists.intro (.bool (mayT c)) (And.intro (fun _ => rMay_runs _ _ w9 _ (VT.re vc5 x59)) (fun w10 x10 hh10 => ?_)))
  refine Or.inl (Exists.intro (.bool (mayT z)) (And.intro (fun _ => rMay_runs _ _ w10 _ (VT.re vz5 (x59.trans x10))) (fun w11 x11 hh11 => ?_)))
  refine Or.inl (Exists.intro (.bool (mayT s)) (And.intro (fun _ => rMay_runs _ _ w11 _ (VT.re vs5 (x59.trans (x10.trans x11)))) (fun w12 x12 hh12 => ?_)))
  have x512 := x59.trans (x10.trans (x11.trans x12))
  generalize isDeep c = d1 at *
  generalize isDeep z = d2 at *
  generalize isDeep s = d3 at *
  generalize hm1 : mayT c = m1 at *
  generalize hm2 : mayT z = m2 at *
  generalize hm3 : mayT s = m3 at *
  have hall : ∀ {b : Bool}, sel (sel (sel (sel (sel d1 true d2) true d3) true (!m1)) true (!m2)) true (!m3) = b → b = false → d1 = false ∧ d2 = false ∧ d3 = false ∧ m1 = true ∧ m2 = true ∧ m3 = true := by
    intro b h1 h2
    subst h2
    revert h1
    cases d1 <;> cases d2 <;> cases d3 <;> cases m1 <;> cases m2 <;> cases m3 <;> simp [sel]
  refine Or.inl (Exists.intro (.int .i64 (size c)) (And.intro (fun hp => rSize_runs _ _ w12 _ (VT.re vc5 x512) (by have := dzc (hall hp rfl).1; omega)) (fun w13 x13 hh13 => ?_)))
  refine And.intro x13 ?_
  refine Or.inl (Exists.intro (.int .i64 (size z)) (And.intro (fun hp => rSize_runs _ _ w13 _ (VT.re vz5 (x512.trans x13)) (by have := dzz (hall hp rfl).2.1; omega)) (fun w14 x14 hh14 => ?_)))
  refine And.intro x14 ?_
  refine And.intro (fun hp => by have h1 := dzc (hall hp rfl).1; have h2 := dzz (hall hp rfl).2.1; simp only [inKind]; omega) ?_
  refine Or.inl (Exists.intro (.int .i64 (size s)) (And.intro (fun hp => rSize_runs _ _ w14 _ (VT.re vs5 (x512.trans (x13.trans x14))) (by have := dzs (hall hp rfl).2.2.1; omega)) (fun w15 x15 hh15 => ?_)))
  refine And.intro x15 ?_
  refine And.intro (fun hp => by have h1 := dzc (hall hp rfl).1; have h2 := dzz (hall hp rfl).2.1; have h3 := dzs (hall hp rfl).2.2.1; simp only [inKind]; omega) ?_
  have x515 := x512.trans (x13.trans (x14.trans x15))
  have Y15 := Y5.trans x515
  have z15 := x515.size
  refine Or.inl (And.intro (fun h => ?_) (fun h => ?_))
  · refine vcZ (works8_runs w15) hh15 fun w16 x16 z16 hh16 => ?_
    exact ⟨rfl, Y15.trans x16⟩
  have hg : d1 = false ∧ d2 = false ∧ d3 = false ∧ m1 = true ∧ m2 = true ∧ m3 = true := by
    revert h
    cases d1 <;> cases d2 <;> cases d3 <;> cases m1 <;> cases m2 <;> cases m3 <;> simp [sel]
  have hsz : size c + size z + size s ≤ 1000 := by
    obtain ⟨rfl, rfl, rfl, rfl, rfl, rfl⟩ := hg
    simp [sel] at h
    omega
  obtain ⟨-, -, -, rfl, rfl, rfl⟩ := hg
  clear hall dzc dzz dzs
  have hmr : ∀ {w' : World} (x : Ext w15 w') (k : Nat), w15.heap.size ≤ k ∧ k < w'.heap.size → RdE w' (fun _ => False) e m A k := fun x k hk => RdE.new (hE5.ext x515) (fun _ h => h.elim) k hk.1 hk.2
  obtain ⟨k, hk⟩ : ∃ k : Nat, n % 100 = k := ⟨(n % 100).toNat, by omega⟩
  refine vsd (by simp only [inKind]; omega) ?_
  refine vsd (by omega) ?_
  rw [hk]
  have y15 : Ext w15 w15 := Ext.refl _
  refine (Lev_runs 3 w15).mono ?_
  rintro _ w16 ⟨rfl, x16⟩
  have hh16 := hh15.ext x16
  have z16 := x16.size
  refine Lands.ret (s := .a [.v (.int .i64 (levN 3).c), .v (.int .i64 (levN 3).p0), .v (.int .i64 (levN 3).p1), .v (.int .i64 (levN 3).p2), .v (.int .i64 (levN 3).p3)]) rfl rfl hh16 ?_
  have y16 : Ext w15 w16 := y15.trans x16
  refine OpT.buildE (E := encL) (R := (fun _ => False)) (vs := [_]) (l := [levN 3]) Tryz.zeroValue63 (.cons rfl (.nil)) Tryz.underlying30 Tryz.sizeOf63 rfl rfl (Reps.cons (⟨rfl, levN_wf (by simp [i64ok])⟩) (Reps.nil _ _ _)) rfl rfl hh16 fun w17 g17 e17 x17 z17 o17 hh17 => ?_
  have y17 : Ext w15 w17 := y16.trans x17
  refine (Co_runs (lo := w15.heap.size) w17 y17.size (R := _) sN__rec (by decide) _ [(levN 3)] 1 (by simp [lenOk]) (fun k hk => by rcases hk.1 with h | h; exact h.elim; have := y16.size; omega) o17.sl).mono ?_
  rintro _ w18 ⟨x18, cs18, rfl, h18⟩
  have hh18 := hh17.ext x18
  have z18 := x18.size
  have k18 : VX w15.heap.size w18 _ (tCo sN__rec [(levN 3)]) := h18
  obtain ⟨ks18, ns18, ss18, lss18, tss18, las18, lcs18, tas18, tcs18, e18, rfl, hks18, hns18, hss18, hlls18, hlts18, hLs18, hTs18⟩ := h18.inv
  refine Lands.ret (s := .a [.v (.int .u8 ks18), .v (.int .i64 ns18), .v (.string ss18), .v (.slice las18 lss18.length lcs18), .v (.slice tas18 tss18.length tcs18)]) rfl rfl hh18 ?_
  have y18 : Ext w15 w18 := y17.trans x18
  intro g19 w19 e19 x19 z19 hh19; intro w20 m20 z20 hh20; replace m20 : Upd g19 w19 w20 := m20; have x20 : Ext w18 w20 := x19.upd m20 (by omega); have q20 := x20.size
  have y20 : Ext w15 w20 := y18.trans x20
  replace k18 := VX.ext k18 x20
  refine (Num_runs (lo := w15.heap.size) w20 y20.size k (by omega)).mono ?_
  rintro _ w21 ⟨x21, cs21, rfl, h21⟩
  have hh21 := hh20.ext x21
  have z21 := x21.size
  have k21 : VX w15.heap.size w21 _ (tNum k) := h21
  obtain ⟨ks21, ns21, ss21, lss21, tss21, las21, lcs21, tas21, tcs21, e21, rfl, hks21, hns21, hss21, hlls21, hlts21, hLs21, hTs21⟩ := h21.inv
  refine Lands.ret (s := .a [.v (.int .u8 ks21), .v (.int .i64 ns21), .v (.string ss21), .v (.slice las21 lss21.length lcs21), .v (.slice tas21 tss21.length tcs21)]) rfl rfl hh21 ?_
  have y21 : Ext w15 w21 := y20.trans x21
  replace k18 := VX.ext k18 x21
  intro g22 w22 e22 x22 z22 hh22; intro w23 m23 z23 hh23; replace m23 : Upd g22 w22 w23 := m23; have x23 : Ext w21 w23 := x22.upd m23 (by omega); have q23 := x23.size
  have y23 : Ext w15 w23 := y21.trans x23
  replace k18 := VX.ext k18 x23
  replace k21 := VX.ext k21 x23
  have hE23 := hE5.ext (x515.trans y23)
  have hX23 : ∀ k, False → k < w23.heap.size := fun _ h => h.elim
  have rc23 := VT.mono k18 (hmr y23)
  have nm23 := VT.mono k21 (hmr y23)
  have vc23 := VT.re vc5 (x515.trans y23)
  have vz23 := VT.re vz5 (x515.trans y23)
  have vs23 := VT.re vs5 (x515.trans y23)
  refine OpT.buildE (E := encT) (R := (RdE w23 (fun _ => False) e m A)) (vs := [_, _, _, _]) (l := [c, z, s, tNum k]) Tryz.zeroValue33 (.cons rfl (.cons rfl (.cons rfl (.cons rfl (.nil))))) Tryz.underlying31 Tryz.sizeOf33 rfl rfl (Reps.cons vc23 (Reps.cons vz23 (Reps.cons vs23 (Reps.cons nm23 (Reps.nil _ _ _))))) rfl rfl hh23 fun w24 g24 e24 x24 z24 o24 hh24 => ?_
  have hE24 := hE23.ext x24
  have hX24 : ∀ k, False → k < w24.heap.size := fun _ h => h.elim
  refine (A_r (R := RdE w24 (fun _ => False) e m A) (tCo sN__rec [levN 3]) _ _ [c, z, s, tNum k] 4 w24 (VT.re rc23 x24) (o24.sl.mono fun k hk => ?_) RdE.lt (by simp [lenOk])).mono ?_
  · rcases hk.1 with h | h
    · exact RdE.ext x24 k h
    · exact RdE.new hE23 hX23 k h hk.2
  rintro _ w25 ⟨x25, ct, rfl, ht⟩
  have hh25 := hh24.ext x25
  have z25 := x25.size
  have ht0 := ht.mono (RdE.nw hE24 hX24 x25)
  obtain ⟨kt, nt, st, lst, tst, lat, lct, tat, tct, et, rfl, hkt, hnt, hst, hllt, hltt, hLt, hTt⟩ := ht.inv
  refine Lands.ret (s := .a [.v (.int .u8 kt), .v (.int .i64 nt), .v (.string st), .v (.slice lat lst.length lct), .v (.slice tat tst.length tct)]) rfl rfl hh25 ?_
  intro g26 w26 e26 x26 z26 hh26; intro w27 m27 z27 hh27; replace m27 : Upd g26 w26 w27 := m27; have x27 : Ext w25 w27 := x26.upd m27 (by omega); have q27 := x27.size
  have x2327 := x24.trans (x25.trans x27)
  have hE27 := hE23.ext x2327
  have hX27 : ∀ k, False → k < w27.heap.size := fun _ h => h.elim
  have ht27 : VT w27 (RdE w27 (fun _ => False) e m A) _ (tRecN c z s k) := VT.re ht0 x27
  refine vcZ (rMay_runs _ _ w27 _ ht27) hh27 fun w28 x28 z28 hh28 => ?_
  generalize hM : mayT (tRecN c z s k) = mt at *
  have Y28 := Y15.trans (y23.trans (x2327.trans x28))
  refine Or.inl (And.intro (fun h => ?_) (fun h => ?_))
  · refine vcZ (works8_runs w28) hh28 fun w29 x29 z29 hh29 => ?_
    exact ⟨rfl, Y28.trans x29⟩
  have hmt : mt = true := by simpa using h
  subst hmt
  obtain ⟨V, hVk, hio, hmV⟩ := iot_num (k := k) (by omega) hM hsz
  refine (Iota_runs e m A cap SL (tRecN c z s k) (tNum k) _ _ w28 (hE27.ext x28) (fun _ h => h.elim) (VT.re ht27 x28) (VT.re nm23 (x2327.trans x28)) SL_nok).mono ?_
  rintro _ w29 ⟨x29, ⟨cr, rfl, hr⟩⟩
  rw [hio] at hr ⊢
  have hh29 := hh28.ext x29
  have z29 := x29.size
  generalize hP : apT V (nuL c z s k) = P at *
  have hr0 := hr
  obtain ⟨kp, np, sp, lsp, tsp, lap, lcp, tap, tcp, ep, rfl, hkp, hnp, hsp, hllp, hltp, hLp, hTp⟩ := hr.inv
  refine Lands.ret (s := .t [.a [.v (.int .u8 kp), .v (.int .i64 np), .v (.string sp), .v (.slice lap lsp.length lcp), .v (.slice tap tsp.length tcp)], .v (.int .i64 0)]) rfl rfl hh29 ?_
  intro g30 w30 e30 x30 z30 hh30; intro w31 m31 z31 hh31; replace m31 : Upd g30 w30 w31 := m31; have x31 : Ext w29 w31 := x30.upd m31 (by omega); have q31 := x31.size
  refine vyes rfl ?_
  have hr31 := VT.re hr0 x31
  refine vcZ (rMay_runs _ _ w31 _ hr31) hh31 fun w32 x32 z32 hh32 => ?_
  rw [hmV]
  refine Or.inl (And.intro (fun hx => nomatch (rfl).symm.trans hx) (fun _ => ?_))
  refine (rSpine_r P _ _ w32 (VT.re hr31 x32) (may_nodes hmV) (Nat.le_trans (may_size hmV) (by omega)) RdE.lt).mono ?_
  rintro _ w33 ⟨x33, ch, Al, cl, los, rfl, hhd, hlo, ho⟩
  have hhP : head P = V := by rw [← hP, head_apT]; exact (T_k (by omega)).1
  have hsP : spArgs P = nuL c z s k := by rw [← hP, spArgs_apT, (T_k (t := V) (by omega)).2]; rfl
  rw [hhP] at hhd
  rw [hsP] at ho ⊢
  have hh33 := hh32.ext x33
  have z33 := x33.size
  obtain ⟨kv, nv, sv, lsv, tsv, lav, lcv, tav, tcv, ev, rfl, hkv, hnv, hsv, hllv, hltv, hLv, hTv⟩ := hhd.inv
  have hkv : kv = 5 := by rw [← hVk, ev]; rfl
  subst hkv
  refine Lands.ret (s := .t [.a [.v (.int .u8 5), .v (.int .i64 nv), .v (.string sv), .v (.slice lav lsv.length lcv), .v (.slice tav tsv.length tcv)], .v (.slice Al (nuL c z s k).length cl)]) rfl rfl hh33 ?_
  intro g34 w34 e34 x34 z34 hh34; intro w35 m35 z35 hh35; replace m35 : Upd g34 w34 w35 := m35; have x35 : Ext w33 w35 := x34.upd m35 (by omega); have q35 := x35.size
  have hnl : 3 ≤ (nuL c z s k).length := by cases k <;> simp [nuL]
  have hnk : (bif decide (0 < (k : Int)) then 4 else 3 : Int) = (nuL c z s k).length := by cases k <;> simp [nuL]
  have x2835 : Ext w28 w35 := x29.trans (x31.trans (x32.trans (x33.trans x35)))
  refine vDrw_mk [14, 22, 30] (.one 0 (.one 1 (.one 2 (.one 3 (.one 4 (.one 5 (.one 6 (.one 7 (.one 8 (.one 9 (.one 10 (.one 11 (.one 12 (.one 13 (.one 14 (.one 15 (.one 16 (.one 17 (.one 18 (.one 19 (.one 20 (.one 21 (.one 22 (.one 23 (.one 24 (.one 25 (.one 26 (.one 27 (.one 28 (.one 29 (.one 30 (.one 31 (.one 32 .nil))))))))))))))))))))))))))))))))) rfl fun w37 x37 hh37 => ?_
  refine vDrA [0, 1, 3, 7, 15, 31, 15, 127, 255, 511, 1023, 2047, 4095, 1023, 16383, 32767, 65535, 131071, 262143, 524287, 1048575, 262143, 4194303, 8388607, 16777215, 33554431, 67108863, 134217727, 268435455, 67108863, 1073741823, 2147483647, 4294967295] (by decide +kernel) ?_
  have z37 := x37.size
  have x3337 := x35.trans x37
  have x537 := x515.trans (y23.trans (x2327.trans (x28.trans (x2835.trans x37))))
  obtain ⟨a0, cs0, ha0, -, hrow0, hv0⟩ := (ho.sl.ext x3337).at (i := 0) (by omega)
  replace hv0 : VT w37 _ cs0 (nuL c z s k)[0] := hv0
  rw [show (nuL c z s k)[0] = c from by cases k <;> rfl] at hv0
  have hw0 := hv0
  obtain ⟨kf0, nf0, sf0, lsf0, tsf0, laf0, lcf0, taf0, tcf0, ef0, rfl, hkf0, hnf0, hsf0, hllf0, hltf0, hLf0, hTf0⟩ := hv0.inv
  obtain ⟨a1, cs1, ha1, -, hrow1, hv1⟩ := (ho.sl.ext x3337).at (i := 1) (by omega)
  replace hv1 : VT w37 _ cs1 (nuL c z s k)[1] := hv1
  rw [show (nuL c z s k)[1] = z from by cases k <;> rfl] at hv1
  have hw1 := hv1
  obtain ⟨kf1, nf1, sf1, lsf1, tsf1, laf1, lcf1, taf1, tcf1, ef1, rfl, hkf1, hnf1, hsf1, hllf1, hltf1, hLf1, hTf1⟩ := hv1.inv
  obtain ⟨a2, cs2, ha2, -, hrow2, hv2⟩ := (ho.sl.ext x3337).at (i := 2) (by omega)
  replace hv2 : VT w37 _ cs2 (nuL c z s k)[2] := hv2
  rw [show (nuL c z s k)[2] = s from by cases k <;> rfl] at hv2
  have hw2 := hv2
  obtain ⟨kf2, nf2, sf2, lsf2, tsf2, laf2, lcf2, taf2, tcf2, ef2, rfl, hkf2, hnf2, hsf2, hllf2, hltf2, hLf2, hTf2⟩ := hv2.inv
  refine Exists.intro (.v (.pointer (some (a0.add (0 * 5))))) (And.intro rfl (And.intro (fun w' xx hh _ => OpT.indexAddr Tryz.underlying31 Tryz.sizeOf33 rfl rfl ha0 (by simp only [lenOk] at *; omega) ⟨rfl, rfl⟩) ?_))
  refine Exists.intro (.a [.v (.int .u8 kf0), .v (.int .i64 nf0), .v (.string sf0), .v (.slice laf0 lsf0.length lcf0), .v (.slice taf0 tsf0.length tcf0)]) (And.intro rfl (And.intro (fun w' xx hh _ => OpT.loadA Tryz.isAgg33 (by exact Tryz.sizeOf33) rfl ((hrow0).ext xx) ⟨rfl, rfl⟩) ?_))
  refine Or.inl (Exists.intro (.bool true) (And.intro (fun _ => ?_) (fun w40 x40 hh40 => ?_)))
  · have := rSame_runs c c _ _ w37 _ _ (hw0) (VT.re vc5 x537)
    rw [sameB_refl] at this
    exact this
  have x3740 := x40
  refine Exists.intro (.v (.pointer (some (a1.add (1 * 5))))) (And.intro rfl (And.intro (fun w' xx hh _ => OpT.indexAddr Tryz.underlying31 Tryz.sizeOf33 rfl rfl ha1 (by simp only [lenOk] at *; omega) ⟨rfl, rfl⟩) ?_))
  refine Exists.intro (.a [.v (.int .u8 kf1), .v (.int .i64 nf1), .v (.string sf1), .v (.slice laf1 lsf1.length lcf1), .v (.slice taf1 tsf1.length tcf1)]) (And.intro rfl (And.intro (fun w' xx hh _ => OpT.loadA Tryz.isAgg33 (by exact Tryz.sizeOf33) rfl ((hrow1.ext x3740).ext xx) ⟨rfl, rfl⟩) ?_))
  refine Or.inl (Exists.intro (.bool true) (And.intro (fun _ => ?_) (fun w41 x41 hh41 => ?_)))
  · have := rSame_runs z z _ _ w40 _ _ (hw1.ext x3740) (VT.re vz5 (x537.trans x3740))
    rw [sameB_refl] at this
    exact this
  have x3741 := x40.trans x41
  refine Exists.intro (.v (.pointer (some (a2.add (2 * 5))))) (And.intro rfl (And.intro (fun w' xx hh _ => OpT.indexAddr Tryz.underlying31 Tryz.sizeOf33 rfl rfl ha2 (by simp only [lenOk] at *; omega) ⟨rfl, rfl⟩) ?_))
  refine Exists.intro (.a [.v (.int .u8 kf2), .v (.int .i64 nf2), .v (.string sf2), .v (.slice laf2 lsf2.length lcf2), .v (.slice taf2 tsf2.length tcf2)]) (And.intro rfl (And.intro (fun w' xx hh _ => OpT.loadA Tryz.isAgg33 (by exact Tryz.sizeOf33) rfl ((hrow2.ext x3741).ext xx) ⟨rfl, rfl⟩) ?_))
  refine Or.inl (Exists.intro (.bool true) (And.intro (fun _ => ?_) (fun w42 x42 hh42 => ?_)))
  · have := rSame_runs s s _ _ w41 _ _ (hw2.ext x3741) (VT.re vs5 (x537.trans x3741))
    rw [sameB_refl] at this
    exact this
  refine Or.inl (And.intro (fun h => ?_) (fun h => ?_))
  · rw [hnk] at h
    simp [sel] at h
  clear h
  have x3742 := x3741.trans x42
  have x542 := x537.trans x3742
  have hE42 := hE5.ext x542
  have hX42 : ∀ k, False → k < w42.heap.size := fun _ h => h.elim
  have x2742 := x28.trans (x2835.trans (x37.trans x3742))
  have ht42 := VT.re ht27 x2742
  have nm42 := VT.re nm23 (x2327.trans x2742)
  have y42 : Ext w42 w42 := Ext.refl _
  refine vFlow_mk 12 (RdE w42 (fun _ => False) e m A) [dEq (.pointer (some ⟨e, 0, none⟩)), .T (tRecN c z s k), .T (tCo sN__succ []), .T (tNum k), .T (tNum k), .ST [(tNum k), (tNum k)], .T (apT (tCo sN__succ []) [(tNum k), (tNum k)]), dTI (RdE w42 (fun _ => False) e m A) (iot SL (tRecN c z s k) (apT (tCo sN__succ []) [(tNum k), (tNum k)])).1 (iot SL (tRecN c z s k) (apT (tCo sN__succ []) [(tNum k), (tNum k)])).2, dTI (RdE w42 (fun _ => False) e m A) (iot SL (tRecN c z s k) (apT (tCo sN__succ []) [(tNum k), (tNum k)])).1 (iot SL (tRecN c z s k) (apT (tCo sN__succ []) [(tNum k), (tNum k)])).2, .T (iot SL (tRecN c z s k) (apT (tCo sN__succ []) [(tNum k), (tNum k)])).1, dEq (.int .i64 (iot SL (tRecN c z s k) (apT (tCo sN__succ []) [(tNum k), (tNum k)])).2), .A] rfl fun w43 x43 z43 hh43 => ?_
  refine And.intro (fun vs Rs w2 x hh hR_  => ⟨Ext.refl _, rfl⟩) ?_
  refine And.intro (fun vs Rs w2 x hh hR_  => ⟨Ext.refl _, flLoadE ht42 (x43.trans x) RdE.lt⟩) ?_
  refine And.intro (fun vs Rs w2 x hh hR_  => flCall (Co0_d sN__succ (by decide)) hh fun v w3 _ q => DV.mono (R' := fun k => w2.heap.size ≤ k ∧ k < w3.heap.size) _ (fun k h => h) (Ext.refl _) q) ?_
  refine And.intro (fun vs Rs w2 x hh hR_  => ⟨Ext.refl _, flLoadE nm42 (x43.trans x) RdE.lt⟩) ?_
  refine And.intro (fun vs Rs w2 x hh hR_  => ⟨Ext.refl _, flLoadE nm42 (x43.trans x) RdE.lt⟩) ?_
  refine And.intro (fun vs Rs w2 x hh hR_ h1 h2 => by
      obtain ⟨c1, e1, k1_⟩ := h1
      obtain ⟨c2, e2, k2_⟩ := h2
      refine OpT.buildE (E := encT) (R := rdS (RdE w42 (fun _ => False) e m A) (fun k => Rs 3 k ∨ (Rs 4 k)) w2) (vs := [vs 3, vs 4]) (css := [c1, c2]) (l := [(tNum k), (tNum k)]) Tryz.zeroValue33 (.cons rfl (.cons rfl (.nil))) Tryz.underlying31 Tryz.sizeOf33 rfl (by simp [e1, e2, Value.cells]) (Reps.cons (VT.mono k1_ fun k hk => ⟨hk.1.imp id fun h => .inl h, hk.2⟩) (Reps.cons (VT.mono k2_ fun k hk => ⟨hk.1.imp id fun h => .inr (h), hk.2⟩) (Reps.nil _ _ _))) rfl rfl hh fun w3 g e x3 z3 o3 hh3 => ?_
      exact ⟨x3, _, _, rfl, by simp [lenOk], o3.sl.mono fun k hk => ⟨hk.1.elim (fun h => h.1.imp id fun h => h.elim .inl fun h => .inr (.inl h)) (fun h => .inr (.inr (.inr (⟨h, hk.2⟩)))), hk.2⟩⟩) ?_
  refine And.intro (fun vs Rs w2 x hh hR_ h1 h2 => flCall (A_d h1 h2) hh fun v w3 _ q => DV.mono (R' := fun k => Rs 2 k ∨ (Rs 5 k ∨ (w2.heap.size ≤ k ∧ k < w3.heap.size))) _ (fun k => fun h => h.elim (fun h => .inl h) (fun h => h.elim (fun h => .inr (.inl h)) (fun h => .inr (.inr (h))))) (Ext.refl _) q) ?_
  refine And.intro (fun vs Rs w2 x hh hR_ h1 h2 h3 => flCall (Iota_d hE42 hX42 SL_nok (x43.trans x) (fun k h => by have := hR_ _ k h; omega) (fun k h => by have := hR_ _ k h; omega) h1 h2 h3) hh fun v w3 _ q => DV.mono (R' := fun k => Rs 0 k ∨ (Rs 1 k ∨ (Rs 6 k ∨ (w2.heap.size ≤ k ∧ k < w3.heap.size)))) _ (fun k => fun h => h.elim (fun h => .inr (.inl h)) (fun h => h.elim (fun h => .inr (.inr (.inl h))) (fun h => .inr (.inr (.inr (h)))))) (Ext.refl _) q) ?_
  refine And.intro (fun vs Rs w2 x hh hR_ h1 => ⟨Ext.refl _, DV.mono _ (fun k h => .inl h) (Ext.refl _) h1⟩) ?_
  refine And.intro (fun vs Rs w2 x hh hR_ h1 => by
      obtain ⟨cr, e4, k4_⟩ := h1
      obtain ⟨vs', rfl⟩ := fl_at e4
      exact ⟨Ext.refl _, cr, rfl, k4_.mono fun k hk => ⟨hk.1.imp id .inl, hk.2⟩⟩) ?_
  refine And.intro (fun vs Rs w2 x hh hR_ h1 => by
      obtain ⟨cr, e4, k4_⟩ := h1
      obtain ⟨vs', rfl⟩ := fl_at e4
      exact ⟨Ext.refl _, rfl⟩) ?_
  refine And.intro (fun vs Rs w2 x hh hR_  => by
      intro g w3 e x3 z3 hh3
      exact ⟨x3, g, rfl, ⟨by omega, by omega⟩, hh3.box 8 _ rfl⟩) ?_
  intro vs Os w44 x44 hh44 hp hO hd
  have q44 := x44.size
  have p44 : (DV.T (iot SL (tRecN c z s k) (apT (tCo sN__succ []) [(tNum k), (tNum k)])).1).rep _ _ _ _ := hp 9 (by omega)
  have pe44_10 : vs 10 = (.int .i64 (iot SL (tRecN c z s k) (apT (tCo sN__succ []) [(tNum k), (tNum k)])).2) := hp 10 (by omega)
  have pa44 : DV.A.rep _ _ _ _ := hp 11 (by omega)
  obtain ⟨cs44, es44, h44⟩ := p44
  obtain ⟨g44, eg44, hg44, bg44⟩ := pa44
  replace hg44 := flCum_own (by rfl) hg44
  have gO44 := hO _ _ hg44
  have h44x := h44
  obtain ⟨ks44, ns44, ss44, lss44, tss44, las44, lcs44, tas44, tcs44, e44, rfl, hks44, hns44, hss44, hlls44, hlts44, hLs44, hTs44⟩ := h44.inv
  rw [show (iot SL (tRecN c z s k) (apT (tCo sN__succ []) [tNum k, tNum k])).2 = 6 from iot_numB (k := k) (by omega) hM] at pe44_10
  generalize (iot SL (tRecN c z s k) (apT (tCo sN__succ []) [tNum k, tNum k])).1 = I at *
  refine Exists.intro [g44] (Exists.intro _ (Exists.intro [.v (vs 0), .v (vs 1), .v (vs 2), .v (vs 3), .v (vs 4), .v (vs 5), .v (vs 6), .v (vs 7), .v (vs 8), .a [.v (.int .u8 ks44), .v (.int .i64 ns44), .v (.string ss44), .v (.slice las44 lss44.length lcs44), .v (.slice tas44 tss44.length tcs44)], .v (.int .i64 6), .p 8 0] ⟨Holds.add hh44 (c := [.v (.int .u8 0), .v (.int .i64 0), .v (.string noS), .v (.slice none 0 0), .v (.slice none 0 0)]) (fun i hi he => by have := hh43.lt i hi; omega) gO44.2 bg44 rfl, rfl, by rw [show (List.range 12).map vs = [vs 0, vs 1, vs 2, vs 3, vs 4, vs 5, vs 6, vs 7, vs 8, vs 9, vs 10, vs 11] from rfl, eg44, es44, pe44_10]; rfl, ?_⟩))
  intro w45 m45 z45 hh45
  replace m45 : Upd g44 w44 w45 := m45
  have q45 := m45.size
  have x42_45 : Ext w42 w45 := x43.trans (x44.upd m45 (by omega))
  have k45 : VT w45 (RdE w45 (fun _ => False) e m A) _ _ := (flStoredE h44x m45 (flCum_no (s := 9) (A := 11) (by decide) (by rfl) hd hg44) (fun hb => by have := hb.1.1; omega)).mono fun k hk => by
    rcases hk.1 with h | ⟨q, _, hq⟩
    · exact RdE.ext x42_45 k h
    · have := hO q k hq; exact RdE.new hE42 hX42 k (by omega) (by omega)
  have y45 : Ext w42 w45 := y42.trans x42_45
  have x545 := x542.trans x42_45
  have y45w : Ext w w45 := Y5.trans x545
  have e6 : rdS = rdS := rfl
  refine vDrw_mk [8, 9, 16] (.one 0 (.one 1 (.one 2 (.one 3 (.one 4 (.one 5 (.one 6 (.one 7 (.one 8 (.one 9 (.one 10 (.one 11 (.one 12 (.one 13 (.one 14 (.one 15 (.one 16 (.one 17 (.one 18 .nil))))))))))))))))))) rfl fun w46 x46 hh46 => ?_
  refine vDrA [0, 1, 3, 7, 15, 31, 7, 71, 199, 511, 1023, 2047, 4095, 8191, 16383, 32767, 65535, 131071, 262143] (by decide +kernel) ?_
  have z46 := x46.size
  cases k with
  | zero =>
    refine Exists.intro (.v (.pointer none)) (And.intro rfl (And.intro (fun w' xx hh h => nomatch h) ?_))
    refine Exists.intro (.v (.pointer none)) (And.intro rfl (And.intro (fun w' xx hh h => nomatch h) ?_))
    refine And.intro (fun h => nomatch h) ?_
    refine vskip rfl ?_
    refine And.intro (Ext.refl _) ?_
    refine vskip rfl ?_
    refine Exists.intro (.v (.bool true)) (And.intro rfl (And.intro (fun w' xx hh => OpT.pickT rfl rfl rfl ⟨rfl, rfl⟩) ?_))
    refine vyes rfl ?_
    refine vcZ (works8_runs w46) hh46 fun w47 x47 z47 hh47 => ?_
    exact ⟨rfl, (y45w.trans x46).trans x47⟩
  | succ j =>
    have x3746 : Ext w33 w46 := x3337.trans (x3742.trans (x42_45.trans x46))
    obtain ⟨a3, cs3, ha3, -, hrow3, hv3⟩ := (ho.sl.ext x3746).at (i := 3) (by simp [nuL])
    replace hv3 : VT w46 _ cs3 (tNum j) := hv3
    have hw3 := hv3
    obtain ⟨kf3, nf3, sf3, lsf3, tsf3, laf3, lcf3, taf3, tcf3, ef3, rfl, hkf3, hnf3, hsf3, hllf3, hltf3, hLf3, hTf3⟩ := hv3.inv
    refine Exists.intro (.v (.pointer (some (a3.add (3 * 5))))) (And.intro rfl (And.intro (fun w' xx hh _ => OpT.indexAddr Tryz.underlying31 Tryz.sizeOf33 rfl rfl ha3 (by simp [nuL]) ⟨rfl, rfl⟩) ?_))
    refine Exists.intro (.a [.v (.int .u8 kf3), .v (.int .i64 nf3), .v (.string sf3), .v (.slice laf3 lsf3.length lcf3), .v (.slice taf3 tsf3.length tcf3)]) (And.intro rfl (And.intro (fun w' xx hh _ => OpT.loadA Tryz.isAgg33 (by exact Tryz.sizeOf33) rfl (hrow3.ext xx) ⟨rfl, rfl⟩) ?_))
    refine And.intro (fun h => by simp only [inKind]; omega) ?_
    rw [show ((j + 1 : Nat) : Int) - 1 = (j : Int) by omega]
    refine vyes rfl ?_
    refine (Num_runs (lo := w46.heap.size) w46 (Nat.le_refl _) j (by omega)).mono ?_
    rintro _ w47 ⟨x47, cs47, rfl, h47⟩
    have hh47 := hh46.ext x47
    have z47 := x47.size
    have k47 : VX w46.heap.size w47 _ (tNum j) := h47
    obtain ⟨ks47, ns47, ss47, lss47, tss47, las47, lcs47, tas47, tcs47, e47, rfl, hks47, hns47, hss47, hlls47, hlts47, hLs47, hTs47⟩ := h47.inv
    refine Lands.ret (s := .a [.v (.int .u8 ks47), .v (.int .i64 ns47), .v (.string ss47), .v (.slice las47 lss47.length lcs47), .v (.slice tas47 tss47.length tcs47)]) rfl rfl hh47 ?_
    refine And.intro x47 ?_
    refine vyes rfl ?_
    refine vcZ (rSame_runs (tNum j) (tNum j) _ _ w47 _ _ (VT.ext hw3 x47) k47) hh47 fun w48 x48 z48 hh48 => ?_
    rw [sameB_refl]
    refine vyes rfl ?_
    refine vcZ (works8_runs w48) hh48 fun w49 x49 z49 hh49 => ?_
    exact ⟨rfl, (((y45w.trans x46).trans x47).trans x48).trans x49⟩
end Go.Proofs.YtfljbnhhkdaobaaGreat

/-
  The row of RulesNumbers: true for every input.
-/
namespace Go.Proofs.YtfljbnhhkdaobaaGreat
open Go Go.ChangeMaps Go.ChangeShapes Go.WideShapes Go.ChangeAt Go.RowKit Go.Proofs.Bw
theorem Tryz.own : ownKnob Tryz.prog.godebug = none := by kernel_rfl
theorem Tryz.laidOut : laidOutB Tryz.prog = true := by kernel_rfl
set_option maxRecDepth 100000 in
theorem numbers_lifted (os : Os) (started : os.Started) (H : Type) (enc : TypeId × Value → H) :
    ReturnsInHanded {} Tryz.checked os 7 .any (Rows.rulesNumbersSpec.pre6 enc Tryz.prog Tryz.f7 Rows.rulesNumbersRow.domain false) (Rows.rulesNumbersSpec.post enc Tryz.prog Tryz.f7 false true false false) := by
  refine returnsInHanded_of_change_sized (C := Tryz.checked) Tryz.own started (by kernel_rfl) Tryz.func7
    (ChangeSpec.witness6 (enc := enc) (C := Tryz.checked) false ⟨#[], #[.int .u8 0, .agg #[.int .u8 0, .int .i64 0, .string ⟨#[]⟩, .slice none 0 0, .slice none 0 0], .agg #[.int .u8 0, .int .i64 0, .string ⟨#[]⟩, .slice none 0 0, .slice none 0 0], .agg #[.int .u8 0, .int .i64 0, .string ⟨#[]⟩, .slice none 0 0, .slice none 0 0]], []⟩ 8 (by kernel_rfl) (by kernel_rfl) (by kernel_rfl) (by kernel_rfl)) ?_
  intro W base args ds gs before hval0 hW hcnd hsz0 _
  have hval : ∀ (j : Nat) t v, Tryz.f7.params[j]? = some t → args[j]? = some v → Value.okWide Tryz.prog W .any base t v := hval0
  have hW' := hW
  obtain ⟨p, q, hA0, hV, rfl, hfz, hnd⟩ := hW
  have hA : DataW.TrodAll enc Tryz.prog W 0 (fun _ => true) true Tryz.f7.params.toList args.toList ds p := hA0
  have hsz : (DataW.weightsEach Tryz.prog (Tryz.f7.params.toList ++ Rows.rulesNumbersSpec.plain.varTypes Tryz.prog) (ds ++ gs)).all (· ≤ reachBytes) = true := hsz0
  rw [Tryz.params7] at hA hval hsz
  obtain ⟨v0, v1, v2, v3, d0, d1, d2, d3, p0, p1, p2, p3, rfl, rfl, rfl, h0, h1, h2, h3⟩ := trodAll_four hA
  obtain ⟨rfl, rfl⟩ := trodVars_none hV
  obtain ⟨x0, rfl, rfl, rfl, w0⟩ := open_int Tryz.underlying5 (hval 0 5 v0 rfl rfl) h0
  obtain ⟨ca1, rfl, hca1⟩ := okWide_struct Tryz.underlying33 (hval 1 33 v1 rfl rfl)
  obtain ⟨ca2, rfl, hca2⟩ := okWide_struct Tryz.underlying33 (hval 2 33 v2 rfl rfl)
  obtain ⟨ca3, rfl, hca3⟩ := okWide_struct Tryz.underlying33 (hval 3 33 v3 rfl rfl)
  clear hA0 hval0
  have hlt := hW'.lt
  have hn0 := wf8 w0
  obtain ⟨m0, rfl⟩ : ∃ m : Nat, x0 = m := ⟨x0.toNat, by omega⟩
  obtain ⟨fu1, k1⟩ := h1
  obtain ⟨t1, hv1⟩ := open_T fu1 _ _ k1
  obtain ⟨fu2, k2⟩ := h2
  obtain ⟨t2, hv2⟩ := open_T fu2 _ _ k2
  obtain ⟨fu3, k3⟩ := h3
  obtain ⟨t3, hv3⟩ := open_T fu3 _ _ k3
  have hrun := numbers8_runs t1 t2 t3 ca1.toList ca2.toList ca3.toList (m0 : Int) (by omega) W hv1 hv2 hv3
  simp only [Array.toArray_toList] at hrun
  refine Calls.mono (hrun) ?_
  rintro e W' ⟨v, rfl, rfl, hx⟩
  have hb := hx.below
  refine ⟨_, rfl, _, _, _, [], _, [], hW', trodAll_mk1 (shut_bool Tryz.underlying4 true),
    trodAll_mk4 (shut_int Tryz.underlying5 w0) (Below.trod Tryz.laidOut (by kernel_rfl) (by decide +kernel) ⟨fu1, k1⟩ hb (fun x h => hlt x (by simp [h]))) (Below.trod Tryz.laidOut (by kernel_rfl) (by decide +kernel) ⟨fu2, k2⟩ hb (fun x h => hlt x (by simp [h]))) (Below.trod Tryz.laidOut (by kernel_rfl) (by decide +kernel) ⟨fu3, k3⟩ hb (fun x h => hlt x (by simp [h]))), rfl, hb.frame _, fun h => by cases h⟩
theorem numbers_holds : Rows.RulesNumbersSaid :=
  OpenClaim.holds_of_wide 7 Tryz.f7 rfl rfl rfl rfl rfl rfl rfl ⟨rfl, rfl, rfl, rfl, rfl⟩ rfl rfl rfl rfl rfl (by kernel_rfl) Tryz.func7 (by kernel_rfl)
    (of_decide_eq_true (by kernel_rfl)) (by unfold Func.isWrapper; rw [if_neg (by decide +kernel)]; exact ⟨rfl, rfl⟩)
    (fun os started H enc _ => numbers_lifted os started H enc)
end Go.Proofs.YtfljbnhhkdaobaaGreat
