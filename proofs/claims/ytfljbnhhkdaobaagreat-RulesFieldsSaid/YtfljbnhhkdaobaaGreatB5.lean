/-
  Pairs by their constructor: the plain law.
-/
import Derived.Test.YtfljbnhhkdaobaaGreatB4
import Derived.Test.YtfljbnhhkdaobaaGreatB3
namespace Go.Proofs.YtfljbnhhkdaobaaGreat
open Go Go.RowKit Go.Proofs.Bw
set_option linter.unusedVariables false
set_option linter.unusedSimpArgs false
theorem head_tCo (s : ByteArray) (ls : List L) : head (tCo s ls) = tCo s ls := head_no (by decide)
theorem args_tCo (s : ByteArray) (ls : List L) : spArgs (tCo s ls) = [] := spArgs_no (by decide)
theorem head_co (s : ByteArray) (ls : List L) (l : List T) : head (apT (tCo s ls) l) = tCo s ls := by rw [head_apT, head_tCo]
theorem args_co (s : ByteArray) (ls : List L) (l : List T) : spArgs (apT (tCo s ls) l) = l := by rw [spArgs_apT, args_tCo]; rfl
theorem recX_co (L0 : List Inf) (s : ByteArray) (ls : List L) (l : List T) : recX L0 (apT (tCo s ls) l) = getI L0 s := by unfold recX; rw [head_co]; rfl
theorem mkS : ((findI SL sPair__mk).isSome, (getI SL sPair__mk).kind, (getI SL sPair__mk).fields, (getI SL sPair__mk).fixed) = (true, 5, 2, 2) := by unfold SL smpL; rw [addAll_F]; decide +kernel
theorem mkO : (getI SL sPair__mk).of_ = sPair := by unfold SL smpL; rw [addAll_F]; decide +kernel
theorem pairS : (recdN SL sPair).isSome = true := by unfold SL smpL; rw [addAll_F]; decide +kernel
theorem listS : (recdN SL sList).isSome = false := by unfold SL smpL; rw [addAll_F]; decide +kernel
theorem mad_mk (l : List T) : madB SL (apT (tCo sPair__mk []) l) = true := by
  have h := mkS
  simp only [Prod.mk.injEq] at h
  unfold madB
  rw [recX_co, head_co]
  show (decide ((3 : Int) = 3) && ((findI SL sPair__mk).isSome && decide ((getI SL sPair__mk).kind = 5))) = true
  rw [h.1, h.2.1]; rfl
theorem fieldB_mk (l : List T) (n : Int) : fieldB SL sPair n (apT (tCo sPair__mk []) l) = (mayT (apT (tCo sPair__mk []) l) && (decide (0 ≤ n) && (decide (n < 2) && decide ((l.length : Int) = 4)))) := by
  have h := mkS
  simp only [Prod.mk.injEq] at h
  unfold fieldB
  rw [pairS, mad_mk, recX_co, mkO, args_co, h.2.2.1, h.2.2.2]
  simp
theorem fieldT_mk {a b c d : T} {n : Int} (h : fieldB SL sPair n (apT (tCo sPair__mk []) [a, b, c, d]) = true) : (n = 0 ∧ fieldT SL sPair n (apT (tCo sPair__mk []) [a, b, c, d]) = c) ∨ (n = 1 ∧ fieldT SL sPair n (apT (tCo sPair__mk []) [a, b, c, d]) = d) := by
  have hs := mkS
  simp only [Prod.mk.injEq] at hs
  have h2 := h
  rw [fieldB_mk] at h2
  simp only [Bool.and_eq_true, decide_eq_true_eq] at h2
  have hn : n = 0 ∨ n = 1 := by omega
  unfold fieldT
  rw [if_pos h, recX_co, args_co, hs.2.2.2]
  rcases hn with rfl | rfl
  · exact .inl ⟨rfl, rfl⟩
  · exact .inr ⟨rfl, rfl⟩
theorem fieldT_no {L0 : List Inf} {s : ByteArray} {n : Int} {t : T} (h : fieldB L0 s n t = false) : fieldT L0 s n t = tZ := by unfold fieldT; rw [if_neg (by rw [h]; decide)]
theorem fieldB_list (n : Int) (t : T) : fieldB SL sList n t = false := by unfold fieldB; rw [listS]; simp
end Go.Proofs.YtfljbnhhkdaobaaGreat

/-
  RulesFields.
-/
namespace Go.Proofs.YtfljbnhhkdaobaaGreat
open Go Go.RowKit Go.Proofs.Bw
set_option linter.unusedVariables false
set_option linter.unusedSimpArgs false
set_option maxHeartbeats 4000000 in
set_option maxRecDepth 20000 in
theorem fields_runs {R : Nat → Prop} (a b c d : T) (ca cb cc cd : List Value) (n : Int) (hn : i64ok n) (w : World) (va : VT w R ca a) (vb : VT w R cb b) (vc : VT w R cc c) (vd : VT w R cd d) : Runs Tryz.prog 9 #[.agg ca.toArray, .agg cb.toArray, .agg cc.toArray, .agg cd.toArray, .int .i64 n] w fun v w' => v = .bool true ∧ Ext w w' := by
  have va0 := va.small
  have vb0 := vb.small
  have vc0 := vc.small
  have vd0 := vd.small
  obtain ⟨ka, na, sa, lsa, tsa, laa, lca, taa, tca, ea, rfl, hka, hna, hsa, hlla, hlta, hLa, hTa⟩ := va.inv
  obtain ⟨kb, nb, sb, lsb, tsb, lab, lcb, tab, tcb, eb, rfl, hkb, hnb, hsb, hllb, hltb, hLb, hTb⟩ := vb.inv
  obtain ⟨kc, nc, sc, lsc, tsc, lac, lcc, tac, tcc, ec, rfl, hkc, hnc, hsc, hllc, hltc, hLc, hTc⟩ := vc.inv
  obtain ⟨kd, nd, sd, lsd, tsd, lad, lcd, tad, tcd, ed, rfl, hkd, hnd, hsd, hlld, hltd, hLd, hTd⟩ := vd.inv
  refine Runs.of_vc (ρ := []) cx_ok [0, 1, 2, 3, 4, 5, 6, 7, 8, 10, 11, 12, 13, 14, 15, 16, 17, 18, 20, 22, 24, 30, 39, 62, 84, 128, 130, 141] [.a [.v (.int .u8 ka), .v (.int .i64 na), .v (.string sa), .v (.slice laa lsa.length lca), .v (.slice taa tsa.length tca)], .a [.v (.int .u8 kb), .v (.int .i64 nb), .v (.string sb), .v (.slice lab lsb.length lcb), .v (.slice tab tsb.length tcb)], .a [.v (.int .u8 kc), .v (.int .i64 nc), .v (.string sc), .v (.slice lac lsc.length lcc), .v (.slice tac tsc.length tcc)], .a [.v (.int .u8 kd), .v (.int .i64 nd), .v (.string sd), .v (.slice lad lsd.length lcd), .v (.slice tad tsd.length tcd)], .v _] Tryz.func9 rfl rfl rfl (Holds.nil w) ?_
  intro g1 w1 e1 x1 z1 hh1
  intro g2 w2 e2 x2 z2 hh2
  intro g3 w3 e3 x3 z3 hh3
  intro g4 w4 e4 x4 z4 hh4
  have y4 := x1.trans (x2.trans (x3.trans x4))
  refine (Sample_runs w4 (fun _ => False) (fun _ h => h.elim)).mono ?_
  rintro _ w5 ⟨x5, e, m, A, cap, rfl, hE5⟩
  have hh5 := hh4.ext x5
  have z5 := x5.size
  have Y5 := y4.trans x5
  refine Lands.ret (s := .t [.v (.pointer (some ⟨e, 0, none⟩)), .v (.bool true)]) rfl rfl hh5 ?_
  refine Or.inl (And.intro (fun hx => nomatch (rfl).symm.trans hx) (fun _ => ?_))
  have in5 : ∀ k, R k ∧ k < w.heap.size → RdE w5 (fun _ => False) e m A k := fun k hk => ⟨⟨by have := hk.2; omega, id⟩, fun hm => by have := hE5.lt k hm; have := hk.2; omega⟩
  have va5 := (VT.ext va0 Y5).mono in5
  have vb5 := (VT.ext vb0 Y5).mono in5
  have vc5 := (VT.ext vc0 Y5).mono in5
  have vd5 := (VT.ext vd0 Y5).mono in5
  refine OpT.buildE (E := encT) (R := (RdE w5 (fun _ => False) e m A)) (vs := [_, _, _, _]) (l := [a, b, c, d]) Tryz.zeroValue33 (.cons rfl (.cons rfl (.cons rfl (.cons rfl (.nil))))) Tryz.underlying31 Tryz.sizeOf33 rfl rfl (Reps.cons va5 (Reps.cons vb5 (Reps.cons vc5 (Reps.cons vd5 (Reps.nil _ _ _))))) rfl rfl hh5 fun w6 g6 e6 x6 z6 o6 hh6 => ?_
  refine vLoop_upd (σ := Nat × Int) [10, 14, 15, 36, 37, 38, 39, 40, 41, 42, 43, 44, 45, 46, 47, 48, 49, 50, 51, 52, 53, 54, 55, 56, 57, 58, 59, 60, 61, 62, 63, 64, 65, 66, 67, 68, 69, 70] (fun s => [(14, .v (.int .i64 s.2)), (15, .v (.int .i64 s.1))]) [] (fun _ => []) (fun s w' => Ext w6 w' ∧ s.1 ≤ [a, b, c, d].length ∧ (0 ≤ s.2 ∧ s.2 ≤ 1000 * s.1)) (fun s => [a, b, c, d].length - s.1) (0, 0) (fun _ => ⟨rfl, rfl⟩)
    ⟨(by repeat (first | exact trivial | refine And.intro rfl ?_)), (by repeat (first | exact trivial | refine And.intro rfl ?_)), (by repeat (first | exact trivial | refine And.intro rfl ?_)), (by repeat (first | exact trivial | refine And.intro rfl ?_)), Ext.refl _, Nat.zero_le _, by omega⟩ ?_
  rintro ⟨i, sz⟩ w7 hh7 ⟨x7, hi, hs⟩
  simp only at hi hs
  have z7 := x7.size
  have Y7 := Y5.trans (x6.trans x7)
  have hl4 : [a, b, c, d].length = 4 := rfl
  refine Or.inl (And.intro (fun h => ?_) (fun h => ?_))
  · have hil : i < [a, b, c, d].length := by have := of_decide_eq_true h; simp only at this; omega
    obtain ⟨a1, cs1, ha1, hR1, hrow, hv1⟩ := (o6.sl.ext x7).at hil
    generalize [a, b, c, d][i] = u at *
    have hv1 : VT w7 _ cs1 u := hv1
    have hu0 := hv1
    obtain ⟨ku, nu, su, lsu, tsu, lau, lcu, tau, tcu, eu, rfl, hku, hnu, hsu, hllu, hltu, hLu, hTu⟩ := hv1.inv
    refine OpT.indexAddr Tryz.underlying31 Tryz.sizeOf33 rfl rfl ha1 (by first | omega | (simp only [lenOk] at *; omega)) ?_; refine Lands.v hh7 ?_
    refine OpT.loadA Tryz.isAgg33 (by exact Tryz.sizeOf33) rfl hrow ?_; refine Lands.ret (s := .a [.v (.int .u8 ku), .v (.int .i64 nu), .v (.string su), .v (.slice lau lsu.length lcu), .v (.slice tau tsu.length tcu)]) rfl rfl hh7 ?_
    refine vcZ (rDeep_runs u _ w7 _ hu0) hh7 fun w8 x8 z8 hh8 => ?_
    have hsz62 : isDeep u = false → size u ≤ 131072 := fun h => (isDeep_no h).1
    generalize hdu : isDeep u = du at *
    refine Or.inl (Exists.intro (.pointer (some (a1.add (i * 5)))) (And.intro (fun _ => OpT.indexAddr Tryz.underlying31 Tryz.sizeOf33 rfl rfl ha1 (by omega) ⟨rfl, Ext.refl _⟩) (fun w9 x9 hh9 => ?_)))
    refine Or.inl (Exists.intro (.agg [Value.int .u8 ku, Value.int .i64 nu, Value.string su, Value.slice lau lsu.length lcu, Value.slice tau tsu.length tcu].toArray) (And.intro (fun _ => OpT.loadA Tryz.isAgg33 (by exact Tryz.sizeOf33) rfl (hrow.ext (x8.trans x9)) ⟨rfl, Ext.refl _⟩) (fun w10 x10 hh10 => ?_)))
    refine Or.inl (Exists.intro (.bool (mayT u)) (And.intro (fun _ => rMay_runs u _ w10 _ (VT.ext hu0 (x8.trans (x9.trans x10)))) (fun w11 x11 hh11 => ?_)))
    generalize hmu : mayT u = mu at *
    refine Or.inl (Exists.intro (.pointer (some (a1.add (i * 5)))) (And.intro (fun _ => OpT.indexAddr Tryz.underlying31 Tryz.sizeOf33 rfl rfl ha1 (by omega) ⟨rfl, Ext.refl _⟩) (fun w12 x12 hh12 => ?_)))
    refine Or.inl (Exists.intro (.agg [Value.int .u8 ku, Value.int .i64 nu, Value.string su, Value.slice lau lsu.length lcu, Value.slice tau tsu.length tcu].toArray) (And.intro (fun _ => OpT.loadA Tryz.isAgg33 (by exact Tryz.sizeOf33) rfl (hrow.ext (x8.trans (x9.trans (x10.trans (x11.trans x12))))) ⟨rfl, Ext.refl _⟩) (fun w13 x13 hh13 => ?_)))
    refine Or.inl (Exists.intro (.int .i64 (size u)) (And.intro (fun hp => ?_) (fun w14 x14 hh14 => ?_)))
    · have hd0 : du = false := by cases du <;> cases mu <;> simp [sel] at hp ⊢
      have := hsz62 hd0
      exact rSize_runs u _ w13 _ (VT.ext hu0 (x8.trans (x9.trans (x10.trans (x11.trans (x12.trans x13)))))) (by omega)
    have x814 := x8.trans (x9.trans (x10.trans (x11.trans (x12.trans (x13.trans x14)))))
    refine Or.inl (And.intro (fun h => ?_) (fun h => ?_))
    · refine vcZ (works8_runs w14) hh14 fun w15 x15 z15 hh15 => ?_
      exact ⟨rfl, Y7.trans (x814.trans x15)⟩
    · have hsm : size u ≤ 1000 := by cases du <;> cases mu <;> simp [sel] at h; omega
      refine OpT.indexAddr Tryz.underlying31 Tryz.sizeOf33 rfl rfl ha1 (by first | omega | (simp only [lenOk] at *; omega)) ?_; refine Lands.v hh14 ?_
      refine OpT.loadA Tryz.isAgg33 (by exact Tryz.sizeOf33) rfl (hrow.ext x814) ?_; refine Lands.ret (s := .a [.v (.int .u8 ku), .v (.int .i64 nu), .v (.string su), .v (.slice lau lsu.length lcu), .v (.slice tau tsu.length tcu)]) rfl rfl hh14 ?_
      refine vcZ (rSize_runs u _ w14 _ (VT.ext hu0 x814) (by omega)) hh14 fun w15 x15 z15 hh15 => ?_
      refine vsd (by simp only [inKind]; omega) ?_
      refine vsd (by simp only [inKind]; omega) ?_
      exact Exists.intro ((i + 1, sz + size u)) ⟨by simp only; omega, esub_over (by repeat (first | exact trivial | refine And.intro rfl ?_)) (by repeat (first | exact trivial | refine And.intro rfl ?_)), hsub_over (by repeat (first | exact trivial | refine And.intro rfl ?_)) (by repeat (first | exact trivial | refine And.intro rfl ?_)), x7.trans (x814.trans x15), by omega, by omega, by omega⟩
  have Z7 := Y7
  have hE7 := hE5.ext (x6.trans x7)
  have hX7 : ∀ k, False → k < w7.heap.size := fun _ h => h.elim
  have va7 := VT.re va5 (x6.trans x7)
  have vb7 := VT.re vb5 (x6.trans x7)
  have vc7 := VT.re vc5 (x6.trans x7)
  have vd7 := VT.re vd5 (x6.trans x7)
  have y7 : Ext w7 w7 := Ext.refl _
  refine vFlow_mk 8 (RdE w7 (fun _ => False) e m A) [.T (tCo sPair__mk []), .T a, .T b, .T c, .T d, .ST [a, b, c, d], .T (apT (tCo sPair__mk []) [a, b, c, d]), .A] rfl fun w8 x8 z8 hh8 => ?_
  refine And.intro (fun vs Rs w2 x hh hR_  => flCall (Co0_d sPair__mk (by decide)) hh fun v w3 _ q => DV.mono (R' := fun k => w2.heap.size ≤ k ∧ k < w3.heap.size) _ (fun k h => h) (Ext.refl _) q) ?_
  refine And.intro (fun vs Rs w2 x hh hR_  => ⟨Ext.refl _, flLoadE va7 (x8.trans x) RdE.lt⟩) ?_
  refine And.intro (fun vs Rs w2 x hh hR_  => ⟨Ext.refl _, flLoadE vb7 (x8.trans x) RdE.lt⟩) ?_
  refine And.intro (fun vs Rs w2 x hh hR_  => ⟨Ext.refl _, flLoadE vc7 (x8.trans x) RdE.lt⟩) ?_
  refine And.intro (fun vs Rs w2 x hh hR_  => ⟨Ext.refl _, flLoadE vd7 (x8.trans x) RdE.lt⟩) ?_
  refine And.intro (fun vs Rs w2 x hh hR_ h1 h2 h3 h4 => by
      obtain ⟨c1, e1, k1_⟩ := h1
      obtain ⟨c2, e2, k2_⟩ := h2
      obtain ⟨c3, e3, k3_⟩ := h3
      obtain ⟨c4, e4, k4_⟩ := h4
      refine OpT.buildE (E := encT) (R := rdS (RdE w7 (fun _ => False) e m A) (fun k => Rs 1 k ∨ (Rs 2 k ∨ (Rs 3 k ∨ (Rs 4 k)))) w2) (vs := [vs 1, vs 2, vs 3, vs 4]) (css := [c1, c2, c3, c4]) (l := [a, b, c, d]) Tryz.zeroValue33 (.cons rfl (.cons rfl (.cons rfl (.cons rfl (.nil))))) Tryz.underlying31 Tryz.sizeOf33 rfl (by simp [e1, e2, e3, e4, Value.cells]) (Reps.cons (VT.mono k1_ fun k hk => ⟨hk.1.imp id fun h => .inl h, hk.2⟩) (Reps.cons (VT.mono k2_ fun k hk => ⟨hk.1.imp id fun h => .inr (.inl h), hk.2⟩) (Reps.cons (VT.mono k3_ fun k hk => ⟨hk.1.imp id fun h => .inr (.inr (.inl h)), hk.2⟩) (Reps.cons (VT.mono k4_ fun k hk => ⟨hk.1.imp id fun h => .inr (.inr (.inr (h))), hk.2⟩) (Reps.nil _ _ _))))) rfl rfl hh fun w3 g e x3 z3 o3 hh3 => ?_
      exact ⟨x3, _, _, rfl, by simp [lenOk], o3.sl.mono fun k hk => ⟨hk.1.elim (fun h => h.1.imp id fun h => h.elim .inl fun h => .inr (h.elim .inl fun h => .inr (h.elim .inl fun h => .inr (.inl h)))) (fun h => .inr (.inr (.inr (.inr (.inr (⟨h, hk.2⟩)))))), hk.2⟩⟩) ?_
  refine And.intro (fun vs Rs w2 x hh hR_ h1 h2 => flCall (A_d h1 h2) hh fun v w3 _ q => DV.mono (R' := fun k => Rs 0 k ∨ (Rs 5 k ∨ (w2.heap.size ≤ k ∧ k < w3.heap.size))) _ (fun k => fun h => h.elim (fun h => .inl h) (fun h => h.elim (fun h => .inr (.inl h)) (fun h => .inr (.inr (h))))) (Ext.refl _) q) ?_
  refine And.intro (fun vs Rs w2 x hh hR_  => by
      intro g w3 e x3 z3 hh3
      exact ⟨x3, g, rfl, ⟨by omega, by omega⟩, hh3.box 4 _ rfl⟩) ?_
  intro vs Os w9 x9 hh9 hp hO hd
  have q9 := x9.size
  have p9 : (DV.T (apT (tCo sPair__mk []) [a, b, c, d])).rep _ _ _ _ := hp 6 (by omega)
  have pa9 : DV.A.rep _ _ _ _ := hp 7 (by omega)
  obtain ⟨cs9, es9, h9⟩ := p9
  obtain ⟨g9, eg9, hg9, bg9⟩ := pa9
  replace hg9 := flCum_own (by rfl) hg9
  have gO9 := hO _ _ hg9
  have h9x := h9
  obtain ⟨ks9, ns9, ss9, lss9, tss9, las9, lcs9, tas9, tcs9, e9, rfl, hks9, hns9, hss9, hlls9, hlts9, hLs9, hTs9⟩ := h9.inv
  refine Exists.intro [g9] (Exists.intro _ (Exists.intro [.v (vs 0), .v (vs 1), .v (vs 2), .v (vs 3), .v (vs 4), .v (vs 5), .a [.v (.int .u8 ks9), .v (.int .i64 ns9), .v (.string ss9), .v (.slice las9 lss9.length lcs9), .v (.slice tas9 tss9.length tcs9)], .p 4 0] ⟨Holds.add hh9 (c := [.v (.int .u8 0), .v (.int .i64 0), .v (.string noS), .v (.slice none 0 0), .v (.slice none 0 0)]) (fun i hi he => by have := hh8.lt i hi; omega) gO9.2 bg9 rfl, rfl, by rw [show (List.range 8).map vs = [vs 0, vs 1, vs 2, vs 3, vs 4, vs 5, vs 6, vs 7] from rfl, eg9, es9]; rfl, ?_⟩))
  intro w10 m10 z10 hh10
  replace m10 : Upd g9 w9 w10 := m10
  have q10 := m10.size
  have x7_10 : Ext w7 w10 := x8.trans (x9.upd m10 (by omega))
  have k10 : VT w10 (RdE w10 (fun _ => False) e m A) _ _ := (flStoredE h9x m10 (flCum_no (s := 6) (A := 7) (by decide) (by rfl) hd hg9) (fun hb => by have := hb.1.1; omega)).mono fun k hk => by
    rcases hk.1 with h | ⟨q, _, hq⟩
    · exact RdE.ext x7_10 k h
    · have := hO q k hq; exact RdE.new hE7 hX7 k (by omega) (by omega)
  have y10 : Ext w7 w10 := y7.trans x7_10
  refine Or.inl (Exists.intro (.bool (mayT (apT (tCo sPair__mk []) [a, b, c, d]))) (And.intro (fun _ => ?_) (fun w11 x11 hh11 => ?_)))
  · exact rMay_runs _ _ w10 _ k10
  have z11 := x11.size
  have Y11 := Y7.trans (x7_10.trans x11)
  generalize hM : mayT (apT (tCo sPair__mk []) [a, b, c, d]) = mp at *
  refine Or.inl (And.intro (fun h => ?_) (fun h => ?_))
  · refine vcZ (works8_runs w11) hh11 fun w12 x12 z12 hh12 => ?_
    exact ⟨rfl, Y11.trans x12⟩
  have hmp : mp = true := by
    cases mp with
    | true => rfl
    | false => by_cases hq : 1000 < sz <;> simp [sel, hq] at h
  subst hmp
  have hE11 := hE7.ext (x7_10.trans x11)
  refine (Field_runs e m A cap SL sPair n hn (apT (tCo sPair__mk []) [a, b, c, d]) _ w11 hE11 (fun _ h => h.elim) (VT.re k10 x11) SL_nok).mono ?_
  rintro _ w12 ⟨x12, ⟨cf, rfl, hf⟩⟩
  have hh12 := hh11.ext x12
  have z12 := x12.size
  have hFT := fieldT_mk (a := a) (b := b) (c := c) (d := d) (n := n)
  have hFN := fieldT_no (L0 := SL) (s := sPair) (n := n) (t := apT (tCo sPair__mk []) [a, b, c, d])
  have hFB := fieldB_mk [a, b, c, d] n
  rw [hM] at hFB
  generalize fieldB SL sPair n (apT (tCo sPair__mk []) [a, b, c, d]) = B1 at *
  generalize fieldT SL sPair n (apT (tCo sPair__mk []) [a, b, c, d]) = F1 at *
  have hf0 := hf
  obtain ⟨kf, nf, sf, lsf, tsf, laf, lcf, taf, tcf, ef, rfl, hkf, hnf, hsf, hllf, hltf, hLf, hTf⟩ := hf.inv
  refine Lands.ret (s := .t [.a [.v (.int .u8 kf), .v (.int .i64 nf), .v (.string sf), .v (.slice laf lsf.length lcf), .v (.slice taf tsf.length tcf)], .v (.bool B1)]) rfl rfl hh12 ?_
  intro g13 w13 e13 x13 z13 hh13; intro w14 m14 z14 hh14; replace m14 : Upd g13 w13 w14 := m14; have x14 : Ext w12 w14 := x13.upd m14 (by omega); have q14 := x14.size
  have x714 := x7_10.trans (x11.trans (x12.trans x14))
  have hE14 := hE7.ext x714
  have hX14 : ∀ k, False → k < w14.heap.size := fun _ h => h.elim
  have va14 := VT.re va7 x714
  have vb14 := VT.re vb7 x714
  have vc14 := VT.re vc7 x714
  have y14 : Ext w14 w14 := Ext.refl _
  refine vFlow_mk 13 (RdE w14 (fun _ => False) e m A) [dEq (.pointer (some ⟨e, 0, none⟩)), dEq (.int .i64 n), .T (tCo sPair__mk []), .T a, .T b, .T c, .ST [a, b, c], .T (apT (tCo sPair__mk []) [a, b, c]), dTB (RdE w14 (fun _ => False) e m A) (fieldT SL sPair n (apT (tCo sPair__mk []) [a, b, c])) (fieldB SL sPair n (apT (tCo sPair__mk []) [a, b, c])), dTB (RdE w14 (fun _ => False) e m A) (fieldT SL sPair n (apT (tCo sPair__mk []) [a, b, c])) (fieldB SL sPair n (apT (tCo sPair__mk []) [a, b, c])), .T (fieldT SL sPair n (apT (tCo sPair__mk []) [a, b, c])), dEq (.bool (fieldB SL sPair n (apT (tCo sPair__mk []) [a, b, c]))), .A] rfl fun w15 x15 z15 hh15 => ?_
  refine And.intro (fun vs Rs w2 x hh hR_  => ⟨Ext.refl _, rfl⟩) ?_
  refine And.intro (fun vs Rs w2 x hh hR_  => ⟨Ext.refl _, rfl⟩) ?_
  refine And.intro (fun vs Rs w2 x hh hR_  => flCall (Co0_d sPair__mk (by decide)) hh fun v w3 _ q => DV.mono (R' := fun k => w2.heap.size ≤ k ∧ k < w3.heap.size) _ (fun k h => h) (Ext.refl _) q) ?_
  refine And.intro (fun vs Rs w2 x hh hR_  => ⟨Ext.refl _, flLoadE va14 (x15.trans x) RdE.lt⟩) ?_
  refine And.intro (fun vs Rs w2 x hh hR_  => ⟨Ext.refl _, flLoadE vb14 (x15.trans x) RdE.lt⟩) ?_
  refine And.intro (fun vs Rs w2 x hh hR_  => ⟨Ext.refl _, flLoadE vc14 (x15.trans x) RdE.lt⟩) ?_
  refine And.intro (fun vs Rs w2 x hh hR_ h1 h2 h3 => by
      obtain ⟨c1, e1, k1_⟩ := h1
      obtain ⟨c2, e2, k2_⟩ := h2
      obtain ⟨c3, e3, k3_⟩ := h3
      refine OpT.buildE (E := encT) (R := rdS (RdE w14 (fun _ => False) e m A) (fun k => Rs 3 k ∨ (Rs 4 k ∨ (Rs 5 k))) w2) (vs := [vs 3, vs 4, vs 5]) (css := [c1, c2, c3]) (l := [a, b, c]) Tryz.zeroValue33 (.cons rfl (.cons rfl (.cons rfl (.nil)))) Tryz.underlying31 Tryz.sizeOf33 rfl (by simp [e1, e2, e3, Value.cells]) (Reps.cons (VT.mono k1_ fun k hk => ⟨hk.1.imp id fun h => .inl h, hk.2⟩) (Reps.cons (VT.mono k2_ fun k hk => ⟨hk.1.imp id fun h => .inr (.inl h), hk.2⟩) (Reps.cons (VT.mono k3_ fun k hk => ⟨hk.1.imp id fun h => .inr (.inr (h)), hk.2⟩) (Reps.nil _ _ _)))) rfl rfl hh fun w3 g e x3 z3 o3 hh3 => ?_
      exact ⟨x3, _, _, rfl, by simp [lenOk], o3.sl.mono fun k hk => ⟨hk.1.elim (fun h => h.1.imp id fun h => h.elim .inl fun h => .inr (h.elim .inl fun h => .inr (.inl h))) (fun h => .inr (.inr (.inr (.inr (⟨h, hk.2⟩))))), hk.2⟩⟩) ?_
  refine And.intro (fun vs Rs w2 x hh hR_ h1 h2 => flCall (A_d h1 h2) hh fun v w3 _ q => DV.mono (R' := fun k => Rs 2 k ∨ (Rs 6 k ∨ (w2.heap.size ≤ k ∧ k < w3.heap.size))) _ (fun k => fun h => h.elim (fun h => .inl h) (fun h => h.elim (fun h => .inr (.inl h)) (fun h => .inr (.inr (h))))) (Ext.refl _) q) ?_
  refine And.intro (fun vs Rs w2 x hh hR_ h1 h2 h3 => flCall (Field_d hE14 hX14 SL_nok sPair n hn (x15.trans x) (fun k h => by have := hR_ _ k h; omega) h1 h2 h3) hh fun v w3 _ q => DV.mono (R' := fun k => Rs 0 k ∨ (Rs 1 k ∨ (Rs 7 k ∨ (w2.heap.size ≤ k ∧ k < w3.heap.size)))) _ (fun k => fun h => h.elim (fun h => .inr (.inr (.inl h))) (fun h => .inr (.inr (.inr (h))))) (Ext.refl _) q) ?_
  refine And.intro (fun vs Rs w2 x hh hR_ h1 => ⟨Ext.refl _, DV.mono _ (fun k h => .inl h) (Ext.refl _) h1⟩) ?_
  refine And.intro (fun vs Rs w2 x hh hR_ h1 => by
      obtain ⟨cr, e4, k4_⟩ := h1
      obtain ⟨vs', rfl⟩ := fl_at e4
      exact ⟨Ext.refl _, cr, rfl, k4_.mono fun k hk => ⟨hk.1.imp id .inl, hk.2⟩⟩) ?_
  refine And.intro (fun vs Rs w2 x hh hR_ h1 => by
      obtain ⟨cr, e4, k4_⟩ := h1
      obtain ⟨vs', rfl⟩ := fl_at e4
      exact ⟨Ext.refl _, rfl⟩) ?_
  refine And.intro (fun vs Rs w2 x hh hR_  => by
      intro g w3 e x3 z3 hh3
      exact ⟨x3, g, rfl, ⟨by omega, by omega⟩, hh3.box 6 _ rfl⟩) ?_
  intro vs Os w16 x16 hh16 hp hO hd
  have q16 := x16.size
  have p16 : (DV.T (fieldT SL sPair n (apT (tCo sPair__mk []) [a, b, c]))).rep _ _ _ _ := hp 10 (by omega)
  have pe16_11 : vs 11 = (.bool (fieldB SL sPair n (apT (tCo sPair__mk []) [a, b, c]))) := hp 11 (by omega)
  have pa16 : DV.A.rep _ _ _ _ := hp 12 (by omega)
  obtain ⟨cs16, es16, h16⟩ := p16
  obtain ⟨g16, eg16, hg16, bg16⟩ := pa16
  replace hg16 := flCum_own (by rfl) hg16
  have gO16 := hO _ _ hg16
  have h16x := h16
  obtain ⟨ks16, ns16, ss16, lss16, tss16, las16, lcs16, tas16, tcs16, e16, rfl, hks16, hns16, hss16, hlls16, hlts16, hLs16, hTs16⟩ := h16.inv
  rw [show fieldB SL sPair n (apT (tCo sPair__mk []) [a, b, c]) = false from by rw [fieldB_mk]; simp] at pe16_11
  refine Exists.intro [g16] (Exists.intro _ (Exists.intro [.v (vs 0), .v (vs 1), .v (vs 2), .v (vs 3), .v (vs 4), .v (vs 5), .v (vs 6), .v (vs 7), .v (vs 8), .v (vs 9), .a [.v (.int .u8 ks16), .v (.int .i64 ns16), .v (.string ss16), .v (.slice las16 lss16.length lcs16), .v (.slice tas16 tss16.length tcs16)], .v (.bool false), .p 6 0] ⟨Holds.add hh16 (c := [.v (.int .u8 0), .v (.int .i64 0), .v (.string noS), .v (.slice none 0 0), .v (.slice none 0 0)]) (fun i hi he => by have := hh15.lt i hi; omega) gO16.2 bg16 rfl, rfl, by rw [show (List.range 13).map vs = [vs 0, vs 1, vs 2, vs 3, vs 4, vs 5, vs 6, vs 7, vs 8, vs 9, vs 10, vs 11, vs 12] from rfl, eg16, es16, pe16_11]; rfl, ?_⟩))
  intro w17 m17 z17 hh17
  replace m17 : Upd g16 w16 w17 := m17
  have q17 := m17.size
  have x14_17 : Ext w14 w17 := x15.trans (x16.upd m17 (by omega))
  have k17 : VT w17 (RdE w17 (fun _ => False) e m A) _ _ := (flStoredE h16x m17 (flCum_no (s := 10) (A := 12) (by decide) (by rfl) hd hg16) (fun hb => by have := hb.1.1; omega)).mono fun k hk => by
    rcases hk.1 with h | ⟨q, _, hq⟩
    · exact RdE.ext x14_17 k h
    · have := hO q k hq; exact RdE.new hE14 hX14 k (by omega) (by omega)
  have y17 : Ext w14 w17 := y14.trans x14_17
  have x1017 := x11.trans (x12.trans (x14.trans x14_17))
  have vt17 := VT.re k10 x1017
  have vd17 := VT.re vd7 (x714.trans x14_17)
  have hE17 := hE14.ext x14_17
  have hX17 : ∀ k, False → k < w17.heap.size := fun _ h => h.elim
  refine OpT.buildE (E := encT) (R := (RdE w17 (fun _ => False) e m A)) (vs := [_]) (l := [d]) Tryz.zeroValue33 (.cons rfl (.nil)) Tryz.underlying31 Tryz.sizeOf33 rfl rfl (Reps.cons vd17 (Reps.nil _ _ _)) rfl rfl hh17 fun w18 g18 e18 x18 z18 o18 hh18 => ?_
  have hE18 := hE17.ext x18
  have hX18 : ∀ k, False → k < w18.heap.size := fun _ h => h.elim
  refine (A_r (R := RdE w18 (fun _ => False) e m A) (apT (tCo sPair__mk []) [a, b, c, d]) _ _ [d] 1 w18 (VT.re vt17 x18) (o18.sl.mono fun k hk => ?_) RdE.lt (by simp [lenOk])).mono ?_
  · rcases hk.1 with h | h
    · exact RdE.ext x18 k h
    · exact RdE.new hE17 hX17 k h hk.2
  rintro _ w19 ⟨x19, c5, rfl, h5⟩
  have hh19 := hh18.ext x19
  have z19 := x19.size
  have h50 := h5.mono (RdE.nw hE18 hX18 x19)
  obtain ⟨kp, np, sp, lsp, tsp, lap, lcp, tap, tcp, ep, rfl, hkp, hnp, hsp, hllp, hltp, hLp, hTp⟩ := h5.inv
  refine Lands.ret (s := .a [.v (.int .u8 kp), .v (.int .i64 np), .v (.string sp), .v (.slice lap lsp.length lcp), .v (.slice tap tsp.length tcp)]) rfl rfl hh19 ?_
  refine (Field_runs e m A cap SL sPair n hn _ _ w19 (hE18.ext x19) (fun _ h => h.elim) h50 SL_nok).mono ?_
  rintro _ w20 ⟨x20, ⟨cg, rfl, hg⟩⟩
  rw [show fieldB SL sPair n (apT (apT (tCo sPair__mk []) [a, b, c, d]) [d]) = false from by
    show fieldB SL sPair n (apT (tCo sPair__mk []) [a, b, c, d, d]) = false
    rw [fieldB_mk]; simp]
  have hh20 := hh19.ext x20
  have z20 := x20.size
  generalize fieldT SL sPair n (apT (apT (tCo sPair__mk []) [a, b, c, d]) [d]) = F2 at *
  obtain ⟨kg, ng, sg, lsg, tsg, lag, lcg, tag, tcg, eg, rfl, hkg, hng, hsg, hllg, hltg, hLg, hTg⟩ := hg.inv
  refine Lands.ret (s := .t [.a [.v (.int .u8 kg), .v (.int .i64 ng), .v (.string sg), .v (.slice lag lsg.length lcg), .v (.slice tag tsg.length tcg)], .v (.bool false)]) rfl rfl hh20 ?_
  intro g21 w21 e21 x21 z21 hh21; intro w22 m22 z22 hh22; replace m22 : Upd g21 w21 w22 := m22; have x22 : Ext w20 w22 := x21.upd m22 (by omega); have q22 := x22.size
  have x1722 := x18.trans (x19.trans (x20.trans x22))
  refine (Field_runs e m A cap SL sList n hn _ _ w22 (hE17.ext x1722) (fun _ h => h.elim) (VT.re vt17 x1722) SL_nok).mono ?_
  rintro _ w23 ⟨x23, ⟨cg, rfl, hg⟩⟩
  rw [fieldB_list]
  have hh23 := hh22.ext x23
  have z23 := x23.size
  generalize fieldT SL sList n (apT (tCo sPair__mk []) [a, b, c, d]) = F3 at *
  obtain ⟨kl, nl, sl, lsl, tsl, lal, lcl, tal, tcl, el, rfl, hkl, hnl, hsl, hlll, hltl, hLl, hTl⟩ := hg.inv
  refine Lands.ret (s := .t [.a [.v (.int .u8 kl), .v (.int .i64 nl), .v (.string sl), .v (.slice lal lsl.length lcl), .v (.slice tal tsl.length tcl)], .v (.bool false)]) rfl rfl hh23 ?_
  intro g24 w24 e24 x24 z24 hh24; intro w25 m25 z25 hh25; replace m25 : Upd g24 w24 w25 := m25; have x25 : Ext w23 w25 := x24.upd m25 (by omega); have q25 := x25.size
  refine Or.inl (And.intro (fun hx => nomatch (rfl).symm.trans hx) (fun _ => ?_))
  have Y25 : Ext w w25 := Y7.trans (x714.trans (x14_17.trans (x1722.trans (x23.trans x25))))
  have x1225 : Ext w12 w25 := x14.trans (x14_17.trans (x1722.trans (x23.trans x25)))
  have x725 : Ext w7 w25 := x714.trans (x14_17.trans (x1722.trans (x23.trans x25)))
  have hF25 := VT.ext hf0 x1225
  refine Or.inl (And.intro (fun h => ?_) (fun h => ?_))
  · have hn0 : n = 0 := by simpa using h
    have hb : B1 = true := by rw [hFB, hn0]; rfl
    subst hb
    have hF : F1 = c := by
      rcases hFT rfl with h | h
      · exact h.2
      · omega
    refine vyes rfl ?_
    refine vcZ (rSame_runs F1 c _ _ w25 _ _ hF25 (VT.ext vc7 x725)) hh25 fun w26 x26 z26 hh26 => ?_
    rw [show sameB F1 c = true from by rw [hF]; exact sameB_refl c]
    refine vyes rfl ?_
    refine vcZ (works8_runs w26) hh26 fun w27 x27 z27 hh27 => ?_
    exact ⟨rfl, Y25.trans (x26.trans x27)⟩
  · have hn0 : n ≠ 0 := by simpa using h
    refine Or.inl (And.intro (fun h => ?_) (fun h => ?_))
    · have hn1 : n = 1 := by simpa using h
      have hb : B1 = true := by rw [hFB, hn1]; rfl
      subst hb
      have hF : F1 = d := by
        rcases hFT rfl with h | h
        · omega
        · exact h.2
      refine vyes rfl ?_
      refine vcZ (rSame_runs F1 d _ _ w25 _ _ hF25 (VT.ext vd7 x725)) hh25 fun w26 x26 z26 hh26 => ?_
      rw [show sameB F1 d = true from by rw [hF]; exact sameB_refl d]
      refine vyes rfl ?_
      refine vcZ (works8_runs w26) hh26 fun w27 x27 z27 hh27 => ?_
      exact ⟨rfl, Y25.trans (x26.trans x27)⟩
    · have hn1 : n ≠ 1 := by simpa using h
      have hb : B1 = false := by
        rw [hFB]
        by_cases h0 : 0 ≤ n
        · rw [decide_eq_false (show ¬ n < 2 by omega)]; simp
        · rw [decide_eq_false h0]; rfl
      subst hb
      have hF : F1 = tZ := hFN rfl
      refine vyes rfl ?_
      refine vcZ (rSame_runs F1 tZ _ _ w25 _ _ hF25 (tZ_rep w25 (fun _ => False))) hh25 fun w26 x26 z26 hh26 => ?_
      rw [show sameB F1 tZ = true from by rw [hF]; exact sameB_refl tZ]
      refine vyes rfl ?_
      refine vcZ (works8_runs w26) hh26 fun w27 x27 z27 hh27 => ?_
      exact ⟨rfl, Y25.trans (x26.trans x27)⟩
end Go.Proofs.YtfljbnhhkdaobaaGreat
