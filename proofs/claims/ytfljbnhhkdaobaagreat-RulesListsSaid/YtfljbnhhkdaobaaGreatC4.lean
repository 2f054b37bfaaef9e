/-
  The recursor of lists at lists by constructors: the plain law.
-/
import Derived.Test.YtfljbnhhkdaobaaGreatB5
import Derived.Test.YtfljbnhhkdaobaaGreatB6
import Derived.Test.YtfljbnhhkdaobaaGreatRows
import Derived.ProofKit
import Derived.SizedLaws
import Derived.ChangeMaps5
namespace Go.Proofs.YtfljbnhhkdaobaaGreat
open Go Go.RowKit Go.Proofs.Bw
set_option linter.unusedVariables false
set_option linter.unusedSimpArgs false
def tLs (a x : T) : Nat → T
  | 0 => apT (tCo sList__nil []) [a]
  | k + 1 => apT (tCo sList__cons []) [a, x, tLs a x k]
theorem tLs_nodes {a x : T} (ha : nodes a = true) (hx : nodes x = true) : ∀ k, nodes (tLs a x k) = true
  | 0 => by rw [tLs, nodes_apT, nodess, nodess, ha]; decide +kernel
  | k + 1 => by rw [tLs, nodes_apT, nodess, nodess, nodess, nodess, ha, hx, tLs_nodes ha hx k]; decide +kernel
theorem tLs_size {a x : T} (ha : size a ≤ 200) (hx : size x ≤ 200) : ∀ k, size (tLs a x k) ≤ 202 + 404 * k
  | 0 => by rw [tLs, size_apT, sizes, sizes, tCo, size, sizes]; simp only [List.length_cons, List.length_nil]; omega
  | k + 1 => by
    have := tLs_size ha hx k
    rw [tLs, size_apT, sizes, sizes, sizes, sizes, tCo, size, sizes]; simp only [List.length_cons, List.length_nil]; omega
theorem tLs_depth {a x : T} (ha : size a ≤ 200) (hx : size x ≤ 200) : ∀ k, depth (tLs a x k) ≤ 201 + 3 * k
  | 0 => by
    have := depth_size a
    have h := depth_apT [a] (tCo sList__nil [])
    rw [depths, depths, tCo, depth, depths] at h
    simp only [List.length_cons, List.length_nil] at h
    rw [tLs, tCo]; omega
  | k + 1 => by
    have := tLs_depth ha hx k
    have := depth_size a
    have := depth_size x
    have h := depth_apT [a, x, tLs a x k] (tCo sList__cons [])
    rw [depths, depths, depths, depths, tCo, depth, depths] at h
    simp only [List.length_cons, List.length_nil] at h
    rw [tLs, tCo]; omega
theorem lrecS : ((findI SL sList__rec).isSome, (getI SL sList__rec).kind, (getI SL sList__rec).params, ownN (getI SL sList__rec), (getI SL sList__rec).index) = (true, 6, (([levN 0].length : Nat) : Int), 4, 0) := by unfold SL smpL; rw [addAll_F]; decide +kernel
theorem lnilS : ((findI SL sList__nil).isSome, (getI SL sList__nil).kind, (getI SL sList__nil).fixed) = (true, 5, 1) := by unfold SL smpL; rw [addAll_F]; decide +kernel
theorem lconsS : ((findI SL sList__cons).isSome, (getI SL sList__cons).kind, (getI SL sList__cons).fixed) = (true, 5, 1) := by unfold SL smpL; rw [addAll_F]; decide +kernel
theorem lrn : okRl ((getI SL sList__rec).rules.find? fun r => decide (r.c = (getI SL sList__nil).name)) [levN 0] 0 = true := by unfold SL smpL; rw [addAll_F]; decide +kernel
theorem lrc : okRl ((getI SL sList__rec).rules.find? fun r => decide (r.c = (getI SL sList__cons).name)) [levN 0] 2 = true := by unfold SL smpL; rw [addAll_F]; decide +kernel
theorem lnz : ((getI SL sList__rec).rules.find? fun r => decide (r.c = (getI SL sN_zero).name)).isNone = true := by unfold SL smpL; rw [addAll_F]; decide +kernel
theorem lns : ((getI SL sList__rec).rules.find? fun r => decide (r.c = (getI SL sN_succ).name)).isNone = true := by unfold SL smpL; rw [addAll_F]; decide +kernel
def lsQ (a c z s x : T) (k : Nat) (b : Bool) : List T := [a, c, z, s, tLs a x k] ++ bif b then [x] else []
def tRecL (a c z s x : T) (k : Nat) (b : Bool) : T := apT (tCo sList__rec [levN 0]) (lsQ a c z s x k b)
def lsL (a c z s x : T) (k : Nat) (b : Bool) : List T := [a, c, z, s] ++ (match k with | 0 => [] | k + 1 => [x, tLs a x k]) ++ bif b then [x] else []
section
variable {a c z s x : T} {k : Nat} {b : Bool} (ha : mayT a = true ∧ size a ≤ 200) (hc : mayT c = true ∧ size c ≤ 200) (hz : mayT z = true ∧ size z ≤ 200) (hs : mayT s = true ∧ size s ≤ 200) (hx : mayT x = true ∧ size x ≤ 200) (hk : k ≤ 20)
include ha hx hk in
theorem tLs_may : mayT (tLs a x k) = true :=
  (mayT_iff _).2 ⟨tLs_nodes (may_nodes ha.1) (may_nodes hx.1) k, by have := tLs_size ha.2 hx.2 k; omega, by have := tLs_depth ha.2 hx.2 k; omega⟩
include ha hc hz hs hx hk
theorem recL_may : mayT (tRecL a c z s x k b) = true := by
  have h1 := tLs_size ha.2 hx.2 k
  have h2 := tLs_depth ha.2 hx.2 k
  have h3 := tLs_nodes (may_nodes ha.1) (may_nodes hx.1) k
  have d1 := depth_size a
  have d2 := depth_size c
  have d3 := depth_size z
  have d4 := depth_size s
  have d5 := depth_size x
  unfold tRecL lsQ
  refine mayT_apT (by decide +kernel) (nodess_of fun y hy => ?_) ?_ ?_
  · have h0 : y = a ∨ y = c ∨ y = z ∨ y = s ∨ y = tLs a x k ∨ y = x := by
      cases b
      · simp at hy
        rcases hy with h | h | h | h | h <;> simp [h]
      · simp at hy
        rcases hy with h | h | h | h | h | h <;> simp [h]
    rcases h0 with rfl | rfl | rfl | rfl | rfl | rfl
    · exact may_nodes ha.1
    · exact may_nodes hc.1
    · exact may_nodes hz.1
    · exact may_nodes hs.1
    · exact h3
    · exact may_nodes hx.1
  · cases b
    · show size (tCo sList__rec [levN 0]) + sizes [a, c, z, s, tLs a x k] + 5 ≤ 65536
      simp only [sizes, tCo, size]; omega
    · show size (tCo sList__rec [levN 0]) + sizes [a, c, z, s, tLs a x k, x] + 6 ≤ 65536
      simp only [sizes, tCo, size]; omega
  · cases b
    · show max (depth (tCo sList__rec [levN 0])) (depths [a, c, z, s, tLs a x k]) + 5 ≤ 4096
      simp only [depths, tCo, depth]; omega
    · show max (depth (tCo sList__rec [levN 0])) (depths [a, c, z, s, tLs a x k, x]) + 6 ≤ 4096
      simp only [depths, tCo, depth]; omega
theorem maj_ls : majB SL (tRecL a c z s x k b) = true ∧ majN SL (tRecL a c z s x k b) = 4 := by
  have hm := recL_may (b := b) ha hc hz hs hx hk
  have hS := lrecS
  simp only [Prod.mk.injEq] at hS
  obtain ⟨s1, s2, s3, s4, s5⟩ := hS
  have hl : (4 : Int) < ((lsQ a c z s x k b).length : Int) := by unfold lsQ; cases b <;> simp
  have hrb : recB SL (tRecL a c z s x k b) = true := by
    unfold recB tRecL
    rw [recX_co, head_co, args_co]
    show (decide ((3 : Int) = 3) && ((findI SL sList__rec).isSome && (decide ((getI SL sList__rec).kind = 6) && (decide ((([levN 0] : List L).length : Int) = (getI SL sList__rec).params) && decide (ownN (getI SL sList__rec) + (getI SL sList__rec).index < ((lsQ a c z s x k b).length : Int)))))) = true
    rw [s1, s2, s3, s4, s5, decide_eq_true (show (4 : Int) + 0 < ((lsQ a c z s x k b).length : Int) by omega)]; simp
  have h1 : majB SL (tRecL a c z s x k b) = true := by unfold majB; rw [hm, hrb]; rfl
  refine ⟨h1, ?_⟩
  unfold majN
  rw [if_pos h1]
  unfold tRecL
  rw [recX_co, s4, s5]; rfl
theorem iot_ls : ∃ V, T.k V = 5 ∧ iot SL (tRecL a c z s x k b) (tLs a x k) = (apT V (lsL a c z s x k b), 0) ∧ mayT (apT V (lsL a c z s x k b)) = true := by
  have hm := recL_may (b := b) ha hc hz hs hx hk
  have hu := tLs_may ha hx hk
  have d1 := depth_size a
  have d2 := depth_size c
  have d3 := depth_size z
  have d4 := depth_size s
  have d5 := depth_size x
  cases k with
  | zero =>
    cases b with
    | false =>
      exact iot_co (q := [a, c, z, s, tLs a x 0]) (p := [a]) lrecS lnilS lrn hm hu (by simp) rfl (by omega) (by omega) (by show sizes [a, c, z, s] + 4 ≤ 65000; simp only [sizes]; omega) (by show depths [a, c, z, s] + 4 ≤ 3800; simp only [depths]; omega)
    | true =>
      exact iot_co (q := [a, c, z, s, tLs a x 0, x]) (p := [a]) lrecS lnilS lrn hm hu (by simp) rfl (by omega) (by omega) (by show sizes [a, c, z, s, x] + 5 ≤ 65000; simp only [sizes]; omega) (by show depths [a, c, z, s, x] + 5 ≤ 3800; simp only [depths]; omega)
  | succ k =>
    have h1 := tLs_size ha.2 hx.2 k
    have h2 := tLs_depth ha.2 hx.2 k
    cases b with
    | false =>
      exact iot_co (q := [a, c, z, s, tLs a x (k + 1)]) (p := [a, x, tLs a x k]) lrecS lconsS lrc hm hu (by simp) rfl (by omega) (by omega) (by show sizes [a, c, z, s, x, tLs a x k] + 6 ≤ 65000; simp only [sizes]; omega) (by show depths [a, c, z, s, x, tLs a x k] + 6 ≤ 3800; simp only [depths]; omega)
    | true =>
      exact iot_co (q := [a, c, z, s, tLs a x (k + 1), x]) (p := [a, x, tLs a x k]) lrecS lconsS lrc hm hu (by simp) rfl (by omega) (by omega) (by show sizes [a, c, z, s, x, tLs a x k, x] + 7 ≤ 65000; simp only [sizes]; omega) (by show depths [a, c, z, s, x, tLs a x k, x] + 7 ≤ 3800; simp only [depths]; omega)
theorem iot_lsN : (iot SL (tRecL a c z s x k b) (tNum k)).2 = 6 := by
  have hm := recL_may (b := b) ha hc hz hs hx hk
  rw [iot_not hm (num_may (by omega))]
  unfold iotR tRecL
  cases k with
  | zero =>
    show (recX SL (apT (tCo sList__rec [levN 0]) _)).rules.find? (fun r => decide (r.c = (recX SL (apT (tCo sN_zero []) [])).name)) = none
    rw [recX_co, recX_co]; exact Option.isNone_iff_eq_none.1 lnz
  | succ k =>
    rw [recX_co, tNum, recX_co]; exact Option.isNone_iff_eq_none.1 lns
end
end Go.Proofs.YtfljbnhhkdaobaaGreat

/-
  RulesLists.
-/
namespace Go.Proofs.YtfljbnhhkdaobaaGreat
open Go Go.RowKit Go.Proofs.Bw
set_option linter.unusedVariables false
set_option linter.unusedSimpArgs false
theorem Num_dv {B : Nat → Prop} {w : World} {R : Nat → Prop} {v1 : Value} (n : Nat) (hn : n ≤ 1000000) (h : (dEq (.int .i64 n)).rep B R v1 w) : Runs Tryz.prog 37 #[v1] w fun v w' => Ext w w' ∧ (DV.T (tNum n)).rep B (fun k => w.heap.size ≤ k ∧ k < w'.heap.size) v w' := by
  have h : v1 = .int .i64 n := h
  subst h
  exact Num_d n hn
theorem flStoredX {w w' : World} {B : Nat → Prop} {t : T} {g : Nat} {C : Nat → Prop} {cs : List Value} (h : VT w (rdS B C w) cs t) (mm : Upd g w w') (no : ¬ C g) (nb : ¬ B g) : VT w' (fun k => ((B k ∨ C k) ∧ k < w.heap.size) ∧ k ≠ g) cs t :=
  (h.mono (R' := fun k => ((B k ∨ C k) ∧ k < w.heap.size) ∧ k ≠ g) fun k hk => ⟨hk, fun e => by subst e; exact hk.1.elim nb no⟩).mod (S := fun k => k = g) mm fun k hk e => hk.2 e
set_option maxHeartbeats 8000000 in
set_option maxRecDepth 20000 in
theorem lists8_runs {R : Nat → Prop} (n : Int) (hn : 0 ≤ n ∧ n ≤ 255) (a c z s d : T) (ca cc cz cs cx : List Value) (b : Bool) (w : World) (va : VT w R ca a) (vc : VT w R cc c) (vz : VT w R cz z) (vs : VT w R cs s) (vx : VT w R cx d) : Runs Tryz.prog 10 #[.int .u8 n, .agg ca.toArray, .agg cc.toArray, .agg cz.toArray, .agg cs.toArray, .agg cx.toArray, .bool b] w fun v w' => v = .bool true ∧ Ext w w' := by
  have va0 := va.small
  have vc0 := vc.small
  have vz0 := vz.small
  have vs0 := vs.small
  have vx0 := vx.small
  obtain ⟨ka, na, sa, lsa, tsa, laa, lca, taa, tca, ea, rfl, hka, hna, hsa, hlla, hlta, hLa, hTa⟩ := va.inv
  obtain ⟨kc, nc, sc, lsc, tsc, lac, lcc, tac, tcc, ec, rfl, hkc, hnc, hsc, hllc, hltc, hLc, hTc⟩ := vc.inv
  obtain ⟨kz, nz, sz, lsz, tsz, laz, lcz, taz, tcz, ez, rfl, hkz, hnz, hsz, hllz, hltz, hLz, hTz⟩ := vz.inv
  obtain ⟨ks, ns, ss, lss, tss, las, lcs, tas, tcs, es, rfl, hks, hns, hss, hlls, hlts, hLs, hTs⟩ := vs.inv
  obtain ⟨kd, nd, sd, lsd, tsd, lad, lcd, tad, tcd, ex, rfl, hkd, hnd, hsd, hlld, hltd, hLd, hTd⟩ := vx.inv
  refine Runs.of_vc (ρ := []) cx_ok [0, 1, 2, 3, 4, 5, 6, 8, 9, 10, 11, 12, 14, 15, 16, 17, 18, 19, 20, 21, 22, 23, 24, 25, 26, 27, 29, 30, 32, 38, 48, 71, 89, 108, 124, 138, 145, 146, 184, 208] [.v _, .a [.v (.int .u8 ka), .v (.int .i64 na), .v (.string sa), .v (.slice laa lsa.length lca), .v (.slice taa tsa.length tca)], .a [.v (.int .u8 kc), .v (.int .i64 nc), .v (.string sc), .v (.slice lac lsc.length lcc), .v (.slice tac tsc.length tcc)], .a [.v (.int .u8 kz), .v (.int .i64 nz), .v (.string sz), .v (.slice laz lsz.length lcz), .v (.slice taz tsz.length tcz)], .a [.v (.int .u8 ks), .v (.int .i64 ns), .v (.string ss), .v (.slice las lss.length lcs), .v (.slice tas tss.length tcs)], .a [.v (.int .u8 kd), .v (.int .i64 nd), .v (.string sd), .v (.slice lad lsd.length lcd), .v (.slice tad tsd.length tcd)], .v _] Tryz.func10 rfl rfl rfl (Holds.nil w) ?_
  intro g1 w1 e1 x1 z1 hh1
  intro g2 w2 e2 x2 z2 hh2
  intro g3 w3 e3 x3 z3 hh3
  intro g4 w4 e4 x4 z4 hh4
  intro g5 w5 e5 x5 z5 hh5
  have y5 := x1.trans (x2.trans (x3.trans (x4.trans x5)))
  refine (Sample_runs w5 (fun _ => False) (fun _ h => h.elim)).mono ?_
  rintro _ w6 ⟨x6, e, m, A, cap, rfl, hE6⟩
  have hh6 := hh5.ext x6
  have z6 := x6.size
  have Y6 := y5.trans x6
  refine Lands.ret (s := .t [.v (.pointer (some ⟨e, 0, none⟩)), .v (.bool true)]) rfl rfl hh6 ?_
  refine Or.inl (And.intro (fun hx => nomatch (rfl).symm.trans hx) (fun _ => ?_))
  have in6 : ∀ k, R k ∧ k < w.heap.size → RdE w6 (fun _ => False) e m A k := fun k hk => ⟨⟨by have := hk.2; omega, id⟩, fun hm => by have := hE6.lt k hm; have := hk.2; omega⟩
  have va6 := (VT.ext va0 Y6).mono in6
  have vc6 := (VT.ext vc0 Y6).mono in6
  have vz6 := (VT.ext vz0 Y6).mono in6
  have vs6 := (VT.ext vs0 Y6).mono in6
  have vx6 := (VT.ext vx0 Y6).mono in6
  refine OpT.buildE (E := encT) (R := (RdE w6 (fun _ => False) e m A)) (vs := [_, _, _, _, _]) (l := [a, c, z, s, d]) Tryz.zeroValue33 (.cons rfl (.cons rfl (.cons rfl (.cons rfl (.cons rfl (.nil)))))) Tryz.underlying31 Tryz.sizeOf33 rfl rfl (Reps.cons va6 (Reps.cons vc6 (Reps.cons vz6 (Reps.cons vs6 (Reps.cons vx6 (Reps.nil _ _ _)))))) rfl rfl hh6 fun w7 g7 e7 x7 z7 o7 hh7 => ?_
  refine vLoop_upd (σ := Nat × Int) [14, 18, 19, 45, 46, 47, 48, 49, 50, 51, 52, 53, 54, 55, 56, 57, 58, 59, 60, 61, 62, 63, 64, 65, 66, 67, 68, 69, 70, 71, 72, 73, 74, 75, 76, 77, 78, 79] (fun s => [(18, .v (.int .i64 s.2)), (19, .v (.int .i64 s.1))]) [] (fun _ => []) (fun q w' => Ext w7 w' ∧ q.1 ≤ [a, c, z, s, d].length ∧ (q.1 ≤ q.2 ∧ q.2 ≤ 200 * q.1) ∧ ∀ u ∈ [a, c, z, s, d].take q.1, mayT u = true ∧ size u ≤ 200) (fun q => [a, c, z, s, d].length - q.1) (0, 0) (fun _ => ⟨rfl, rfl⟩)
    ⟨(by repeat (first | exact trivial | refine And.intro rfl ?_)), (by repeat (first | exact trivial | refine And.intro rfl ?_)), (by repeat (first | exact trivial | refine And.intro rfl ?_)), (by repeat (first | exact trivial | refine And.intro rfl ?_)), Ext.refl _, Nat.zero_le _, by omega, fun u hu => by simp at hu⟩ ?_
  rintro ⟨i, sz⟩ w8 hh8 ⟨x8, hi, hs, hall⟩
  simp only at hi hs hall
  have z8 := x8.size
  have Y8 := Y6.trans (x7.trans x8)
  have hl5 : [a, c, z, s, d].length = 5 := rfl
  refine Or.inl (And.intro (fun h => ?_) (fun h => ?_))
  · have hil : i < [a, c, z, s, d].length := by have := of_decide_eq_true h; simp only at this; omega
    have htk := List.take_succ_eq_append_getElem hil
    obtain ⟨a1, cs1, ha1, hR1, hrow, hv1⟩ := (o7.sl.ext x8).at hil
    generalize [a, c, z, s, d][i] = u at *
    have hv1 : VT w8 _ cs1 u := hv1
    have hu0 := hv1
    obtain ⟨ku, nu, su, lsu, tsu, lau, lcu, tau, tcu, eu, rfl, hku, hnu, hsu, hllu, hltu, hLu, hTu⟩ := hv1.inv
    refine OpT.indexAddr Tryz.underlying31 Tryz.sizeOf33 rfl rfl ha1 (by first | omega | (simp only [lenOk] at *; omega)) ?_; refine Lands.v hh8 ?_
    refine OpT.loadA Tryz.isAgg33 (by exact Tryz.sizeOf33) rfl hrow ?_; refine Lands.ret (s := .a [.v (.int .u8 ku), .v (.int .i64 nu), .v (.string su), .v (.slice lau lsu.length lcu), .v (.slice tau tsu.length tcu)]) rfl rfl hh8 ?_
    refine vcZ (rDeep_runs u _ w8 _ hu0) hh8 fun w9 x9 z9 hh9 => ?_
    have hsz62 : isDeep u = false → size u ≤ 131072 := fun h => (isDeep_no h).1
    generalize hdu : isDeep u = du at *
    refine Or.inl (Exists.intro (.pointer (some (a1.add (i * 5)))) (And.intro (fun _ => OpT.indexAddr Tryz.underlying31 Tryz.sizeOf33 rfl rfl ha1 (by omega) ⟨rfl, Ext.refl _⟩) (fun w10 x10 hh10 => ?_)))
    refine Or.inl (Exists.intro (.agg [Value.int .u8 ku, Value.int .i64 nu, Value.string su, Value.slice lau lsu.length lcu, Value.slice tau tsu.length tcu].toArray) (And.intro (fun _ => OpT.loadA Tryz.isAgg33 (by exact Tryz.sizeOf33) rfl (hrow.ext (x9.trans x10)) ⟨rfl, Ext.refl _⟩) (fun w11 x11 hh11 => ?_)))
    refine Or.inl (Exists.intro (.bool (mayT u)) (And.intro (fun _ => rMay_runs u _ w11 _ (VT.ext hu0 (x9.trans (x10.trans x11)))) (fun w12 x12 hh12 => ?_)))
    generalize hmu : mayT u = mu at *
    refine Or.inl (Exists.intro (.pointer (some (a1.add (i * 5)))) (And.intro (fun _ => OpT.indexAddr Tryz.underlying31 Tryz.sizeOf33 rfl rfl ha1 (by omega) ⟨rfl, Ext.refl _⟩) (fun w13 x13 hh13 => ?_)))
    refine Or.inl (Exists.intro (.agg [Value.int .u8 ku, Value.int .i64 nu, Value.string su, Value.slice lau lsu.length lcu, Value.slice tau tsu.length tcu].toArray) (And.intro (fun _ => OpT.loadA Tryz.isAgg33 (by exact Tryz.sizeOf33) rfl (hrow.ext (x9.trans (x10.trans (x11.trans (x12.trans x13))))) ⟨rfl, Ext.refl _⟩) (fun w14 x14 hh14 => ?_)))
    have x814 := x9.trans (x10.trans (x11.trans (x12.trans (x13.trans x14))))
    refine Or.inl (Exists.intro (.int .i64 (size u)) (And.intro (fun hp => ?_) (fun w15 x15 hh15 => ?_)))
    · have hd0 : du = false := by cases du <;> cases mu <;> simp [sel] at hp ⊢
      have := hsz62 hd0
      exact rSize_runs u _ w14 _ (VT.ext hu0 x814) (by omega)
    have x815 := x814.trans x15
    have hsp := size_pos u
    refine Or.inl (And.intro (fun h => ?_) (fun h => ?_))
    · refine vcZ (works8_runs w15) hh15 fun w16 x16 z16 hh16 => ?_
      exact ⟨rfl, Y8.trans (x815.trans x16)⟩
    · have hsm : mu = true ∧ size u ≤ 200 := by cases du <;> cases mu <;> simp [sel] at h <;> simp; omega
      refine OpT.indexAddr Tryz.underlying31 Tryz.sizeOf33 rfl rfl ha1 (by first | omega | (simp only [lenOk] at *; omega)) ?_; refine Lands.v hh15 ?_
      refine OpT.loadA Tryz.isAgg33 (by exact Tryz.sizeOf33) rfl (hrow.ext x815) ?_; refine Lands.ret (s := .a [.v (.int .u8 ku), .v (.int .i64 nu), .v (.string su), .v (.slice lau lsu.length lcu), .v (.slice tau tsu.length tcu)]) rfl rfl hh15 ?_
      refine vcZ (rSize_runs u _ w15 _ (VT.ext hu0 x815) (by omega)) hh15 fun w16 x16 z16 hh16 => ?_
      refine vsd (by simp only [inKind]; omega) ?_
      refine vsd (by simp only [inKind]; omega) ?_
      have hall' : ∀ y ∈ [a, c, z, s, d].take (i + 1), mayT y = true ∧ size y ≤ 200 := fun y hy => by
        rw [htk] at hy
        rcases List.mem_append.1 hy with hy | hy
        · exact hall y hy
        · rw [List.mem_singleton.1 hy]; exact ⟨hmu.trans hsm.1, hsm.2⟩
      exact Exists.intro ((i + 1, sz + size u)) ⟨by simp only; omega, esub_over (by repeat (first | exact trivial | refine And.intro rfl ?_)) (by repeat (first | exact trivial | refine And.intro rfl ?_)), hsub_over (by repeat (first | exact trivial | refine And.intro rfl ?_)) (by repeat (first | exact trivial | refine And.intro rfl ?_)), x8.trans (x815.trans x16), by omega, by simp only; omega, hall'⟩
  have hi5 : i = 5 := by have := of_decide_eq_false h; simp only at this; omega
  subst hi5
  clear h hi
  have ga := hall a (by simp)
  have gc := hall c (by simp)
  have gz := hall z (by simp)
  have gs := hall s (by simp)
  have gx := hall d (by simp)
  clear hall
  have hE8 := hE6.ext (x7.trans x8)
  have hX8 : ∀ k, False → k < w8.heap.size := fun _ h => h.elim
  have va8 := VT.re va6 (x7.trans x8)
  have vc8 := VT.re vc6 (x7.trans x8)
  have vz8 := VT.re vz6 (x7.trans x8)
  have vs8 := VT.re vs6 (x7.trans x8)
  have vx8 := VT.re vx6 (x7.trans x8)
  obtain ⟨k, hk⟩ : ∃ k : Nat, n % 20 = k := ⟨(n % 20).toNat, by omega⟩
  have hk20 : k ≤ 20 := by omega
  refine vsd (by simp only [inKind]; omega) ?_
  refine vsd (by omega) ?_
  rw [hk]
  have y8 : Ext w8 w8 := Ext.refl _
  refine vFlow_mk 5 (RdE w8 (fun _ => False) e m A) [.T (tCo sList__nil []), .T a, .ST [a], .T (apT (tCo sList__nil []) [a]), .A] rfl fun w9 x9 z9 hh9 => ?_
  refine And.intro (fun vs Rs w2 x hh hR_  => flCall (Co0_d sList__nil (by decide)) hh fun v w3 _ q => DV.mono (R' := fun k => w2.heap.size ≤ k ∧ k < w3.heap.size) _ (fun k h => h) (Ext.refl _) q) ?_
  refine And.intro (fun vs Rs w2 x hh hR_  => ⟨Ext.refl _, flLoadE va8 (x9.trans x) RdE.lt⟩) ?_
  refine And.intro (fun vs Rs w2 x hh hR_ h1 => by
      obtain ⟨c1, e1, k1_⟩ := h1
      refine OpT.buildE (E := encT) (R := rdS (RdE w8 (fun _ => False) e m A) (fun k => Rs 1 k) w2) (vs := [vs 1]) (css := [c1]) (l := [a]) Tryz.zeroValue33 (.cons rfl (.nil)) Tryz.underlying31 Tryz.sizeOf33 rfl (by simp [e1, Value.cells]) (Reps.cons (VT.mono k1_ fun k hk => ⟨hk.1.imp id fun h => h, hk.2⟩) (Reps.nil _ _ _)) rfl rfl hh fun w3 g e x3 z3 o3 hh3 => ?_
      exact ⟨x3, _, _, rfl, by simp [lenOk], o3.sl.mono fun k hk => ⟨hk.1.elim (fun h => h.1.imp id fun h => .inl h) (fun h => .inr (.inr (⟨h, hk.2⟩))), hk.2⟩⟩) ?_
  refine And.intro (fun vs Rs w2 x hh hR_ h1 h2 => flCall (A_d h1 h2) hh fun v w3 _ q => DV.mono (R' := fun k => Rs 0 k ∨ (Rs 2 k ∨ (w2.heap.size ≤ k ∧ k < w3.heap.size))) _ (fun k => fun h => h.elim (fun h => .inl h) (fun h => h.elim (fun h => .inr (.inl h)) (fun h => .inr (.inr (h))))) (Ext.refl _) q) ?_
  refine And.intro (fun vs Rs w2 x hh hR_  => by
      intro g w3 e x3 z3 hh3
      exact ⟨x3, g, rfl, ⟨by omega, by omega⟩, hh3.box 5 _ rfl⟩) ?_
  intro vs Os w10 x10 hh10 hp hO hd
  have q10 := x10.size
  have p10 : (DV.T (apT (tCo sList__nil []) [a])).rep _ _ _ _ := hp 3 (by omega)
  have pa10 : DV.A.rep _ _ _ _ := hp 4 (by omega)
  obtain ⟨cs10, es10, h10⟩ := p10
  obtain ⟨g10, eg10, hg10, bg10⟩ := pa10
  replace hg10 := flCum_own (by rfl) hg10
  have gO10 := hO _ _ hg10
  have h10x := h10
  obtain ⟨ks10, ns10, ss10, lss10, tss10, las10, lcs10, tas10, tcs10, e10, rfl, hks10, hns10, hss10, hlls10, hlts10, hLs10, hTs10⟩ := h10.inv
  refine Exists.intro [g10] (Exists.intro _ (Exists.intro [.v (vs 0), .v (vs 1), .v (vs 2), .a [.v (.int .u8 ks10), .v (.int .i64 ns10), .v (.string ss10), .v (.slice las10 lss10.length lcs10), .v (.slice tas10 tss10.length tcs10)], .p 5 0] ⟨Holds.add hh10 (c := [.v (.int .u8 0), .v (.int .i64 0), .v (.string noS), .v (.slice none 0 0), .v (.slice none 0 0)]) (fun i hi he => by have := hh9.lt i hi; omega) gO10.2 bg10 rfl, rfl, by rw [show (List.range 5).map vs = [vs 0, vs 1, vs 2, vs 3, vs 4] from rfl, eg10, es10]; rfl, ?_⟩))
  intro w11 m11 z11 hh11
  replace m11 : Upd g10 w10 w11 := m11
  have q11 := m11.size
  have x8_11 : Ext w8 w11 := x9.trans (x10.upd m11 (by omega))
  have k11 : VT w11 (RdE w11 (fun _ => False) e m A) _ _ := (flStoredE h10x m11 (flCum_no (s := 3) (A := 4) (by decide) (by rfl) hd hg10) (fun hb => by have := hb.1.1; omega)).mono fun k hk => by
    rcases hk.1 with h | ⟨q, _, hq⟩
    · exact RdE.ext x8_11 k h
    · have := hO q k hq; exact RdE.new hE8 hX8 k (by omega) (by omega)
  have y11 : Ext w8 w11 := y8.trans x8_11
  have hG := gO10
  have kl11 : VT w11 (RdE w11 (fun k => k = g10) e m A) _ (tLs a d 0) := (flStoredX h10x m11 (flCum_no (s := 3) (A := 4) (by decide) (by rfl) hd hg10) (fun hb => by have := hb.1.1; omega)).mono fun k hk => by
    rcases hk.1.1 with h | ⟨q, _, hq⟩
    · exact ⟨⟨by have := h.1.1; omega, hk.2⟩, h.2⟩
    · have := hO q k hq; exact ⟨⟨by omega, hk.2⟩, (RdE.new hE8 hX8 (w' := w11) k (by omega) (by omega)).2⟩
  have hX1 : ∀ {w' : World}, w11.heap.size ≤ w'.heap.size → ∀ k, k = g10 → k < w'.heap.size := fun hx k hk => by omega
  have hE1 : ∀ {w' : World}, Ext w8 w' → EX w' (fun k => k = g10) w5.heap.size e m A cap SL := fun d => hE8.wid d fun k hk => .inr (by omega)
  have in8 : ∀ {w' : World}, Ext w8 w' → ∀ k, RdE w8 (fun _ => False) e m A k → RdE w' (fun k => k = g10) e m A k := fun d k hk => ⟨⟨by have := d.size; have := hk.1.1; omega, by have := hk.1.1; omega⟩, hk.2⟩
  refine vLoop_upd (σ := Nat × TC) [22, 87, 88, 89, 90, 91, 92, 93, 94, 95, 96, 97] (fun q => [(22, .v (.int .i64 q.1))]) [5] (fun q => [(5, [.v (.int .u8 q.2.k), .v (.int .i64 q.2.n), .v (.string q.2.s), .v (.slice q.2.la q.2.ln q.2.lc), .v (.slice q.2.ta q.2.tn q.2.tc)])]) (fun q w' => Ext w8 w' ∧ w11.heap.size ≤ w'.heap.size ∧ q.1 ≤ k ∧ VT w' (RdE w' (fun k => k = g10) e m A) q.2.cells (tLs a d q.1)) (fun q => k - q.1) (0, ⟨ks10, ns10, ss10, las10, lss10.length, lcs10, tas10, tss10.length, tcs10⟩) (fun _ => ⟨rfl, rfl⟩)
    ⟨(by repeat (first | exact trivial | refine And.intro rfl ?_)), (by repeat (first | exact trivial | refine And.intro rfl ?_)), (by repeat (first | exact trivial | refine And.intro rfl ?_)), (by repeat (first | exact trivial | refine And.intro rfl ?_)), x8_11, Nat.le_refl _, Nat.zero_le _, kl11⟩ ?_
  rintro ⟨i, lc⟩ w12 hh12 ⟨x12, q12, hi, vl12⟩
  simp only at hi vl12
  have z12 := x12.size
  have hE12 := hE1 x12
  have hX12 := hX1 q12
  have va12 := (VT.ext va8 x12).mono (in8 x12)
  have vc12 := (VT.ext vc8 x12).mono (in8 x12)
  have vz12 := (VT.ext vz8 x12).mono (in8 x12)
  have vs12 := (VT.ext vs8 x12).mono (in8 x12)
  have vx12 := (VT.ext vx8 x12).mono (in8 x12)
  refine Or.inl (And.intro (fun h => ?_) (fun h => ?_))
  · have hil : i < k := by have := of_decide_eq_true h; simp only at this; omega
    have y12 : Ext w12 w12 := Ext.refl _
    refine vFlow_mk 6 (RdE w12 (fun k => k = g10) e m A) [.T (tCo sList__cons []), .T a, .T d, .T (tLs a d i), .ST [a, d, (tLs a d i)], .T (apT (tCo sList__cons []) [a, d, (tLs a d i)])] rfl fun w13 x13 z13 hh13 => ?_
    refine And.intro (fun vs Rs w2 x hh hR_  => flCall (Co0_d sList__cons (by decide)) hh fun v w3 _ q => DV.mono (R' := fun k => w2.heap.size ≤ k ∧ k < w3.heap.size) _ (fun k h => h) (Ext.refl _) q) ?_
    refine And.intro (fun vs Rs w2 x hh hR_  => ⟨Ext.refl _, flLoadE va12 (x13.trans x) RdE.lt⟩) ?_
    refine And.intro (fun vs Rs w2 x hh hR_  => ⟨Ext.refl _, flLoadE vx12 (x13.trans x) RdE.lt⟩) ?_
    refine And.intro (fun vs Rs w2 x hh hR_  => ⟨Ext.refl _, flLoadE vl12 (x13.trans x) RdE.lt⟩) ?_
    refine And.intro (fun vs Rs w2 x hh hR_ h1 h2 h3 => by
        obtain ⟨c1, e1, k1_⟩ := h1
        obtain ⟨c2, e2, k2_⟩ := h2
        obtain ⟨c3, e3, k3_⟩ := h3
        refine OpT.buildE (E := encT) (R := rdS (RdE w12 (fun k => k = g10) e m A) (fun k => Rs 1 k ∨ (Rs 2 k ∨ (Rs 3 k))) w2) (vs := [vs 1, vs 2, vs 3]) (css := [c1, c2, c3]) (l := [a, d, (tLs a d i)]) Tryz.zeroValue33 (.cons rfl (.cons rfl (.cons rfl (.nil)))) Tryz.underlying31 Tryz.sizeOf33 rfl (by simp [e1, e2, e3, Value.cells]) (Reps.cons (VT.mono k1_ fun k hk => ⟨hk.1.imp id fun h => .inl h, hk.2⟩) (Reps.cons (VT.mono k2_ fun k hk => ⟨hk.1.imp id fun h => .inr (.inl h), hk.2⟩) (Reps.cons (VT.mono k3_ fun k hk => ⟨hk.1.imp id fun h => .inr (.inr (h)), hk.2⟩) (Reps.nil _ _ _)))) rfl rfl hh fun w3 g e x3 z3 o3 hh3 => ?_
        exact ⟨x3, _, _, rfl, by simp [lenOk], o3.sl.mono fun k hk => ⟨hk.1.elim (fun h => h.1.imp id fun h => h.elim .inl fun h => .inr (h.elim .inl fun h => .inr (.inl h))) (fun h => .inr (.inr (.inr (.inr (⟨h, hk.2⟩))))), hk.2⟩⟩) ?_
    refine And.intro (fun vs Rs w2 x hh hR_ h1 h2 => flCall (A_d h1 h2) hh fun v w3 _ q => DV.mono (R' := fun k => Rs 0 k ∨ (Rs 4 k ∨ (w2.heap.size ≤ k ∧ k < w3.heap.size))) _ (fun k => fun h => h.elim (fun h => .inl h) (fun h => h.elim (fun h => .inr (.inl h)) (fun h => .inr (.inr (h))))) (Ext.refl _) q) ?_
    intro vs Os w14 x14 hh14 hp hO hd
    have q14 := x14.size
    have p14 : (DV.T (apT (tCo sList__cons []) [a, d, (tLs a d i)])).rep _ _ _ _ := hp 5 (by omega)
    obtain ⟨cs14, es14, h14⟩ := p14
    have h14x := h14
    obtain ⟨ks14, ns14, ss14, lss14, tss14, las14, lcs14, tas14, tcs14, e14, rfl, hks14, hns14, hss14, hlls14, hlts14, hLs14, hTs14⟩ := h14.inv
    refine Exists.intro [] (Exists.intro _ (Exists.intro [.v (vs 0), .v (vs 1), .v (vs 2), .v (vs 3), .v (vs 4), .a [.v (.int .u8 ks14), .v (.int .i64 ns14), .v (.string ss14), .v (.slice las14 lss14.length lcs14), .v (.slice tas14 tss14.length tcs14)]] ⟨hh14, rfl, by rw [show (List.range 6).map vs = [vs 0, vs 1, vs 2, vs 3, vs 4, vs 5] from rfl, es14]; rfl, ?_⟩))
    intro w15 m15 z15 hh15
    replace m15 : Upd g10 w14 w15 := m15
    have q15 := m15.size
    have k15 : VT w15 (RdE w15 (fun k => k = g10) e m A) [Value.int .u8 ks14, Value.int .i64 ns14, Value.string ss14, Value.slice las14 lss14.length lcs14, Value.slice tas14 tss14.length tcs14] (apT (tCo sList__cons []) [a, d, (tLs a d i)]) := by
      refine (h14x.mod (S := fun k => k = g10) m15 fun k hk e => ?_).mono fun k hk => ?_
      · rcases hk.1 with h | ⟨q, _, hq⟩
        · exact h.1.2 e
        · have := hO q k hq
          have e : k = g10 := e
          omega
      · rcases hk.1 with h | ⟨q, _, hq⟩
        · exact ⟨⟨by have := h.1.1; omega, h.1.2⟩, h.2⟩
        · have := hO q k hq
          exact RdE.new hE12 hX12 k (by omega) (by have := hk.2; omega)
    refine vsd (by simp only [inKind]; omega) ?_
    exact Exists.intro ((i + 1, ⟨ks14, ns14, ss14, las14, lss14.length, lcs14, tas14, tss14.length, tcs14⟩)) ⟨by simp only; omega, esub_over (by repeat (first | exact trivial | refine And.intro rfl ?_)) (by repeat (first | exact trivial | refine And.intro rfl ?_)), hsub_over (by repeat (first | exact trivial | refine And.intro rfl ?_)) (by repeat (first | exact trivial | refine And.intro rfl ?_)), (x12.trans (x13.trans x14)).upd m15 (by omega), by omega, hil, k15⟩
  have hik : k = i := by have := of_decide_eq_false h; simp only at this; omega
  subst hik
  clear hi h z12
  have z12 := x12.size
  have y12 : Ext w12 w12 := Ext.refl _
  refine vFlow_mk 11 (RdE w12 (fun k => k = g10) e m A) [.L (levN 0), .SL [(levN 0)], .T (tCo sList__rec [(levN 0)]), .T a, .T c, .T z, .T s, .T (tLs a d k), .ST [a, c, z, s, (tLs a d k)], .T (apT (tCo sList__rec [(levN 0)]) [a, c, z, s, (tLs a d k)]), .A] rfl fun w13 x13 z13 hh13 => ?_
  refine And.intro (fun vs Rs w2 x hh hR_  => flCall (Lev_d 0 (by simp [i64ok])) hh fun v w3 _ q => DV.mono (R' := fun k => w2.heap.size ≤ k ∧ k < w3.heap.size) _ (fun k h => h) (Ext.refl _) q) ?_
  refine And.intro (fun vs Rs w2 x hh hR_ h1 => by
      obtain ⟨e1, k1_⟩ := h1
      refine OpT.buildE (E := encL) (R := rdS (RdE w12 (fun k => k = g10) e m A) (fun k => Rs 0 k) w2) (vs := [vs 0]) (css := [(levN 0).cells]) (l := [(levN 0)]) Tryz.zeroValue63 (.cons rfl (.nil)) Tryz.underlying30 Tryz.sizeOf63 rfl (by simp [e1, Value.cells]) (Reps.cons ⟨rfl, k1_⟩ (Reps.nil _ _ _)) rfl rfl hh fun w3 g e x3 z3 o3 hh3 => ?_
      exact ⟨x3, _, _, rfl, by simp [lenOk], o3.sl.mono fun k hk => ⟨hk.1.elim (fun h => h.1.imp id fun h => .inl h) (fun h => .inr (.inr (⟨h, hk.2⟩))), hk.2⟩⟩) ?_
  refine And.intro (fun vs Rs w2 x hh hR_ h1 => flCall (Co_d sList__rec (by decide) h1) hh fun v w3 _ q => DV.mono (R' := fun k => Rs 1 k ∨ (w2.heap.size ≤ k ∧ k < w3.heap.size)) _ (fun k => fun h => h.elim (fun h => .inl h) (fun h => .inr (h))) (Ext.refl _) q) ?_
  refine And.intro (fun vs Rs w2 x hh hR_  => ⟨Ext.refl _, flLoadE va12 (x13.trans x) RdE.lt⟩) ?_
  refine And.intro (fun vs Rs w2 x hh hR_  => ⟨Ext.refl _, flLoadE vc12 (x13.trans x) RdE.lt⟩) ?_
  refine And.intro (fun vs Rs w2 x hh hR_  => ⟨Ext.refl _, flLoadE vz12 (x13.trans x) RdE.lt⟩) ?_
  refine And.intro (fun vs Rs w2 x hh hR_  => ⟨Ext.refl _, flLoadE vs12 (x13.trans x) RdE.lt⟩) ?_
  refine And.intro (fun vs Rs w2 x hh hR_  => ⟨Ext.refl _, flLoadE vl12 (x13.trans x) RdE.lt⟩) ?_
  refine And.intro (fun vs Rs w2 x hh hR_ h1 h2 h3 h4 h5 => by
      obtain ⟨c1, e1, k1_⟩ := h1
      obtain ⟨c2, e2, k2_⟩ := h2
      obtain ⟨c3, e3, k3_⟩ := h3
      obtain ⟨c4, e4, k4_⟩ := h4
      obtain ⟨c5, e5, k5_⟩ := h5
      refine OpT.buildE (E := encT) (R := rdS (RdE w12 (fun k => k = g10) e m A) (fun k => Rs 3 k ∨ (Rs 4 k ∨ (Rs 5 k ∨ (Rs 6 k ∨ (Rs 7 k))))) w2) (vs := [vs 3, vs 4, vs 5, vs 6, vs 7]) (css := [c1, c2, c3, c4, c5]) (l := [a, c, z, s, (tLs a d k)]) Tryz.zeroValue33 (.cons rfl (.cons rfl (.cons rfl (.cons rfl (.cons rfl (.nil)))))) Tryz.underlying31 Tryz.sizeOf33 rfl (by simp [e1, e2, e3, e4, e5, Value.cells]) (Reps.cons (VT.mono k1_ fun k hk => ⟨hk.1.imp id fun h => .inl h, hk.2⟩) (Reps.cons (VT.mono k2_ fun k hk => ⟨hk.1.imp id fun h => .inr (.inl h), hk.2⟩) (Reps.cons (VT.mono k3_ fun k hk => ⟨hk.1.imp id fun h => .inr (.inr (.inl h)), hk.2⟩) (Reps.cons (VT.mono k4_ fun k hk => ⟨hk.1.imp id fun h => .inr (.inr (.inr (.inl h))), hk.2⟩) (Reps.cons (VT.mono k5_ fun k hk => ⟨hk.1.imp id fun h => .inr (.inr (.inr (.inr (h)))), hk.2⟩) (Reps.nil _ _ _)))))) rfl rfl hh fun w3 g e x3 z3 o3 hh3 => ?_
      exact ⟨x3, _, _, rfl, by simp [lenOk], o3.sl.mono fun k hk => ⟨hk.1.elim (fun h => h.1.imp id fun h => h.elim .inl fun h => .inr (h.elim .inl fun h => .inr (h.elim .inl fun h => .inr (h.elim .inl fun h => .inr (.inl h))))) (fun h => .inr (.inr (.inr (.inr (.inr (.inr (⟨h, hk.2⟩))))))), hk.2⟩⟩) ?_
  refine And.intro (fun vs Rs w2 x hh hR_ h1 h2 => flCall (A_d h1 h2) hh fun v w3 _ q => DV.mono (R' := fun k => Rs 2 k ∨ (Rs 8 k ∨ (w2.heap.size ≤ k ∧ k < w3.heap.size))) _ (fun k => fun h => h.elim (fun h => .inl h) (fun h => h.elim (fun h => .inr (.inl h)) (fun h => .inr (.inr (h))))) (Ext.refl _) q) ?_
  refine And.intro (fun vs Rs w2 x hh hR_  => by
      intro g w3 e x3 z3 hh3
      exact ⟨x3, g, rfl, ⟨by omega, by omega⟩, hh3.box 6 _ rfl⟩) ?_
  intro vs Os w14 x14 hh14 hp hO hd
  have q14 := x14.size
  have p14 : (DV.T (apT (tCo sList__rec [(levN 0)]) [a, c, z, s, (tLs a d k)])).rep _ _ _ _ := hp 9 (by omega)
  have pa14 : DV.A.rep _ _ _ _ := hp 10 (by omega)
  obtain ⟨cs14, es14, h14⟩ := p14
  obtain ⟨g14, eg14, hg14, bg14⟩ := pa14
  replace hg14 := flCum_own (by rfl) hg14
  have gO14 := hO _ _ hg14
  have h14x := h14
  obtain ⟨ks14, ns14, ss14, lss14, tss14, las14, lcs14, tas14, tcs14, e14, rfl, hks14, hns14, hss14, hlls14, hlts14, hLs14, hTs14⟩ := h14.inv
  refine Exists.intro [g14] (Exists.intro _ (Exists.intro [.v (vs 0), .v (vs 1), .v (vs 2), .v (vs 3), .v (vs 4), .v (vs 5), .v (vs 6), .v (vs 7), .v (vs 8), .a [.v (.int .u8 ks14), .v (.int .i64 ns14), .v (.string ss14), .v (.slice las14 lss14.length lcs14), .v (.slice tas14 tss14.length tcs14)], .p 6 0] ⟨Holds.add hh14 (c := [.v (.int .u8 0), .v (.int .i64 0), .v (.string noS), .v (.slice none 0 0), .v (.slice none 0 0)]) (fun i hi he => by have := hh13.lt i hi; omega) gO14.2 bg14 rfl, rfl, by rw [show (List.range 11).map vs = [vs 0, vs 1, vs 2, vs 3, vs 4, vs 5, vs 6, vs 7, vs 8, vs 9, vs 10] from rfl, eg14, es14]; rfl, ?_⟩))
  intro w15 m15 z15 hh15
  replace m15 : Upd g14 w14 w15 := m15
  have q15 := m15.size
  have x12_15 : Ext w12 w15 := x13.trans (x14.upd m15 (by omega))
  have k15 : VT w15 (RdE w15 (fun k => k = g10) e m A) _ _ := (flStoredE h14x m15 (flCum_no (s := 9) (A := 10) (by decide) (by rfl) hd hg14) (fun hb => by have := hb.1.1; omega)).mono fun k hk => by
    rcases hk.1 with h | ⟨q, _, hq⟩
    · exact RdE.ext x12_15 k h
    · have := hO q k hq; exact RdE.new hE12 hX12 k (by omega) (by omega)
  have y15 : Ext w12 w15 := y12.trans x12_15
  have hG14 := gO14
  have kt15 : VT w15 (RdE w15 (fun k => k = g10 ∨ k = g14) e m A) [Value.int .u8 ks14, Value.int .i64 ns14, Value.string ss14, Value.slice las14 lss14.length lcs14, Value.slice tas14 tss14.length tcs14] (tRecL a c z s d k false) := (flStoredX h14x m15 (flCum_no (s := 9) (A := 10) (by decide) (by rfl) hd hg14) (fun hb => by have := hb.1.1; omega)).mono fun k hk => by
    rcases hk.1.1 with h | ⟨q, _, hq⟩
    · exact ⟨⟨by have := h.1.1; omega, fun e => e.elim h.1.2 hk.2⟩, h.2⟩
    · have := hO q k hq
      exact ⟨⟨by omega, fun e => e.elim (fun e => by omega) hk.2⟩, (RdE.new hE12 hX12 (w' := w15) k (by omega) (by omega)).2⟩
  have hX2 : ∀ {w' : World}, w15.heap.size ≤ w'.heap.size → ∀ k, (k = g10 ∨ k = g14) → k < w'.heap.size := fun hx k hk => by omega
  have hE2 : ∀ {w' : World}, Ext w8 w' → EX w' (fun k => k = g10 ∨ k = g14) w5.heap.size e m A cap SL := fun x => hE8.wid x fun k hk => .inr (by omega)
  have in9 : ∀ {w' : World}, Ext w8 w' → ∀ k, RdE w8 (fun _ => False) e m A k → RdE w' (fun k => k = g10 ∨ k = g14) e m A k := fun x k hk => ⟨⟨by have := x.size; have := hk.1.1; omega, by have := hk.1.1; omega⟩, hk.2⟩
  have Y15 : Ext w8 w15 := x12.trans x12_15
  have vl15 : VT w15 (RdE w15 (fun k => k = g10 ∨ k = g14) e m A) lc.cells (tLs a d k) := (VT.ext vl12 x12_15).mono fun k hk => ⟨⟨by have := hk.1.1; omega, fun e => e.elim hk.1.2 fun e => by have := hk.1.1; omega⟩, hk.2⟩
  have vd15 := (VT.ext vx8 Y15).mono (in9 Y15)
  refine vJoin_upd (σ := TC) [109, 110, 111, 112] (fun _ => []) [6] (fun q => [(6, [.v (.int .u8 q.k), .v (.int .i64 q.n), .v (.string q.s), .v (.slice q.la q.ln q.lc), .v (.slice q.ta q.tn q.tc)])]) (fun q w' => Ext w8 w' ∧ w15.heap.size ≤ w'.heap.size ∧ VT w' (RdE w' (fun k => k = g10 ∨ k = g14) e m A) q.cells (tRecL a c z s d k b) ∧ VT w' (RdE w' (fun k => k = g10 ∨ k = g14) e m A) lc.cells (tLs a d k)) (fun _ => ⟨rfl, rfl⟩) (fun h => ?_) (fun h => ?_) ?_
  · subst h
    refine OpT.buildE (E := encT) (R := (RdE w15 (fun k => k = g10 ∨ k = g14) e m A)) (vs := [_]) (l := [d]) Tryz.zeroValue33 (.cons rfl (.nil)) Tryz.underlying31 Tryz.sizeOf33 rfl rfl (Reps.cons vd15 (Reps.nil _ _ _)) rfl rfl hh15 fun w16 g16 e16 x16 z16 o16 hh16 => ?_
    refine (A_r (R := RdE w16 (fun k => k = g10 ∨ k = g14) e m A) (tRecL a c z s d k false) _ _ [d] 1 w16 (VT.re kt15 x16) (o16.sl.mono fun k hk => ?_) RdE.lt (by simp [lenOk])).mono ?_
    · rcases hk.1 with h | h
      · exact RdE.ext x16 k h
      · exact RdE.new (hE2 Y15) (hX2 (Nat.le_refl _)) k h hk.2
    rintro _ w17 ⟨x17, c17, rfl, h17⟩
    have hh17 := hh16.ext x17
    have z17 := x17.size
    have h17x := h17.mono (RdE.nw (hE2 (Y15.trans x16)) (hX2 (by omega)) x17)
    have vl17 := VT.re vl15 (x16.trans x17)
    obtain ⟨kq, nq, sq, lsq, tsq, laq, lcq, taq, tcq, e17, rfl, hkq, hnq, hsq, hllq, hltq, hLq, hTq⟩ := h17.inv
    refine Lands.ret (s := .a [.v (.int .u8 kq), .v (.int .i64 nq), .v (.string sq), .v (.slice laq lsq.length lcq), .v (.slice taq tsq.length tcq)]) rfl rfl hh17 ?_
    intro w18 m18 z18 hh18
    replace m18 : Upd g14 w17 w18 := m18
    have q18 := m18.size
    have kt18 : VT w18 (RdE w18 (fun k => k = g10 ∨ k = g14) e m A) [Value.int .u8 kq, Value.int .i64 nq, Value.string sq, Value.slice laq lsq.length lcq, Value.slice taq tsq.length tcq] (tRecL a c z s d k true) := (h17x.mod (S := fun k => k = g14) m18 fun k hk e => hk.1.2 (.inr e)).mono fun k hk => ⟨⟨by have := hk.1.1; omega, hk.1.2⟩, hk.2⟩
    have vl18 := (vl17.mod (S := fun k => k = g14) m18 fun k hk e => hk.1.2 (.inr e)).mono (R' := RdE w18 (fun k => k = g10 ∨ k = g14) e m A) fun k hk => ⟨⟨by have := hk.1.1; omega, hk.1.2⟩, hk.2⟩
    exact Exists.intro (⟨kq, nq, sq, laq, lsq.length, lcq, taq, tsq.length, tcq⟩) ⟨esub_over (by repeat (first | exact trivial | refine And.intro rfl ?_)) (by repeat (first | exact trivial | refine And.intro rfl ?_)), hsub_over (by repeat (first | exact trivial | refine And.intro rfl ?_)) (by repeat (first | exact trivial | refine And.intro rfl ?_)), (Y15.trans (x16.trans x17)).upd m18 (by omega), by omega, kt18, vl18⟩
  · subst h
    exact Exists.intro (⟨ks14, ns14, ss14, las14, lss14.length, lcs14, tas14, tss14.length, tcs14⟩) ⟨esub_over (by repeat (first | exact trivial | refine And.intro rfl ?_)) (by repeat (first | exact trivial | refine And.intro rfl ?_)), hsub_over (by repeat (first | exact trivial | refine And.intro rfl ?_)) (by repeat (first | exact trivial | refine And.intro rfl ?_)), Y15, Nat.le_refl _, kt15, vl15⟩
  rintro tc w18 hh18 ⟨x18, q18, kt18, vl18⟩
  have z18 := x18.size
  refine vcZ (Major_runs e m A cap SL (tRecL a c z s d k b) _ w18 (hE2 x18) (hX2 q18) kt18 SL_nok) hh18 fun w19 x19 z19 hh19 => ?_
  rw [(maj_ls (b := b) ga gc gz gs gx hk20).1, (maj_ls (b := b) ga gc gz gs gx hk20).2]
  refine Or.inl (And.intro (fun hx => nomatch (rfl).symm.trans hx) (fun _ => ?_))
  obtain ⟨V, hVk, hio, hmV⟩ := iot_ls (b := b) ga gc gz gs gx hk20
  have x819 := x18.trans x19
  refine (Iota_runs e m A cap SL (tRecL a c z s d k b) (tLs a d k) _ _ w19 (hE2 x819) (hX2 (by omega)) (VT.re kt18 x19) (VT.re vl18 x19) SL_nok).mono ?_
  rintro _ w20 ⟨x20, ⟨cr, rfl, hr⟩⟩
  rw [hio] at hr ⊢
  have hh20 := hh19.ext x20
  have z20 := x20.size
  generalize hP : apT V (lsL a c z s d k b) = P at *
  have hr0 := hr
  obtain ⟨kp, np, sp, lsp, tsp, lap, lcp, tap, tcp, ep, rfl, hkp, hnp, hsp, hllp, hltp, hLp, hTp⟩ := hr.inv
  refine Lands.ret (s := .t [.a [.v (.int .u8 kp), .v (.int .i64 np), .v (.string sp), .v (.slice lap lsp.length lcp), .v (.slice tap tsp.length tcp)], .v (.int .i64 0)]) rfl rfl hh20 ?_
  intro g21 w21 e21 x21 z21 hh21; intro w22 m22 z22 hh22; replace m22 : Upd g21 w21 w22 := m22; have x22 : Ext w20 w22 := x21.upd m22 (by omega); have q22 := x22.size
  refine vyes rfl ?_
  have hr22 := VT.re hr0 x22
  refine vcZ (rMay_runs _ _ w22 _ hr22) hh22 fun w23 x23 z23 hh23 => ?_
  rw [hmV]
  refine Or.inl (And.intro (fun hx => nomatch (rfl).symm.trans hx) (fun _ => ?_))
  refine (rSpine_r P _ _ w23 (VT.re hr22 x23) (may_nodes hmV) (Nat.le_trans (may_size hmV) (by omega)) RdE.lt).mono ?_
  rintro _ w24 ⟨x24, ch, Al, cl, los, rfl, hhd, hlo, ho⟩
  have hhP : head P = V := by rw [← hP, head_apT]; exact (T_k (by omega)).1
  have hsP : spArgs P = lsL a c z s d k b := by rw [← hP, spArgs_apT, (T_k (t := V) (by omega)).2]; rfl
  rw [hhP] at hhd
  rw [hsP] at ho ⊢
  have hh24 := hh23.ext x24
  have z24 := x24.size
  obtain ⟨kv, nv, sv, lsv, tsv, lav, lcv, tav, tcv, ev, rfl, hkv, hnv, hsv, hllv, hltv, hLv, hTv⟩ := hhd.inv
  refine Lands.ret (s := .t [.a [.v (.int .u8 kv), .v (.int .i64 nv), .v (.string sv), .v (.slice lav lsv.length lcv), .v (.slice tav tsv.length tcv)], .v (.slice Al (lsL a c z s d k b).length cl)]) rfl rfl hh24 ?_
  intro g25 w25 e25 x25 z25 hh25; intro w26 m26 z26 hh26; replace m26 : Upd g25 w25 w26 := m26; have x26 : Ext w24 w26 := x25.upd m26 (by omega); have q26 := x26.size
  have hln : 4 ≤ (lsL a c z s d k b).length ∧ (lsL a c z s d k b).length ≤ 7 := by cases k <;> cases b <;> simp [lsL]
  have hlt : b = true → (bif decide (0 < (k : Int)) then 6 else 4 : Int) + 1 = ((lsL a c z s d k b).length : Int) := fun h => by subst h; cases k <;> simp [lsL]
  have hlf : b = false → (bif decide (0 < (k : Int)) then 6 else 4 : Int) = ((lsL a c z s d k b).length : Int) := fun h => by subst h; cases k <;> simp [lsL]
  refine vJoin_upd (σ := Unit) [30, 147, 148] (fun _ => [(30, .v (.int .i64 ((lsL a c z s d k b).length)))]) [] (fun _ => []) (fun _ w' => Ext w26 w') (fun _ => ⟨rfl, rfl⟩) (fun h => ?_) (fun h => ?_) ?_
  · refine vsd (by rw [hlt h]; simp only [inKind]; omega) ?_
    rw [hlt h]
    exact Exists.intro (()) ⟨esub_over (by repeat (first | exact trivial | refine And.intro rfl ?_)) (by repeat (first | exact trivial | refine And.intro rfl ?_)), hsub_over (by repeat (first | exact trivial | refine And.intro rfl ?_)) (by repeat (first | exact trivial | refine And.intro rfl ?_)), Ext.refl _⟩
  · rw [hlf h]
    exact Exists.intro (()) ⟨esub_over (by repeat (first | exact trivial | refine And.intro rfl ?_)) (by repeat (first | exact trivial | refine And.intro rfl ?_)), hsub_over (by repeat (first | exact trivial | refine And.intro rfl ?_)) (by repeat (first | exact trivial | refine And.intro rfl ?_)), Ext.refl _⟩
  rintro ⟨⟩ w27 hh27 x27
  have z27 := x27.size
  refine vDrw_mk [9, 17, 25, 33] (.one 0 (.one 1 (.one 2 (.one 3 (.one 4 (.one 5 (.one 6 (.one 7 (.one 8 (.one 9 (.one 10 (.one 11 (.one 12 (.one 13 (.one 14 (.one 15 (.one 16 (.one 17 (.one 18 (.one 19 (.one 20 (.one 21 (.one 22 (.one 23 (.one 24 (.one 25 (.one 26 (.one 27 (.one 28 (.one 29 (.one 30 (.one 31 (.one 32 (.one 33 (.one 34 (.one 35 .nil)))))))))))))))))))))))))))))))))))) rfl fun w28 x28 hh28 => ?_
  refine vDrA [0, 1, 0, 7, 15, 31, 63, 127, 31, 511, 1023, 2047, 4095, 8191, 16383, 32767, 8191, 131071, 262143, 524287, 1048575, 2097151, 4194303, 8388607, 2097151, 33554431, 67108863, 134217727, 268435455, 536870911, 1073741823, 2147483647, 536870911, 8589934591, 17179869183, 34359738367] (by decide +kernel) ?_
  have z28 := x28.size
  have x2428 := x26.trans (x27.trans x28)
  have x828 := x819.trans (x20.trans (x22.trans (x23.trans (x24.trans x2428))))
  obtain ⟨a0, cs0, ha0, -, hrow0, hv0⟩ := (ho.sl.ext x2428).at (i := 0) (by omega)
  replace hv0 : VT w28 _ cs0 (lsL a c z s d k b)[0] := hv0
  rw [show (lsL a c z s d k b)[0] = a from by cases k <;> cases b <;> rfl] at hv0
  have hw0 := hv0
  obtain ⟨kf0, nf0, sf0, lsf0, tsf0, laf0, lcf0, taf0, tcf0, ef0, rfl, hkf0, hnf0, hsf0, hllf0, hltf0, hLf0, hTf0⟩ := hv0.inv
  obtain ⟨a1, cs1, ha1, -, hrow1, hv1⟩ := (ho.sl.ext x2428).at (i := 1) (by omega)
  replace hv1 : VT w28 _ cs1 (lsL a c z s d k b)[1] := hv1
  rw [show (lsL a c z s d k b)[1] = c from by cases k <;> cases b <;> rfl] at hv1
  have hw1 := hv1
  obtain ⟨kf1, nf1, sf1, lsf1, tsf1, laf1, lcf1, taf1, tcf1, ef1, rfl, hkf1, hnf1, hsf1, hllf1, hltf1, hLf1, hTf1⟩ := hv1.inv
  obtain ⟨a2, cs2, ha2, -, hrow2, hv2⟩ := (ho.sl.ext x2428).at (i := 2) (by omega)
  replace hv2 : VT w28 _ cs2 (lsL a c z s d k b)[2] := hv2
  rw [show (lsL a c z s d k b)[2] = z from by cases k <;> cases b <;> rfl] at hv2
  have hw2 := hv2
  obtain ⟨kf2, nf2, sf2, lsf2, tsf2, laf2, lcf2, taf2, tcf2, ef2, rfl, hkf2, hnf2, hsf2, hllf2, hltf2, hLf2, hTf2⟩ := hv2.inv
  obtain ⟨a3, cs3, ha3, -, hrow3, hv3⟩ := (ho.sl.ext x2428).at (i := 3) (by omega)
  replace hv3 : VT w28 _ cs3 (lsL a c z s d k b)[3] := hv3
  rw [show (lsL a c z s d k b)[3] = s from by cases k <;> cases b <;> rfl] at hv3
  have hw3 := hv3
  obtain ⟨kf3, nf3, sf3, lsf3, tsf3, laf3, lcf3, taf3, tcf3, ef3, rfl, hkf3, hnf3, hsf3, hllf3, hltf3, hLf3, hTf3⟩ := hv3.inv
  refine Exists.intro (.v (.pointer (some (a0.add (0 * 5))))) (And.intro rfl (And.intro (fun w' xx hh _ => OpT.indexAddr Tryz.underlying31 Tryz.sizeOf33 rfl rfl ha0 (by simp only [lenOk] at *; omega) ⟨rfl, rfl⟩) ?_))
  refine Exists.intro (.a [.v (.int .u8 kf0), .v (.int .i64 nf0), .v (.string sf0), .v (.slice laf0 lsf0.length lcf0), .v (.slice taf0 tsf0.length tcf0)]) (And.intro rfl (And.intro (fun w' xx hh _ => OpT.loadA Tryz.isAgg33 (by exact Tryz.sizeOf33) rfl ((hrow0).ext xx) ⟨rfl, rfl⟩) ?_))
  refine Or.inl (Exists.intro (.bool true) (And.intro (fun _ => ?_) (fun w29 x29 hh29 => ?_)))
  · have := rSame_runs a a _ _ w28 _ _ (hw0) (VT.ext va8 x828)
    rw [sameB_refl] at this
    exact this
  have xq1 := x29
  refine Exists.intro (.v (.pointer (some (a1.add (1 * 5))))) (And.intro rfl (And.intro (fun w' xx hh _ => OpT.indexAddr Tryz.underlying31 Tryz.sizeOf33 rfl rfl ha1 (by simp only [lenOk] at *; omega) ⟨rfl, rfl⟩) ?_))
  refine Exists.intro (.a [.v (.int .u8 kf1), .v (.int .i64 nf1), .v (.string sf1), .v (.slice laf1 lsf1.length lcf1), .v (.slice taf1 tsf1.length tcf1)]) (And.intro rfl (And.intro (fun w' xx hh _ => OpT.loadA Tryz.isAgg33 (by exact Tryz.sizeOf33) rfl ((hrow1.ext xq1).ext xx) ⟨rfl, rfl⟩) ?_))
  refine Or.inl (Exists.intro (.bool true) (And.intro (fun _ => ?_) (fun w30 x30 hh30 => ?_)))
  · have := rSame_runs c c _ _ w29 _ _ (hw1.ext xq1) (VT.ext vc8 (x828.trans xq1))
    rw [sameB_refl] at this
    exact this
  have xq2 := xq1.trans x30
  refine Exists.intro (.v (.pointer (some (a2.add (2 * 5))))) (And.intro rfl (And.intro (fun w' xx hh _ => OpT.indexAddr Tryz.underlying31 Tryz.sizeOf33 rfl rfl ha2 (by simp only [lenOk] at *; omega) ⟨rfl, rfl⟩) ?_))
  refine Exists.intro (.a [.v (.int .u8 kf2), .v (.int .i64 nf2), .v (.string sf2), .v (.slice laf2 lsf2.length lcf2), .v (.slice taf2 tsf2.length tcf2)]) (And.intro rfl (And.intro (fun w' xx hh _ => OpT.loadA Tryz.isAgg33 (by exact Tryz.sizeOf33) rfl ((hrow2.ext xq2).ext xx) ⟨rfl, rfl⟩) ?_))
  refine Or.inl (Exists.intro (.bool true) (And.intro (fun _ => ?_) (fun w31 x31 hh31 => ?_)))
  · have := rSame_runs z z _ _ w30 _ _ (hw2.ext xq2) (VT.ext vz8 (x828.trans xq2))
    rw [sameB_refl] at this
    exact this
  have xq3 := xq2.trans x31
  refine Exists.intro (.v (.pointer (some (a3.add (3 * 5))))) (And.intro rfl (And.intro (fun w' xx hh _ => OpT.indexAddr Tryz.underlying31 Tryz.sizeOf33 rfl rfl ha3 (by simp only [lenOk] at *; omega) ⟨rfl, rfl⟩) ?_))
  refine Exists.intro (.a [.v (.int .u8 kf3), .v (.int .i64 nf3), .v (.string sf3), .v (.slice laf3 lsf3.length lcf3), .v (.slice taf3 tsf3.length tcf3)]) (And.intro rfl (And.intro (fun w' xx hh _ => OpT.loadA Tryz.isAgg33 (by exact Tryz.sizeOf33) rfl ((hrow3.ext xq3).ext xx) ⟨rfl, rfl⟩) ?_))
  refine Or.inl (Exists.intro (.bool true) (And.intro (fun _ => ?_) (fun w32 x32 hh32 => ?_)))
  · have := rSame_runs s s _ _ w31 _ _ (hw3.ext xq3) (VT.ext vs8 (x828.trans xq3))
    rw [sameB_refl] at this
    exact this
  have xq4 := xq3.trans x32
  refine Or.inl (And.intro (fun h => ?_) (fun h => ?_))
  · simp [sel] at h
  clear h
  have x832 := x828.trans xq4
  have x2432 := x2428.trans xq4
  have hsl := ho.sl.ext x2432
  refine vDrw_mk [7, 20] (.one 0 (.one 1 (.one 2 (.one 3 (.one 4 (.one 5 (.one 6 (.one 7 (.one 8 (.one 9 (.one 10 (.one 11 (.one 12 (.one 13 (.one 14 (.one 15 (.one 16 (.one 17 (.one 18 (.one 19 (.one 20 (.one 21 (.one 22 (.one 23 .nil)))))))))))))))))))))))) rfl fun w33 x33 hh33 => ?_
  refine vDrA [0, 1, 3, 7, 15, 31, 7, 127, 255, 511, 1023, 2047, 4095, 8191, 8191, 24575, 57343, 131071, 262143, 8191, 1048575, 2097151, 4194303, 8388607] (by decide +kernel) ?_
  have z33 := x33.size
  have x833 := x832.trans x33
  have vd33 := VT.ext vx8 x833
  have hsl33 := hsl.ext x33
  obtain ⟨a4, q4, h4⟩ : ∃ (a4 : Addr) (q4 : TC), 0 < k → Al = some a4 ∧ RowAt w33 (a4.add (4 * 5)) q4.cells ∧ VT w33 (fun k => (RdE w23 (fun k => k = g10 ∨ k = g14) e m A k ∨ los ≤ k) ∧ k < w24.heap.size) q4.cells d := by
    by_cases hk4 : 4 < (lsL a c z s d k b).length
    · obtain ⟨a4, cs4, ha4, -, hrow4, hv4⟩ := hsl33.at (i := 4) hk4
      replace hv4 : VT w33 _ cs4 (lsL a c z s d k b)[4] := hv4
      rw [show (lsL a c z s d k b)[4] = d from by cases k <;> cases b <;> first | rfl | (simp [lsL] at hk4)] at hv4
      have hw4 := hv4
      obtain ⟨kf4, nf4, sf4, lsf4, tsf4, laf4, lcf4, taf4, tcf4, ef4, rfl, hkf4, hnf4, hsf4, hllf4, hltf4, hLf4, hTf4⟩ := hv4.inv
      exact ⟨a4, ⟨kf4, nf4, sf4, laf4, lsf4.length, lcf4, taf4, tsf4.length, tcf4⟩, fun _ => ⟨ha4, hrow4, hw4⟩⟩
    · refine ⟨⟨0, 0, none⟩, ⟨0, 0, ⟨#[]⟩, none, 0, 0, none, 0, 0⟩, fun hk0 => absurd ?_ hk4⟩
      cases k with
      | zero => omega
      | succ j => cases b <;> simp [lsL]
  have hd0 : decide (0 < (k : Int)) = true → 0 < k := fun h => by have := of_decide_eq_true h; omega
  have h45 : 0 < k → 4 < (lsL a c z s d k b).length := fun h => by
    cases k with
    | zero => omega
    | succ j => cases b <;> simp [lsL]
  have hi5 : (lsL a c z s d k b).length - 1 < (lsL a c z s d k b).length := by omega
  obtain ⟨a5, cs5, ha5, -, hrow5, hv5⟩ := hsl33.at hi5
  replace hv5 : VT w33 _ cs5 ((lsL a c z s d k b)[(lsL a c z s d k b).length - 1]'hi5) := hv5
  have hb5 : b = true → (lsL a c z s d k b)[(lsL a c z s d k b).length - 1]'hi5 = d := fun h => by subst h; cases k <;> rfl
  generalize (lsL a c z s d k b)[(lsL a c z s d k b).length - 1]'hi5 = u at *
  have hw5 := hv5
  obtain ⟨ku, nu, su, lsu, tsu, lau, lcu, tau, tcu, eu, rfl, hku, hnu, hsu, hllu, hltu, hLu, hTu⟩ := hv5.inv
  refine Exists.intro (.v (.pointer (some (a4.add (4 * 5))))) (And.intro rfl (And.intro (fun w' xx hh h => OpT.indexAddr Tryz.underlying31 Tryz.sizeOf33 rfl rfl (h4 (hd0 h)).1 ⟨by omega, by have := h45 (hd0 h); omega⟩ ⟨rfl, rfl⟩) ?_))
  refine Exists.intro (.a [.v (.int .u8 q4.k), .v (.int .i64 q4.n), .v (.string q4.s), .v (.slice q4.la q4.ln q4.lc), .v (.slice q4.ta q4.tn q4.tc)]) (And.intro rfl (And.intro (fun w' xx hh h => OpT.loadA Tryz.isAgg33 (by exact Tryz.sizeOf33) rfl ((h4 (hd0 h)).2.1.ext xx) ⟨rfl, rfl⟩) ?_))
  refine Or.inl (Exists.intro (.bool true) (And.intro (fun h => ?_) (fun w34 x34 hh34 => ?_)))
  · have := rSame_runs d d _ _ w33 _ _ (h4 (hd0 h)).2.2 vd33
    rw [sameB_refl] at this
    exact this
  refine And.intro (fun _ _ => by simp only [inKind]; omega) ?_
  rw [show ((lsL a c z s d k b).length : Int) - 1 = (((lsL a c z s d k b).length - 1 : Nat) : Int) from by omega]
  refine Exists.intro (.v (.pointer (some (a5.add (((lsL a c z s d k b).length - 1) * 5))))) (And.intro rfl (And.intro (fun w' xx hh _ _ => OpT.indexAddr Tryz.underlying31 Tryz.sizeOf33 rfl rfl ha5 ⟨by omega, by omega⟩ ⟨rfl, rfl⟩) ?_))
  refine Exists.intro (.a [.v (.int .u8 ku), .v (.int .i64 nu), .v (.string su), .v (.slice lau lsu.length lcu), .v (.slice tau tsu.length tcu)]) (And.intro rfl (And.intro (fun w' xx hh _ _ => OpT.loadA Tryz.isAgg33 (by exact Tryz.sizeOf33) rfl ((hrow5.ext x34).ext xx) ⟨rfl, rfl⟩) ?_))
  refine Or.inl (Exists.intro (.bool (sameB u d)) (And.intro (fun _ _ => rSame_runs u d _ _ w34 _ _ (VT.ext hw5 x34) (VT.ext vd33 x34)) (fun w35 x35 hh35 => ?_)))
  refine Or.inl (And.intro (fun h => ?_) (fun h => ?_))
  · cases b with
    | false => simp [sel] at h
    | true =>
      rw [hb5 rfl, sameB_refl] at h
      simp [sel] at h
  clear h
  have x1835 := x19.trans (x20.trans (x22.trans (x23.trans (x24.trans (x2432.trans (x33.trans (x34.trans x35)))))))
  have x835 := x18.trans x1835
  have z35 := x1835.size
  have hE35 := hE2 x835
  have hX35 := hX2 (w' := w35) (by omega)
  have kt35 := VT.re kt18 x1835
  have y35 : Ext w35 w35 := Ext.refl _
  refine vFlow_mk 9 (RdE w35 (fun k => k = g10 ∨ k = g14) e m A) [dEq (.pointer (some ⟨e, 0, none⟩)), .T (tRecL a c z s d k b), dEq (.int .i64 k), .T (tNum k), dTI (RdE w35 (fun k => k = g10 ∨ k = g14) e m A) (iot SL (tRecL a c z s d k b) (tNum k)).1 (iot SL (tRecL a c z s d k b) (tNum k)).2, dTI (RdE w35 (fun k => k = g10 ∨ k = g14) e m A) (iot SL (tRecL a c z s d k b) (tNum k)).1 (iot SL (tRecL a c z s d k b) (tNum k)).2, .T (iot SL (tRecL a c z s d k b) (tNum k)).1, dEq (.int .i64 (iot SL (tRecL a c z s d k b) (tNum k)).2), .A] rfl fun w36 x36 z36 hh36 => ?_
  refine And.intro (fun vs Rs w2 x hh hR_  => ⟨Ext.refl _, rfl⟩) ?_
  refine And.intro (fun vs Rs w2 x hh hR_  => ⟨Ext.refl _, flLoadE kt35 (x36.trans x) RdE.lt⟩) ?_
  refine And.intro (fun vs Rs w2 x hh hR_  => ⟨Ext.refl _, rfl⟩) ?_
  refine And.intro (fun vs Rs w2 x hh hR_ h1 => flCall (Num_dv k (by omega) h1) hh fun v w3 _ q => DV.mono (R' := fun k => Rs 2 k ∨ (w2.heap.size ≤ k ∧ k < w3.heap.size)) _ (fun k h => .inr (h)) (Ext.refl _) q) ?_
  refine And.intro (fun vs Rs w2 x hh hR_ h1 h2 h3 => flCall (Iota_d hE35 hX35 SL_nok (x36.trans x) (fun k h => by have := hR_ _ k h; omega) (fun k h => by have := hR_ _ k h; omega) h1 h2 h3) hh fun v w3 _ q => DV.mono (R' := fun k => Rs 0 k ∨ (Rs 1 k ∨ (Rs 3 k ∨ (w2.heap.size ≤ k ∧ k < w3.heap.size)))) _ (fun k => fun h => h.elim (fun h => .inr (.inl h)) (fun h => h.elim (fun h => .inr (.inr (.inl h))) (fun h => .inr (.inr (.inr (h)))))) (Ext.refl _) q) ?_
  refine And.intro (fun vs Rs w2 x hh hR_ h1 => ⟨Ext.refl _, DV.mono _ (fun k h => .inl h) (Ext.refl _) h1⟩) ?_
  refine And.intro (fun vs Rs w2 x hh hR_ h1 => by
      obtain ⟨cr, e4, k4_⟩ := h1
      obtain ⟨vs', rfl⟩ := fl_at e4
      exact ⟨Ext.refl _, cr, rfl, k4_.mono fun k hk => ⟨hk.1.imp id .inl, hk.2⟩⟩) ?_
  refine And.intro (fun vs Rs w2 x hh hR_ h1 => by
      obtain ⟨cr, e4, k4_⟩ := h1
      obtain ⟨vs', rfl⟩ := fl_at e4
      exact ⟨Ext.refl _, rfl⟩) ?_
  refine And.intro (fun vs Rs w2 x hh hR_  => by
      intro g w3 e x3 z3 hh3
      exact ⟨x3, g, rfl, ⟨by omega, by omega⟩, hh3.box 9 _ rfl⟩) ?_
  intro vs Os w37 x37 hh37 hp hO hd
  have q37 := x37.size
  have p37 : (DV.T (iot SL (tRecL a c z s d k b) (tNum k)).1).rep _ _ _ _ := hp 6 (by omega)
  have pe37_7 : vs 7 = (.int .i64 (iot SL (tRecL a c z s d k b) (tNum k)).2) := hp 7 (by omega)
  have pa37 : DV.A.rep _ _ _ _ := hp 8 (by omega)
  obtain ⟨cs37, es37, h37⟩ := p37
  obtain ⟨g37, eg37, hg37, bg37⟩ := pa37
  replace hg37 := flCum_own (by rfl) hg37
  have gO37 := hO _ _ hg37
  have h37x := h37
  obtain ⟨ks37, ns37, ss37, lss37, tss37, las37, lcs37, tas37, tcs37, e37, rfl, hks37, hns37, hss37, hlls37, hlts37, hLs37, hTs37⟩ := h37.inv
  rw [show (iot SL (tRecL a c z s d k b) (tNum k)).2 = 6 from iot_lsN (b := b) ga gc gz gs gx hk20] at pe37_7
  generalize (iot SL (tRecL a c z s d k b) (tNum k)).1 = I at *
  refine Exists.intro [g37] (Exists.intro _ (Exists.intro [.v (vs 0), .v (vs 1), .v (vs 2), .v (vs 3), .v (vs 4), .v (vs 5), .a [.v (.int .u8 ks37), .v (.int .i64 ns37), .v (.string ss37), .v (.slice las37 lss37.length lcs37), .v (.slice tas37 tss37.length tcs37)], .v (.int .i64 6), .p 9 0] ⟨Holds.add hh37 (c := [.v (.int .u8 0), .v (.int .i64 0), .v (.string noS), .v (.slice none 0 0), .v (.slice none 0 0)]) (fun i hi he => by have := hh36.lt i hi; omega) gO37.2 bg37 rfl, rfl, by rw [show (List.range 9).map vs = [vs 0, vs 1, vs 2, vs 3, vs 4, vs 5, vs 6, vs 7, vs 8] from rfl, eg37, es37, pe37_7]; rfl, ?_⟩))
  intro w38 m38 z38 hh38
  replace m38 : Upd g37 w37 w38 := m38
  have q38 := m38.size
  have x35_38 : Ext w35 w38 := x36.trans (x37.upd m38 (by omega))
  have k38 : VT w38 (RdE w38 (fun k => k = g10 ∨ k = g14) e m A) _ _ := (flStoredE h37x m38 (flCum_no (s := 6) (A := 8) (by decide) (by rfl) hd hg37) (fun hb => by have := hb.1.1; omega)).mono fun k hk => by
    rcases hk.1 with h | ⟨q, _, hq⟩
    · exact RdE.ext x35_38 k h
    · have := hO q k hq; exact RdE.new hE35 hX35 k (by omega) (by omega)
  have y38 : Ext w35 w38 := y35.trans x35_38
  have hsz : (0 : Int) < sz := by have := hs.1; omega
  refine vyes (show sel (decide ((6 : Int) = 6)) (decide ((0 : Int) < sz)) false = true by simp [sel, hsz]) ?_
  refine vcZ (works8_runs w38) hh38 fun w39 x39 z39 hh39 => ?_
  refine ⟨congrArg Value.bool (show sel (sel (decide ((6 : Int) = 6)) (decide ((0 : Int) < sz)) false) true false = true by simp [sel, hsz]), Y8.trans (x835.trans (y38.trans x39))⟩
end Go.Proofs.YtfljbnhhkdaobaaGreat

/-
  The row of RulesLists: true for every input.
-/
namespace Go.Proofs.YtfljbnhhkdaobaaGreat
open Go Go.ChangeMaps Go.ChangeShapes Go.WideShapes Go.ChangeAt Go.RowKit Go.Proofs.Bw
theorem Tryz.own : ownKnob Tryz.prog.godebug = none := by kernel_rfl
theorem Tryz.laidOut : laidOutB Tryz.prog = true := by kernel_rfl
set_option maxRecDepth 100000 in
theorem lists_lifted (os : Os) (started : os.Started) (H : Type) (enc : TypeId × Value → H) :
    ReturnsInHanded {} Tryz.checked os 10 .any (Rows.rulesListsSpec.pre6 enc Tryz.prog Tryz.f10 Rows.rulesListsRow.domain false) (Rows.rulesListsSpec.post enc Tryz.prog Tryz.f10 false true false false) := by
  refine returnsInHanded_of_change_sized (C := Tryz.checked) Tryz.own started (by kernel_rfl) Tryz.func10
    (ChangeSpec.witness6 (enc := enc) (C := Tryz.checked) false ⟨#[], #[.int .u8 0, .agg #[.int .u8 0, .int .i64 0, .string ⟨#[]⟩, .slice none 0 0, .slice none 0 0], .agg #[.int .u8 0, .int .i64 0, .string ⟨#[]⟩, .slice none 0 0, .slice none 0 0], .agg #[.int .u8 0, .int .i64 0, .string ⟨#[]⟩, .slice none 0 0, .slice none 0 0], .agg #[.int .u8 0, .int .i64 0, .string ⟨#[]⟩, .slice none 0 0, .slice none 0 0], .agg #[.int .u8 0, .int .i64 0, .string ⟨#[]⟩, .slice none 0 0, .slice none 0 0], .bool false], []⟩ 8 (by kernel_rfl) (by kernel_rfl) (by kernel_rfl) (by kernel_rfl)) ?_
  intro W base args ds gs before hval0 hW hcnd hsz0 _
  have hval : ∀ (j : Nat) t v, Tryz.f10.params[j]? = some t → args[j]? = some v → Value.okWide Tryz.prog W .any base t v := hval0
  have hW' := hW
  obtain ⟨p, q, hA0, hV, rfl, hfz, hnd⟩ := hW
  have hA : DataW.TrodAll enc Tryz.prog W 0 (fun _ => true) true Tryz.f10.params.toList args.toList ds p := hA0
  have hsz : (DataW.weightsEach Tryz.prog (Tryz.f10.params.toList ++ Rows.rulesListsSpec.plain.varTypes Tryz.prog) (ds ++ gs)).all (· ≤ reachBytes) = true := hsz0
  rw [Tryz.params10] at hA hval hsz
  obtain ⟨v0, v1, v2, v3, v4, v5, v6, d0, d1, d2, d3, d4, d5, d6, p0, p1, p2, p3, p4, p5, p6, rfl, rfl, rfl, h0, h1, h2, h3, h4, h5, h6⟩ := trodAll_seven hA
  obtain ⟨rfl, rfl⟩ := trodVars_none hV
  obtain ⟨x0, rfl, rfl, rfl, w0⟩ := open_int Tryz.underlying5 (hval 0 5 v0 rfl rfl) h0
  obtain ⟨ca1, rfl, hca1⟩ := okWide_struct Tryz.underlying33 (hval 1 33 v1 rfl rfl)
  obtain ⟨ca2, rfl, hca2⟩ := okWide_struct Tryz.underlying33 (hval 2 33 v2 rfl rfl)
  obtain ⟨ca3, rfl, hca3⟩ := okWide_struct Tryz.underlying33 (hval 3 33 v3 rfl rfl)
  obtain ⟨ca4, rfl, hca4⟩ := okWide_struct Tryz.underlying33 (hval 4 33 v4 rfl rfl)
  obtain ⟨ca5, rfl, hca5⟩ := okWide_struct Tryz.underlying33 (hval 5 33 v5 rfl rfl)
  obtain ⟨x6, rfl, rfl, rfl⟩ := open_bool Tryz.underlying4 (hval 6 4 v6 rfl rfl) h6
  clear hA0 hval0
  have hlt := hW'.lt
  have hn0 := wf8 w0
  obtain ⟨m0, rfl⟩ : ∃ m : Nat, x0 = m := ⟨x0.toNat, by omega⟩
  obtain ⟨fu1, k1⟩ := h1
  obtain ⟨t1, hv1⟩ := open_T fu1 _ _ k1
  obtain ⟨fu2, k2⟩ := h2
  obtain ⟨t2, hv2⟩ := open_T fu2 _ _ k2
  obtain ⟨fu3, k3⟩ := h3
  obtain ⟨t3, hv3⟩ := open_T fu3 _ _ k3
  obtain ⟨fu4, k4⟩ := h4
  obtain ⟨t4, hv4⟩ := open_T fu4 _ _ k4
  obtain ⟨fu5, k5⟩ := h5
  obtain ⟨t5, hv5⟩ := open_T fu5 _ _ k5
  have hrun := lists8_runs (m0 : Int) (by omega) t1 t2 t3 t4 t5 ca1.toList ca2.toList ca3.toList ca4.toList ca5.toList x6 W hv1 hv2 hv3 hv4 hv5
  simp only [Array.toArray_toList] at hrun
  refine Calls.mono (hrun) ?_
  rintro e W' ⟨v, rfl, rfl, hx⟩
  have hb := hx.below
  refine ⟨_, rfl, _, _, _, [], _, [], hW', trodAll_mk1 (shut_bool Tryz.underlying4 true),
    trodAll_mk7 (shut_int Tryz.underlying5 w0) (Below.trod Tryz.laidOut (by kernel_rfl) (by decide +kernel) ⟨fu1, k1⟩ hb (fun x h => hlt x (by simp [h]))) (Below.trod Tryz.laidOut (by kernel_rfl) (by decide +kernel) ⟨fu2, k2⟩ hb (fun x h => hlt x (by simp [h]))) (Below.trod Tryz.laidOut (by kernel_rfl) (by decide +kernel) ⟨fu3, k3⟩ hb (fun x h => hlt x (by simp [h]))) (Below.trod Tryz.laidOut (by kernel_rfl) (by decide +kernel) ⟨fu4, k4⟩ hb (fun x h => hlt x (by simp [h]))) (Below.trod Tryz.laidOut (by kernel_rfl) (by decide +kernel) ⟨fu5, k5⟩ hb (fun x h => hlt x (by simp [h]))) (shut_bool Tryz.underlying4 x6), rfl, hb.frame _, fun h => by cases h⟩
theorem lists_holds : Rows.RulesListsSaid :=
  OpenClaim.holds_of_wide 10 Tryz.f10 rfl rfl rfl rfl rfl rfl rfl ⟨rfl, rfl, rfl, rfl, rfl⟩ rfl rfl rfl rfl rfl (by kernel_rfl) Tryz.func10 (by kernel_rfl)
    (of_decide_eq_true (by kernel_rfl)) (by unfold Func.isWrapper; rw [if_neg (by decide +kernel)]; exact ⟨rfl, rfl⟩)
    (fun os started H enc _ => lists_lifted os started H enc)
end Go.Proofs.YtfljbnhhkdaobaaGreat
