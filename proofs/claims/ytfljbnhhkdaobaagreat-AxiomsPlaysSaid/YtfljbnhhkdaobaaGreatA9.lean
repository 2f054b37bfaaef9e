/-
  The sample: how its terms are made.
-/
import Derived.Test.YtfljbnhhkdaobaaGreatA8
namespace Go.Proofs.YtfljbnhhkdaobaaGreat
open Go Go.RowKit Go.Proofs.Bw
set_option linter.unusedVariables false
set_option linter.unusedSimpArgs false
def nw (R : Nat → Prop) (w w' : World) : Nat → Prop := fun k => R k ∨ (w.heap.size ≤ k ∧ k < w'.heap.size)
def VX (lo : Nat) (w : World) (cs : List Value) (t : T) : Prop := VT w (fun k => lo ≤ k ∧ k < w.heap.size) cs t
theorem VX.ext {lo : Nat} {w w' : World} {cs : List Value} {t : T} (h : VX lo w cs t) (x : Ext w w') : VX lo w' cs t := (VT.ext h x).mono fun k hk => ⟨hk.1, Nat.lt_of_lt_of_le hk.2 x.size⟩
theorem VT.vx {lo : Nat} {w : World} {R : Nat → Prop} {cs : List Value} {t : T} (h : VT w R cs t) (hr : ∀ k, R k → lo ≤ k) : VX lo w cs t := h.small.mono fun k hk => ⟨hr k hk.1, hk.2⟩
def levN (n : Int) : L := { lZero with c := n }
def levU : L := { lZero with p0 := 0 }
def tSo (l : L) : T := .mk 1 0 noS [l] []
def tCo (s : ByteArray) (ls : List L) : T := .mk 3 0 s ls []
def tLm (a b : T) : T := .mk 5 0 noS [] [a, b]
def tPi (a b : T) : T := .mk 6 0 noS [] [a, b]
def tPr (s : ByteArray) (n : Int) (a : T) : T := .mk 8 n s [] [a]
theorem levN_wf {n : Int} (h : i64ok n) : (levN n).wf := by simp [levN, lZero, L.wf, i64ok] at *; exact h
theorem levU_wf : levU.wf := by simp [levU, lZero, L.wf, i64ok]
set_option maxRecDepth 20000 in
theorem Lev_runs (n : Int) (w : World) : Runs Tryz.prog 36 #[.int .i64 n] w fun v w' => v = .agg (levN n).cells.toArray ∧ Ext w w' := by
  refine Runs.of_vc (ρ := []) cx_ok [0, 2, 3] [.v _] Tryz.func36 rfl rfl rfl (Holds.nil w) ?_
  intro g1 w1 e1 x1 z1 hh1
  refine (rZero_runs w1).mono ?_
  rintro _ w2 ⟨rfl, x2⟩
  have hh2 := hh1.ext x2
  have z2 := x2.size
  refine Lands.ret (s := .a [.v (.int .i64 lZero.c), .v (.int .i64 lZero.p0), .v (.int .i64 lZero.p1), .v (.int .i64 lZero.p2), .v (.int .i64 lZero.p3)]) rfl rfl hh2 ?_
  intro g3 w3 e3 x3 z3 hh3; intro w4 m4 z4 hh4; replace m4 : Upd g3 w3 w4 := m4; have x4 : Ext w2 w4 := x3.upd m4 (by omega); have q4 := x4.size
  intro w5 m5 z5 hh5
  replace m5 : Upd g3 w4 w5 := m5
  intro w6 m6 z6 hh6
  replace m6 : Upd g1 w5 w6 := m6
  exact ⟨rfl, ((x1.trans (x2.trans x4)).upd m5 (by omega)).upd m6 (by omega)⟩
set_option maxRecDepth 20000 in
theorem U_runs (w : World) : Runs Tryz.prog 115 #[] w fun v w' => v = .agg levU.cells.toArray ∧ Ext w w' := by
  refine Runs.of_vc cx_ok [0, 1] [] Tryz.func115 rfl rfl rfl (Holds.nil _) ?_
  intro g1 w1 e1 x1 z1 hh1
  refine (rZero_runs w1).mono ?_
  rintro _ w2 ⟨rfl, x2⟩
  have hh2 := hh1.ext x2
  have z2 := x2.size
  refine Lands.ret (s := .a [.v (.int .i64 lZero.c), .v (.int .i64 lZero.p0), .v (.int .i64 lZero.p1), .v (.int .i64 lZero.p2), .v (.int .i64 lZero.p3)]) rfl rfl hh2 ?_
  intro g3 w3 e3 x3 z3 hh3; intro w4 m4 z4 hh4; replace m4 : Upd g3 w3 w4 := m4; have x4 : Ext w2 w4 := x3.upd m4 (by omega); have q4 := x4.size
  refine OpT.indexAddrArr Tryz.underlying61 Tryz.sizeOf3 rfl rfl (by simp) ?_
  refine Lands.ret (s := .p 1 1) rfl rfl hh4 ?_
  intro w5 m5 z5 hh5
  replace m5 : Upd g3 w4 w5 := m5
  intro w6 m6 z6 hh6
  replace m6 : Upd g1 w5 w6 := m6
  exact ⟨rfl, ((x1.trans (x2.trans x4)).upd m5 (by omega)).upd m6 (by omega)⟩
set_option maxRecDepth 20000 in
theorem V_r (R : Nat → Prop) (n : Int) (hn : i64ok n) (w : World) : Runs Tryz.prog 67 #[.int .i64 n] w fun v w' => Ext w w' ∧ ∃ cs : List Value, v = .agg cs.toArray ∧ VT w' R cs (tV n) := by
  refine Runs.of_vc (ρ := []) cx_ok [0, 2] [.v _] Tryz.func67 rfl rfl rfl (Holds.nil w) ?_
  intro g1 w1 e1 x1 z1 hh1
  intro w2 m2 z2 hh2
  replace m2 : Upd g1 w1 w2 := m2
  exact ⟨x1.upd m2 (by omega), _, rfl, VT.intro (by omega) hn (by decide) (by simp [lenOk]) (by simp [lenOk]) (SlL.nil _ _ _) (SlT.nil _ _ _)⟩
set_option maxRecDepth 20000 in
theorem Co_r {R : Nat → Prop} (s : ByteArray) (hs : s.size ≤ 9223372036854775807) (A : Option Addr) (ls : List L) (c : Nat) (hlen : lenOk ls.length c) (w : World) (hl : Sl encL w R A ls) : Runs Tryz.prog 35 #[.string s, .slice A ls.length c] w fun v w' => Ext w w' ∧ ∃ cs : List Value, v = .agg cs.toArray ∧ VT w' R cs (tCo s ls) := by
  refine Runs.of_vc (ρ := []) cx_ok [0, 1, 4] [.v _, .v _] Tryz.func35 rfl rfl rfl (Holds.nil w) ?_
  intro g1 w1 e1 x1 z1 hh1
  intro w2 m2 z2 hh2
  replace m2 : Upd g1 w1 w2 := m2
  have y2 := x1.upd m2 (by omega)
  exact ⟨y2, _, rfl, VT.intro (by omega) (by simp [i64ok]) hs hlen (by simp [lenOk]) (L_sl (hl.ext y2)) (SlT.nil _ _ _)⟩
theorem Co0_r (R : Nat → Prop) (s : ByteArray) (hs : s.size ≤ 9223372036854775807) (w : World) : Runs Tryz.prog 35 #[.string s, .slice none 0 0] w fun v w' => Ext w w' ∧ ∃ cs : List Value, v = .agg cs.toArray ∧ VT w' R cs (tCo s []) :=
  Co_r (R := R) s hs none [] 0 (by simp [lenOk]) w (Sl.nil _ _ _ _)
set_option maxRecDepth 20000 in
theorem So_r (R : Nat → Prop) (l : L) (hl : l.wf) (w : World) : Runs Tryz.prog 114 #[.agg l.cells.toArray] w fun v w' => Ext w w' ∧ ∃ cs : List Value, v = .agg cs.toArray ∧ VT w' (nw R w w') cs (tSo l) := by
  refine Runs.of_vc (ρ := []) cx_ok [0, 1, 2] [.a [.v (.int .i64 l.c), .v (.int .i64 l.p0), .v (.int .i64 l.p1), .v (.int .i64 l.p2), .v (.int .i64 l.p3)]] Tryz.func114 rfl rfl rfl (Holds.nil w) ?_
  intro g1 w1 e1 x1 z1 hh1
  intro g2 w2 e2 x2 z2 hh2
  refine OpT.buildE (E := encL) (R := (fun _ => False)) (vs := [_]) (l := [l]) Tryz.zeroValue63 (.cons rfl (.nil)) Tryz.underlying30 Tryz.sizeOf63 rfl rfl (Reps.cons (⟨rfl, hl⟩) (Reps.nil _ _ _)) rfl rfl hh2 fun w3 g3 e3 x3 z3 o3 hh3 => ?_
  intro w4 m4 z4 hh4
  replace m4 : Upd g2 w3 w4 := m4
  have y4 := (x1.trans (x2.trans x3)).upd m4 (by omega)
  have o4 := o3.upd m4 (by omega) (fun h => h)
  exact ⟨y4, _, rfl, VT.intro (by omega) (by simp [i64ok]) (by decide) (by simp [lenOk]) (by simp [lenOk]) (L_sl (o4.sl.mono fun k hk => .inr ⟨by rcases hk.1 with h | h; exact h.elim; omega, hk.2⟩)) (SlT.nil _ _ _)⟩
set_option maxRecDepth 20000 in
theorem L_r {R : Nat → Prop} (a b : T) (ca cb : List Value) (w : World) (ha : VT w R ca a) (hb : VT w R cb b) (hR : ∀ k, R k → k < w.heap.size) : Runs Tryz.prog 116 #[.agg ca.toArray, .agg cb.toArray] w fun v w' => Ext w w' ∧ ∃ cs : List Value, v = .agg cs.toArray ∧ VT w' (nw R w w') cs (tLm a b) := by
  have ha0 := ha
  have hb0 := hb
  obtain ⟨ka, na, sa, lsa, tsa, laa, lca, taa, tca, ea, rfl, hka, hna, hsa, hlla, hlta, hLa, hTa⟩ := ha.inv
  obtain ⟨kb, nb, sb, lsb, tsb, lab, lcb, tab, tcb, eb, rfl, hkb, hnb, hsb, hllb, hltb, hLb, hTb⟩ := hb.inv
  refine Runs.of_vc (ρ := []) cx_ok [0, 1, 2, 3, 4] [.a [.v (.int .u8 ka), .v (.int .i64 na), .v (.string sa), .v (.slice laa lsa.length lca), .v (.slice taa tsa.length tca)], .a [.v (.int .u8 kb), .v (.int .i64 nb), .v (.string sb), .v (.slice lab lsb.length lcb), .v (.slice tab tsb.length tcb)]] Tryz.func116 rfl rfl rfl (Holds.nil w) ?_
  intro g1 w1 e1 x1 z1 hh1
  intro g2 w2 e2 x2 z2 hh2
  intro g3 w3 e3 x3 z3 hh3
  have y3 := x1.trans (x2.trans x3)
  refine OpT.buildE (E := encT) (R := R) (vs := [_, _]) (l := [a, b]) Tryz.zeroValue33 (.cons rfl (.cons rfl (.nil))) Tryz.underlying31 Tryz.sizeOf33 rfl rfl (Reps.cons (VT.ext ha0 y3) (Reps.cons (VT.ext hb0 y3) (Reps.nil _ _ _))) rfl rfl hh3 fun w4 g4 e4 x4 z4 o4 hh4 => ?_
  intro w5 m5 z5 hh5
  replace m5 : Upd g3 w4 w5 := m5
  have y5 := (y3.trans x4).upd m5 (by omega)
  have o5 := o4.upd m5 (by omega) (fun h => by have := hR _ h; omega)
  exact ⟨y5, _, rfl, VT.intro (by omega) (by simp [i64ok]) (by decide) (by simp [lenOk]) (by simp [lenOk]) (SlL.nil _ _ _) (T_sl (o5.sl.mono fun k hk => hk.1.imp id fun h => ⟨by have := y3.size; omega, hk.2⟩))⟩
set_option maxRecDepth 20000 in
theorem P_r {R : Nat → Prop} (a b : T) (ca cb : List Value) (w : World) (ha : VT w R ca a) (hb : VT w R cb b) (hR : ∀ k, R k → k < w.heap.size) : Runs Tryz.prog 113 #[.agg ca.toArray, .agg cb.toArray] w fun v w' => Ext w w' ∧ ∃ cs : List Value, v = .agg cs.toArray ∧ VT w' (nw R w w') cs (tPi a b) := by
  have ha0 := ha
  have hb0 := hb
  obtain ⟨ka, na, sa, lsa, tsa, laa, lca, taa, tca, ea, rfl, hka, hna, hsa, hlla, hlta, hLa, hTa⟩ := ha.inv
  obtain ⟨kb, nb, sb, lsb, tsb, lab, lcb, tab, tcb, eb, rfl, hkb, hnb, hsb, hllb, hltb, hLb, hTb⟩ := hb.inv
  refine Runs.of_vc (ρ := []) cx_ok [0, 1, 2, 3, 4] [.a [.v (.int .u8 ka), .v (.int .i64 na), .v (.string sa), .v (.slice laa lsa.length lca), .v (.slice taa tsa.length tca)], .a [.v (.int .u8 kb), .v (.int .i64 nb), .v (.string sb), .v (.slice lab lsb.length lcb), .v (.slice tab tsb.length tcb)]] Tryz.func113 rfl rfl rfl (Holds.nil w) ?_
  intro g1 w1 e1 x1 z1 hh1
  intro g2 w2 e2 x2 z2 hh2
  intro g3 w3 e3 x3 z3 hh3
  have y3 := x1.trans (x2.trans x3)
  refine OpT.buildE (E := encT) (R := R) (vs := [_, _]) (l := [a, b]) Tryz.zeroValue33 (.cons rfl (.cons rfl (.nil))) Tryz.underlying31 Tryz.sizeOf33 rfl rfl (Reps.cons (VT.ext ha0 y3) (Reps.cons (VT.ext hb0 y3) (Reps.nil _ _ _))) rfl rfl hh3 fun w4 g4 e4 x4 z4 o4 hh4 => ?_
  intro w5 m5 z5 hh5
  replace m5 : Upd g3 w4 w5 := m5
  have y5 := (y3.trans x4).upd m5 (by omega)
  have o5 := o4.upd m5 (by omega) (fun h => by have := hR _ h; omega)
  exact ⟨y5, _, rfl, VT.intro (by omega) (by simp [i64ok]) (by decide) (by simp [lenOk]) (by simp [lenOk]) (SlL.nil _ _ _) (T_sl (o5.sl.mono fun k hk => hk.1.imp id fun h => ⟨by have := y3.size; omega, hk.2⟩))⟩
set_option maxRecDepth 20000 in
theorem App_r {R : Nat → Prop} (a b : T) (ca cb : List Value) (w : World) (ha : VT w R ca a) (hb : VT w R cb b) (hR : ∀ k, R k → k < w.heap.size) : Runs Tryz.prog 106 #[.agg ca.toArray, .agg cb.toArray] w fun v w' => Ext w w' ∧ ∃ cs : List Value, v = .agg cs.toArray ∧ VT w' (nw R w w') cs (tA a b) := by
  have ha0 := ha
  have hb0 := hb
  obtain ⟨ka, na, sa, lsa, tsa, laa, lca, taa, tca, ea, rfl, hka, hna, hsa, hlla, hlta, hLa, hTa⟩ := ha.inv
  obtain ⟨kb, nb, sb, lsb, tsb, lab, lcb, tab, tcb, eb, rfl, hkb, hnb, hsb, hllb, hltb, hLb, hTb⟩ := hb.inv
  refine Runs.of_vc (ρ := []) cx_ok [0, 1, 2, 3, 4] [.a [.v (.int .u8 ka), .v (.int .i64 na), .v (.string sa), .v (.slice laa lsa.length lca), .v (.slice taa tsa.length tca)], .a [.v (.int .u8 kb), .v (.int .i64 nb), .v (.string sb), .v (.slice lab lsb.length lcb), .v (.slice tab tsb.length tcb)]] Tryz.func106 rfl rfl rfl (Holds.nil w) ?_
  intro g1 w1 e1 x1 z1 hh1
  intro g2 w2 e2 x2 z2 hh2
  intro g3 w3 e3 x3 z3 hh3
  have y3 := x1.trans (x2.trans x3)
  refine OpT.buildE (E := encT) (R := R) (vs := [_, _]) (l := [a, b]) Tryz.zeroValue33 (.cons rfl (.cons rfl (.nil))) Tryz.underlying31 Tryz.sizeOf33 rfl rfl (Reps.cons (VT.ext ha0 y3) (Reps.cons (VT.ext hb0 y3) (Reps.nil _ _ _))) rfl rfl hh3 fun w4 g4 e4 x4 z4 o4 hh4 => ?_
  intro w5 m5 z5 hh5
  replace m5 : Upd g3 w4 w5 := m5
  have y5 := (y3.trans x4).upd m5 (by omega)
  have o5 := o4.upd m5 (by omega) (fun h => by have := hR _ h; omega)
  exact ⟨y5, _, rfl, VT.intro (by omega) (by simp [i64ok]) (by decide) (by simp [lenOk]) (by simp [lenOk]) (SlL.nil _ _ _) (T_sl (o5.sl.mono fun k hk => hk.1.imp id fun h => ⟨by have := y3.size; omega, hk.2⟩))⟩
structure TC where
  k : Int
  n : Int
  s : ByteArray
  la : Option Addr
  ln : Nat
  lc : Nat
  ta : Option Addr
  tn : Nat
  tc : Nat
def TC.cells (q : TC) : List Value := [.int .u8 q.k, .int .i64 q.n, .string q.s, .slice q.la q.ln q.lc, .slice q.ta q.tn q.tc]
theorem nw.lt {R : Nat → Prop} {w w' : World} (hR : ∀ k, R k → k < w.heap.size) (x : Ext w w') : ∀ k, nw R w w' k → k < w'.heap.size := fun k hk => hk.elim (fun h => Nat.lt_of_lt_of_le (hR k h) x.size) fun h => h.2
set_option maxRecDepth 20000 in
theorem Apply_r {R : Nat → Prop} (f : T) (cf : List Value) (A : Option Addr) (l : List T) (c : Nat) (w : World) (hf : VT w R cf f) (hl : Sl encT w R A l) (hR : ∀ k, R k → k < w.heap.size) (hc : lenOk l.length c) : Runs Tryz.prog 70 #[.agg cf.toArray, .slice A l.length c] w fun v w' => Ext w w' ∧ ∃ cs : List Value, v = .agg cs.toArray ∧ VT w' (nw R w w') cs (apT f l) := by
  have hf0 := hf
  obtain ⟨kf, nf, sf, lsf, tsf, laf, lcf, taf, tcf, ef, rfl, hkf, hnf, hsf, hllf, hltf, hLf, hTf⟩ := hf.inv
  refine Runs.of_vc (ρ := []) cx_ok [0, 1, 2, 4, 5, 9] [.a [.v (.int .u8 kf), .v (.int .i64 nf), .v (.string sf), .v (.slice laf lsf.length lcf), .v (.slice taf tsf.length tcf)], .v _] Tryz.func70 rfl rfl rfl (Holds.nil w) ?_
  intro g1 w1 e1 x1 z1 hh1
  intro g2 w2 e2 x2 z2 hh2
  refine vLoop_upd (σ := Nat × TC) [5, 6, 7, 8, 9, 10, 11, 12, 13, 14, 15, 16, 17] (fun s => [(5, .v (.int .i64 s.1))]) [0] (fun s => [(0, [.v (.int .u8 s.2.k), .v (.int .i64 s.2.n), .v (.string s.2.s), .v (.slice s.2.la s.2.ln s.2.lc), .v (.slice s.2.ta s.2.tn s.2.tc)])]) (fun s w' => Ext w w' ∧ w2.heap.size ≤ w'.heap.size ∧ s.1 ≤ l.length ∧ VT w' (fun k => R k ∨ (w2.heap.size ≤ k ∧ k < w'.heap.size)) s.2.cells (apT f (l.take s.1))) (fun s => l.length - s.1) (0, ⟨kf, nf, sf, laf, lsf.length, lcf, taf, tsf.length, tcf⟩) (fun _ => ⟨rfl, rfl⟩)
    ⟨(by repeat (first | exact trivial | refine And.intro rfl ?_)), (by repeat (first | exact trivial | refine And.intro rfl ?_)), (by repeat (first | exact trivial | refine And.intro rfl ?_)), (by repeat (first | exact trivial | refine And.intro rfl ?_)), x1.trans x2, Nat.le_refl _, Nat.zero_le _, (hf0.ext (x1.trans x2)).mono fun k hk => .inl hk⟩ ?_
  rintro ⟨i, q⟩ w3 hh3 ⟨x3, q3, hi, hq⟩
  simp only at hi hq
  refine Or.inl (And.intro (fun h => ?_) (fun h => ?_))
  · have hil : i < l.length := by have := of_decide_eq_true h; simp only at this; omega
    obtain ⟨a1, cs1, ha1, _, hrow, hv1⟩ := (hl.ext x3).at hil
    have hap := apT_succ f l i hil
    generalize l[i] = u at *
    have hv1 : VT w3 R cs1 u := hv1
    have hv10 := hv1
    obtain ⟨ku, nu, su, lsu, tsu, lau, lcu, tau, tcu, eu, rfl, hku, hnu, hsu, hllu, hltu, hLu, hTu⟩ := hv1.inv
    refine vDrw_mk [5, 6] (.one 0 (.one 1 (.one 2 (.one 3 (.one 4 (.one 5 (.one 6 .nil))))))) rfl fun w4 x4 hh4 => ?_
    refine Exists.intro (.v (.pointer (some (a1.add (i * 5))))) (And.intro rfl (And.intro (fun w' xx hh => OpT.indexAddr Tryz.underlying31 Tryz.sizeOf33 rfl rfl ha1 (by simp only [lenOk] at *; omega) ⟨rfl, rfl⟩) ?_))
    refine Exists.intro (.a [.v (.int .u8 ku), .v (.int .i64 nu), .v (.string su), .v (.slice lau lsu.length lcu), .v (.slice tau tsu.length tcu)]) (And.intro rfl (And.intro (fun w' xx hh => OpT.loadA Tryz.isAgg33 (by exact Tryz.sizeOf33) rfl (hrow.ext (x4.trans xx)) ⟨rfl, rfl⟩) ?_))
    have q4 := x4.size
    refine (App_r (R := fun k => R k ∨ (w2.heap.size ≤ k ∧ k < w3.heap.size)) _ u q.cells _ w4 (hq.ext x4) ((hv10.ext x4).mono fun k hk => .inl hk) (fun k hk => by rcases hk with h | h; have := hR k h; omega; omega)).mono ?_
    rintro _ w5 ⟨x5, cs5, rfl, hv5⟩
    have hh5 := hh4.ext x5
    have z5 := x5.size
    rw [← hap] at hv5
    have hv50 := hv5
    obtain ⟨kr, nr, sr, lsr, tsr, lar, lcr, tar, tcr, er, rfl, hkr, hnr, hsr, hllr, hltr, hLr, hTr⟩ := hv5.inv
    refine Lands.ret (s := .a [.v (.int .u8 kr), .v (.int .i64 nr), .v (.string sr), .v (.slice lar lsr.length lcr), .v (.slice tar tsr.length tcr)]) rfl rfl hh5 ?_
    intro w6 m6 z6 hh6
    replace m6 : Upd g1 w5 w6 := m6
    refine vsd (by simp only [inKind]; simp only [lenOk] at *; omega) ?_
    have hv6 := hv50.mod (S := fun k => k = g1) m6 fun k hk e => by
      have e : k = g1 := e
      rcases hk with (h | h) | h
      · have := hR k h; omega
      · omega
      · omega
    have hv7 := hv6.mono (R' := fun k => R k ∨ (w2.heap.size ≤ k ∧ k < w6.heap.size)) fun k hk => by
      rcases hk with (h | h) | h
      · exact .inl h
      · exact .inr (by omega)
      · exact .inr (by omega)
    exact Exists.intro ((i + 1, ⟨kr, nr, sr, lar, lsr.length, lcr, tar, tsr.length, tcr⟩)) ⟨by simp only; omega, esub_over (by repeat (first | exact trivial | refine And.intro rfl ?_)) (by repeat (first | exact trivial | refine And.intro rfl ?_)), hsub_over (by repeat (first | exact trivial | refine And.intro rfl ?_)) (by repeat (first | exact trivial | refine And.intro rfl ?_)), (x3.trans (x4.trans x5)).upd m6 (by omega), by omega, hil, hv7⟩
  · obtain rfl : i = l.length := by have := of_decide_eq_false h; simp only at this; omega
    rw [List.take_length] at hq
    intro w4 m4 z4 hh4
    replace m4 : Upd g2 w3 w4 := m4
    have hq4 := hq.mod (S := fun k => k = g2) m4 fun k hk e => by
      have e : k = g2 := e
      rcases hk with h | h
      · have := hR k h; omega
      · omega
    exact ⟨x3.upd m4 (by omega), q.cells, rfl, hq4.mono fun k hk => hk.imp id fun h => by omega⟩
set_option maxRecDepth 20000 in
theorem A_r {R : Nat → Prop} (f : T) (cf : List Value) (A : Option Addr) (l : List T) (c : Nat) (w : World) (hf : VT w R cf f) (hl : Sl encT w R A l) (hR : ∀ k, R k → k < w.heap.size) (hc : lenOk l.length c) : Runs Tryz.prog 38 #[.agg cf.toArray, .slice A l.length c] w fun v w' => Ext w w' ∧ ∃ cs : List Value, v = .agg cs.toArray ∧ VT w' (nw R w w') cs (apT f l) := by
  have hf0 := hf
  obtain ⟨kf, nf, sf, lsf, tsf, laf, lcf, taf, tcf, ef, rfl, hkf, hnf, hsf, hllf, hltf, hLf, hTf⟩ := hf.inv
  refine Runs.of_vc (ρ := []) cx_ok [0, 1, 2, 4] [.a [.v (.int .u8 kf), .v (.int .i64 nf), .v (.string sf), .v (.slice laf lsf.length lcf), .v (.slice taf tsf.length tcf)], .v _] Tryz.func38 rfl rfl rfl (Holds.nil w) ?_
  intro g1 w1 e1 x1 z1 hh1
  intro g2 w2 e2 x2 z2 hh2
  have y2 := x1.trans x2
  refine (Apply_r f _ A l c w2 (hf0.ext y2) (hl.ext y2) (fun k hk => by have := hR k hk; omega) hc).mono ?_
  rintro _ w3 ⟨x3, cs3, rfl, hv3⟩
  have hh3 := hh2.ext x3
  have z3 := x3.size
  have hv30 := hv3
  obtain ⟨kr, nr, sr, lsr, tsr, lar, lcr, tar, tcr, er, rfl, hkr, hnr, hsr, hllr, hltr, hLr, hTr⟩ := hv3.inv
  refine Lands.ret (s := .a [.v (.int .u8 kr), .v (.int .i64 nr), .v (.string sr), .v (.slice lar lsr.length lcr), .v (.slice tar tsr.length tcr)]) rfl rfl hh3 ?_
  intro w4 m4 z4 hh4
  replace m4 : Upd g2 w3 w4 := m4
  have hq4 := hv30.mod (S := fun k => k = g2) m4 fun k hk e => by
    have e : k = g2 := e
    rcases hk with h | h
    · have := hR k h; omega
    · omega
  exact ⟨(y2.trans x3).upd m4 (by omega), _, rfl, hq4.mono fun k hk => hk.imp id fun h => by omega⟩
end Go.Proofs.YtfljbnhhkdaobaaGreat

/-
  Regions in any order: what is made by each operation, told by descriptions.
-/
namespace Go.Proofs.YtfljbnhhkdaobaaGreat
open Go Go.RowKit Go.Proofs.Bw
set_option linter.unusedVariables false
set_option linter.unusedSimpArgs false
inductive DV where
  | T (t : T)
  | L (l : L)
  | ST (l : List T)
  | SL (l : List L)
  | A
  | RU (r : Rl)
  | IN (i : Inf)
  | SR (l : List Rl)
  | SI (m : Nat) (l : List Inf)
  | X
  | Q (p : (Nat → Prop) → Value → World → Prop) (h : ∀ R R' v w w', (∀ k, R k → R' k) → Ext w w' → p R v w → p R' v w')
def rdS (B R : Nat → Prop) (w : World) : Nat → Prop := fun k => (B k ∨ R k) ∧ k < w.heap.size
def DV.rep (B : Nat → Prop) : DV → (Nat → Prop) → Value → World → Prop
  | .T t, R, v, w => ∃ cs : List Value, v = .agg cs.toArray ∧ VT w (rdS B R w) cs t
  | .L l, _, v, _ => v = .agg l.cells.toArray ∧ l.wf
  | .ST l, R, v, w => ∃ A c, v = .slice A l.length c ∧ lenOk l.length c ∧ Sl encT w (rdS B R w) A l
  | .SL l, R, v, w => ∃ A c, v = .slice A l.length c ∧ lenOk l.length c ∧ Sl encL w (rdS B R w) A l
  | .A, R, v, w => ∃ g, v = .pointer (some ⟨g, 0, none⟩) ∧ R g ∧ Box w g [.int .u8 0, .int .i64 0, .string noS, .slice none 0 0, .slice none 0 0]
  | .RU r, R, v, w => ∃ cs : List Value, v = .agg cs.toArray ∧ VR w (rdS B R w) cs r
  | .IN i, R, v, w => ∃ cs : List Value, v = .agg cs.toArray ∧ VI w (rdS B R w) cs i
  | .SR l, R, v, w => ∃ A c, v = .slice A l.length c ∧ lenOk l.length c ∧ Sl encR w (rdS B R w) A l
  | .SI m l, R, v, w => ∃ A lo, v = .slice A l.length l.length ∧ m ≤ lo ∧ OwnE encInf w lo 36 (fun k => (B k ∨ R k) ∧ k < lo) A l.length l
  | .X, _, _, _ => True
  | .Q p _, R, v, w => p R v w
section
variable {B R R' : Nat → Prop} {w w' : World} {v : Value}
theorem rdS.mono (hr : ∀ k, R k → R' k) (x : Ext w w') : ∀ k, rdS B R w k → rdS B R' w' k := fun k hk => ⟨hk.1.imp id (hr k), Nat.lt_of_lt_of_le hk.2 x.size⟩
theorem DV.mono (d : DV) (hr : ∀ k, R k → R' k) (x : Ext w w') (h : d.rep B R v w) : d.rep B R' v w' := by
  cases d with
  | T t => obtain ⟨cs, h1, h2⟩ := h; exact ⟨cs, h1, (h2.ext x).mono (rdS.mono hr x)⟩
  | L l => exact h
  | ST l => obtain ⟨A, c, h1, h2, h3⟩ := h; exact ⟨A, c, h1, h2, (h3.ext x).mono (rdS.mono hr x)⟩
  | SL l => obtain ⟨A, c, h1, h2, h3⟩ := h; exact ⟨A, c, h1, h2, (h3.ext x).mono (rdS.mono hr x)⟩
  | A => obtain ⟨g, h1, h2, h3⟩ := h; exact ⟨g, h1, hr g h2, h3.ext x⟩
  | RU r => obtain ⟨cs, h1, h2⟩ := h; exact ⟨cs, h1, encR.mono (VR.ext h2 x) (rdS.mono hr x)⟩
  | IN r => obtain ⟨cs, h1, h2⟩ := h; exact ⟨cs, h1, encInf.mono (VI.ext h2 x) (rdS.mono hr x)⟩
  | SR l => obtain ⟨A, c, h1, h2, h3⟩ := h; exact ⟨A, c, h1, h2, (h3.ext x).mono (rdS.mono hr x)⟩
  | SI m l => obtain ⟨A, lo, h1, h2, h3⟩ := h; exact ⟨A, lo, h1, h2, (h3.ext x).mono fun k hk => ⟨hk.1.imp id (hr k), hk.2⟩⟩
  | X => trivial
  | Q p hp => exact hp _ _ _ _ _ hr x h
end
def DVs (B : Nat → Prop) (ds : List DV) (i : Nat) : (Nat → Prop) → Value → World → Prop := (ds.getD i .X).rep B
theorem vFlow_mk {C : Cx} {n : Nat} {live : List Nat} {ops : List Oper} {K : KC} {e : SEnv} {ρ : List Nat} {H : Heap} {w : World} (z : Nat) (B : Nat → Prop) (ds : List DV) (h : flowB ops n z = true) (k : ∀ w', Ext w w' → w.heap.size ≤ w'.heap.size → Holds ρ H w' → flAll C n live ops K (DVs B ds) e ρ H w' z 0 ops) : vDrw C n live ops K e ρ H w :=
  .inr ⟨z, DVs B ds, h, fun i R R' v w w' hr x hp => DV.mono _ hr x hp, fun w' x hh => k w' x x.size hh⟩
theorem flCall {ρ : List Nat} {H : Heap} {w : World} {f : Nat} {args : Array Value} {q q' : Value → World → Prop} (h : Runs Tryz.prog f args w fun v w' => Ext w w' ∧ q v w') (hH : Holds ρ H w) (hk : ∀ v w', Ext w w' → q v w' → q' v w') : Runs Tryz.prog f args w (Lands ρ fun s ρ' _ w' => Ext w w' ∧ q' (conc ρ' s) w') :=
  h.mono fun v w' ⟨x, hq⟩ => Lands.stay (s := .v v) rfl (hH.ext x) ⟨x, hk v w' x hq⟩
section
variable {B R1 R2 : Nat → Prop} {w : World} {v1 v2 : Value}
theorem nw_rd {w' : World} (x : Ext w w') (hr : ∀ k, R1 k → R2 k) (hn : ∀ k, w.heap.size ≤ k → k < w'.heap.size → R2 k) : ∀ k, nw (rdS B R1 w) w w' k → rdS B R2 w' k := fun k hk => by
  have := x.size
  rcases hk with h | h
  · exact ⟨h.1.imp id (hr k), by have := h.2; omega⟩
  · exact ⟨.inr (hn k h.1 h.2), h.2⟩
theorem P_d {a b : T} (h1 : (DV.T a).rep B R1 v1 w) (h2 : (DV.T b).rep B R2 v2 w) : Runs Tryz.prog 113 #[v1, v2] w fun v w' => Ext w w' ∧ (DV.T (tPi a b)).rep B (fun k => R1 k ∨ (R2 k ∨ (w.heap.size ≤ k ∧ k < w'.heap.size))) v w' := by
  obtain ⟨ca, rfl, k1⟩ := h1
  obtain ⟨cb, rfl, k2⟩ := h2
  exact (P_r (R := rdS B (fun k => R1 k ∨ R2 k) w) a b ca cb w (k1.mono fun k hk => ⟨hk.1.imp id .inl, hk.2⟩) (k2.mono fun k hk => ⟨hk.1.imp id .inr, hk.2⟩) (fun k hk => hk.2)).mono fun v w' ⟨x, cs, h1, h2⟩ => ⟨x, cs, h1, h2.mono (nw_rd x (fun k h => h.elim .inl fun h => .inr (.inl h)) fun k h1 h2 => .inr (.inr ⟨h1, h2⟩))⟩
theorem L_d {a b : T} (h1 : (DV.T a).rep B R1 v1 w) (h2 : (DV.T b).rep B R2 v2 w) : Runs Tryz.prog 116 #[v1, v2] w fun v w' => Ext w w' ∧ (DV.T (tLm a b)).rep B (fun k => R1 k ∨ (R2 k ∨ (w.heap.size ≤ k ∧ k < w'.heap.size))) v w' := by
  obtain ⟨ca, rfl, k1⟩ := h1
  obtain ⟨cb, rfl, k2⟩ := h2
  exact (L_r (R := rdS B (fun k => R1 k ∨ R2 k) w) a b ca cb w (k1.mono fun k hk => ⟨hk.1.imp id .inl, hk.2⟩) (k2.mono fun k hk => ⟨hk.1.imp id .inr, hk.2⟩) (fun k hk => hk.2)).mono fun v w' ⟨x, cs, h1, h2⟩ => ⟨x, cs, h1, h2.mono (nw_rd x (fun k h => h.elim .inl fun h => .inr (.inl h)) fun k h1 h2 => .inr (.inr ⟨h1, h2⟩))⟩
theorem So_d {l : L} (h : (DV.L l).rep B R1 v1 w) : Runs Tryz.prog 114 #[v1] w fun v w' => Ext w w' ∧ (DV.T (tSo l)).rep B (fun k => R1 k ∨ (w.heap.size ≤ k ∧ k < w'.heap.size)) v w' := by
  obtain ⟨rfl, hw⟩ := h
  exact (So_r (fun _ => False) l hw w).mono fun v w' ⟨x, cs, h1, h2⟩ => ⟨x, cs, h1, h2.mono fun k hk => hk.elim (fun h => h.elim) fun h => ⟨.inr (.inr h), h.2⟩⟩
theorem U_d : Runs Tryz.prog 115 #[] w fun v w' => Ext w w' ∧ (DV.L levU).rep B (fun k => w.heap.size ≤ k ∧ k < w'.heap.size) v w' :=
  (U_runs w).mono fun v w' ⟨h, x⟩ => ⟨x, h, levU_wf⟩
theorem V_d (n : Int) (hn : i64ok n) : Runs Tryz.prog 67 #[.int .i64 n] w fun v w' => Ext w w' ∧ (DV.T (tV n)).rep B (fun k => w.heap.size ≤ k ∧ k < w'.heap.size) v w' :=
  (V_r (rdS B (fun k => False) w) n hn w).mono fun v w' ⟨x, cs, h1, h2⟩ => ⟨x, cs, h1, h2.mono (rdS.mono (fun _ h => h.elim) x)⟩
theorem Co0_d (s : ByteArray) (hs : s.size ≤ 9223372036854775807) : Runs Tryz.prog 35 #[.string s, .slice none 0 0] w fun v w' => Ext w w' ∧ (DV.T (tCo s [])).rep B (fun k => w.heap.size ≤ k ∧ k < w'.heap.size) v w' :=
  (Co0_r (rdS B (fun k => False) w) s hs w).mono fun v w' ⟨x, cs, h1, h2⟩ => ⟨x, cs, h1, h2.mono (rdS.mono (fun _ h => h.elim) x)⟩
theorem Co_d (s : ByteArray) (hs : s.size ≤ 9223372036854775807) {l : List L} (h : (DV.SL l).rep B R1 v1 w) : Runs Tryz.prog 35 #[.string s, v1] w fun v w' => Ext w w' ∧ (DV.T (tCo s l)).rep B (fun k => R1 k ∨ (w.heap.size ≤ k ∧ k < w'.heap.size)) v w' := by
  obtain ⟨A, c, rfl, hc, hl⟩ := h
  exact (Co_r s hs A l c hc w hl).mono fun v w' ⟨x, cs, h1, h2⟩ => ⟨x, cs, h1, h2.mono (rdS.mono (fun _ h => .inl h) x)⟩
theorem A_d {f : T} {l : List T} (h1 : (DV.T f).rep B R1 v1 w) (h2 : (DV.ST l).rep B R2 v2 w) : Runs Tryz.prog 38 #[v1, v2] w fun v w' => Ext w w' ∧ (DV.T (apT f l)).rep B (fun k => R1 k ∨ (R2 k ∨ (w.heap.size ≤ k ∧ k < w'.heap.size))) v w' := by
  obtain ⟨cf, rfl, k1⟩ := h1
  obtain ⟨A, c, rfl, hc, k2⟩ := h2
  exact (A_r (R := rdS B (fun k => R1 k ∨ R2 k) w) f cf A l c w (k1.mono fun k hk => ⟨hk.1.imp id .inl, hk.2⟩) (k2.mono fun k hk => ⟨hk.1.imp id .inr, hk.2⟩) (fun k hk => hk.2) hc).mono fun v w' ⟨x, cs, h1, h2⟩ => ⟨x, cs, h1, h2.mono (nw_rd x (fun k h => h.elim .inl fun h => .inr (.inl h)) fun k h1 h2 => .inr (.inr ⟨h1, h2⟩))⟩
theorem flLoad {lo : Nat} {P w' : World} {cs : List Value} {t : T} {R : Nat → Prop} (h : VX lo P cs t) (x : Ext P w') : (DV.T t).rep (fun k => lo ≤ k ∧ k < P.heap.size) R (.agg cs.toArray) w' :=
  ⟨cs, rfl, (VT.ext h x).mono fun k hk => ⟨.inl hk, Nat.lt_of_lt_of_le hk.2 x.size⟩⟩
theorem flCum_own {ops : List Oper} {Os : Nat → Nat → Prop} {A g : Nat} (h0 : (aheadGo [] ops).getD A 0 = 0) (h : flCum ops Os A g) : Os A g := by
  obtain ⟨q, hq, ho⟩ := h
  rcases hq with rfl | hq
  · exact ho
  · unfold ahB at hq; rw [h0] at hq; simp at hq
theorem flCum_no {ops : List Oper} {Os : Nat → Nat → Prop} {s A g : Nat} (hne : s ≠ A) (h : ahB (aheadGo [] ops) s A = false) (hd : ∀ i j, i ≠ j → ∀ k, Os i k → ¬ Os j k) (hg : Os A g) : ¬ flCum ops Os s g := by
  rintro ⟨q, hq, ho⟩
  by_cases hqA : q = A
  · subst hqA
    rcases hq with hq | hq
    · exact hne hq.symm
    · rw [h] at hq; cases hq
  · exact hd q A hqA g ho hg
theorem flStored {lo g : Nat} {B C : Nat → Prop} {w w' : World} {cs : List Value} {t : T} (h : VT w (rdS B C w) cs t) (m : Upd g w w') (no : ¬ C g) (nb : ¬ B g) (hB : ∀ k, B k → lo ≤ k) (hC : ∀ k, C k → lo ≤ k) : VX lo w' cs t :=
  (h.mod (S := fun k => k = g) m fun k hk e => by
    have e : k = g := e
    subst e
    exact hk.1.elim nb no).mono fun k hk => ⟨hk.1.elim (hB k) (hC k), Nat.lt_of_lt_of_le hk.2 m.size⟩
end
end Go.Proofs.YtfljbnhhkdaobaaGreat

/-
  The sample: the terms that stand for numbers and fields.
-/
namespace Go.Proofs.YtfljbnhhkdaobaaGreat
open Go Go.RowKit Go.Proofs.Bw
set_option linter.unusedVariables false
set_option linter.unusedSimpArgs false
def sN : ByteArray := ⟨#[78]⟩
def sN_zero : ByteArray := ⟨#[78, 46, 122, 101, 114, 111]⟩
def sN_succ : ByteArray := ⟨#[78, 46, 115, 117, 99, 99]⟩
def sPair : ByteArray := ⟨#[80, 97, 105, 114]⟩
def tN : T := tCo sN []
def tY : T := tSo (levN 0)
def tNum : Nat → T
  | 0 => tCo sN_zero []
  | n + 1 => apT (tCo sN_succ []) [tNum n]
set_option maxRecDepth 20000 in
theorem N_r (w : World) : Runs Tryz.prog 68 #[] w fun v w' => Ext w w' ∧ ∃ cs : List Value, v = .agg cs.toArray ∧ VT w' (fun _ => False) cs tN := by
  refine Runs.of_vc cx_ok [0] [] Tryz.func68 rfl rfl rfl (Holds.nil _) ?_
  intro g1 w1 e1 x1 z1 hh1
  refine (Co0_r (fun _ => False) sN (by decide) w1).mono ?_
  rintro _ w2 ⟨x2, cs2, rfl, hv2⟩
  have hh2 := hh1.ext x2
  have z2 := x2.size
  have hv20 := hv2
  obtain ⟨kr, nr, sr, lsr, tsr, lar, lcr, tar, tcr, er, rfl, hkr, hnr, hsr, hllr, hltr, hLr, hTr⟩ := hv2.inv
  refine Lands.ret (s := .a [.v (.int .u8 kr), .v (.int .i64 nr), .v (.string sr), .v (.slice lar lsr.length lcr), .v (.slice tar tsr.length tcr)]) rfl rfl hh2 ?_
  intro w3 m3 z3 hh3
  replace m3 : Upd g1 w2 w3 := m3
  exact ⟨(x1.trans x2).upd m3 (by omega), _, rfl, hv20.mod (S := fun k => k = g1) m3 fun k hk e => hk⟩
set_option maxRecDepth 20000 in
theorem Type0_r (w : World) : Runs Tryz.prog 117 #[] w fun v w' => Ext w w' ∧ ∃ cs : List Value, v = .agg cs.toArray ∧ VT w' (fun k => w.heap.size ≤ k ∧ k < w'.heap.size) cs tY := by
  refine Runs.of_vc cx_ok [0] [] Tryz.func117 rfl rfl rfl (Holds.nil _) ?_
  intro g1 w1 e1 x1 z1 hh1
  refine (Lev_runs 0 w1).mono ?_
  rintro _ w2 ⟨rfl, x2⟩
  have hh2 := hh1.ext x2
  have z2 := x2.size
  refine Lands.ret (s := .a [.v (.int .i64 (levN 0).c), .v (.int .i64 (levN 0).p0), .v (.int .i64 (levN 0).p1), .v (.int .i64 (levN 0).p2), .v (.int .i64 (levN 0).p3)]) rfl rfl hh2 ?_
  refine (So_r (fun _ => False) (levN 0) (levN_wf (by simp [i64ok])) w2).mono ?_
  rintro _ w3 ⟨x3, cs3, rfl, hv3⟩
  have hh3 := hh2.ext x3
  have z3 := x3.size
  have hv30 := hv3
  obtain ⟨kr, nr, sr, lsr, tsr, lar, lcr, tar, tcr, er, rfl, hkr, hnr, hsr, hllr, hltr, hLr, hTr⟩ := hv3.inv
  refine Lands.ret (s := .a [.v (.int .u8 kr), .v (.int .i64 nr), .v (.string sr), .v (.slice lar lsr.length lcr), .v (.slice tar tsr.length tcr)]) rfl rfl hh3 ?_
  intro w4 m4 z4 hh4
  replace m4 : Upd g1 w3 w4 := m4
  have hq := hv30.mod (S := fun k => k = g1) m4 fun k hk e => by
    have e : k = g1 := e
    rcases hk with h | h
    · exact h
    · omega
  exact ⟨(x1.trans (x2.trans x3)).upd m4 (by omega), _, rfl, hq.mono fun k hk => hk.elim (fun h => h.elim) fun h => by omega⟩
set_option maxRecDepth 20000 in
theorem field_r (n : Int) (hn : i64ok n) (w : World) : Runs Tryz.prog 118 #[.int .i64 n] w fun v w' => Ext w w' ∧ ∃ cs : List Value, v = .agg cs.toArray ∧ VT w' (fun k => w.heap.size ≤ k ∧ k < w'.heap.size) cs (tPr sPair n (tV 0)) := by
  refine Runs.of_vc (ρ := []) cx_ok [0, 2] [.v _] Tryz.func118 rfl rfl rfl (Holds.nil w) ?_
  intro g1 w1 e1 x1 z1 hh1
  refine (V_r (fun _ => False) 0 (by simp [i64ok]) w1).mono ?_
  rintro _ w2 ⟨x2, cs2, rfl, hv2⟩
  have hh2 := hh1.ext x2
  have z2 := x2.size
  have hv20 := hv2
  obtain ⟨kr, nr, sr, lsr, tsr, lar, lcr, tar, tcr, er, rfl, hkr, hnr, hsr, hllr, hltr, hLr, hTr⟩ := hv2.inv
  refine Lands.ret (s := .a [.v (.int .u8 kr), .v (.int .i64 nr), .v (.string sr), .v (.slice lar lsr.length lcr), .v (.slice tar tsr.length tcr)]) rfl rfl hh2 ?_
  refine OpT.buildE (E := encT) (R := (fun _ => False)) (vs := [_]) (l := [tV 0]) Tryz.zeroValue33 (.cons rfl (.nil)) Tryz.underlying31 Tryz.sizeOf33 rfl rfl (Reps.cons hv20 (Reps.nil _ _ _)) rfl rfl hh2 fun w3 g3 e3 x3 z3 o3 hh3 => ?_
  intro w4 m4 z4 hh4
  replace m4 : Upd g1 w3 w4 := m4
  have y4 := (x1.trans (x2.trans x3)).upd m4 (by omega)
  have o4 := o3.upd m4 (by omega) (fun h => h)
  exact ⟨y4, _, rfl, VT.intro (by omega) hn (by decide) (by simp [lenOk]) (by simp [lenOk]) (SlL.nil _ _ _) (T_sl (o4.sl.mono fun k hk => ⟨by rcases hk.1 with h | h; exact h.elim; omega, hk.2⟩))⟩
set_option maxRecDepth 20000 in
theorem Num_r (n : Nat) (hn : n ≤ 1000000) (w : World) : Runs Tryz.prog 37 #[.int .i64 n] w fun v w' => Ext w w' ∧ ∃ cs : List Value, v = .agg cs.toArray ∧ VT w' (fun k => w.heap.size ≤ k ∧ k < w'.heap.size) cs (tNum n) := by
  refine Runs.of_vc (ρ := []) cx_ok [0, 2, 3, 4, 8] [.v _] Tryz.func37 rfl rfl rfl (Holds.nil w) ?_
  intro g1 w1 e1 x1 z1 hh1
  refine (Co0_r (fun _ => False) sN_zero (by decide) w1).mono ?_
  rintro _ w2 ⟨x2, cs2, rfl, hv2⟩
  have hh2 := hh1.ext x2
  have z2 := x2.size
  have hv20 := hv2
  obtain ⟨kz, nz, sz, lsz, tsz, laz, lcz, taz, tcz, ez, rfl, hkz, hnz, hsz, hllz, hltz, hLz, hTz⟩ := hv2.inv
  refine Lands.ret (s := .a [.v (.int .u8 kz), .v (.int .i64 nz), .v (.string sz), .v (.slice laz lsz.length lcz), .v (.slice taz tsz.length tcz)]) rfl rfl hh2 ?_
  intro g3 w3 e3 x3 z3 hh3; intro w4 m4 z4 hh4; replace m4 : Upd g3 w3 w4 := m4; have x4 : Ext w2 w4 := x3.upd m4 (by omega); have q4 := x4.size
  have y4 : Ext w w4 := x1.trans (x2.trans x4)
  refine vLoop_upd (σ := Nat × TC) [4, 6, 7, 8, 9, 10, 11, 12, 13, 14] (fun s => [(4, .v (.int .i64 s.1))]) [1] (fun s => [(1, [.v (.int .u8 s.2.k), .v (.int .i64 s.2.n), .v (.string s.2.s), .v (.slice s.2.la s.2.ln s.2.lc), .v (.slice s.2.ta s.2.tn s.2.tc)])]) (fun s w' => Ext w w' ∧ w4.heap.size ≤ w'.heap.size ∧ s.1 ≤ n ∧ VT w' (fun k => w4.heap.size ≤ k ∧ k < w'.heap.size) s.2.cells (tNum s.1)) (fun s => n - s.1) (0, ⟨kz, nz, sz, laz, lsz.length, lcz, taz, tsz.length, tcz⟩) (fun _ => ⟨rfl, rfl⟩)
    ⟨(by repeat (first | exact trivial | refine And.intro rfl ?_)), (by repeat (first | exact trivial | refine And.intro rfl ?_)), (by repeat (first | exact trivial | refine And.intro rfl ?_)), (by repeat (first | exact trivial | refine And.intro rfl ?_)), y4, Nat.le_refl _, Nat.zero_le _, (VT.ext hv20 x4).mono fun k hk => hk.elim⟩ ?_
  rintro ⟨i, q⟩ w5 hh5 ⟨x5, q5, hi, hq⟩
  simp only at hi hq
  refine Or.inl (And.intro (fun h => ?_) (fun h => ?_))
  · have hil : i < n := by have := of_decide_eq_true h; simp only at this; omega
    have hx5 : VX w4.heap.size w5 q.cells (tNum i) := hq
    refine vFlow_mk 4 (fun k => w4.heap.size ≤ k ∧ k < w5.heap.size) [.T (tCo sN_succ []), .T (tNum i), .ST [tNum i], .T (tNum (i + 1))] rfl fun w6 x6 z6 hh6 => ?_
    refine And.intro (fun vs Rs w2 x hh hR_ => flCall (Co0_d sN_succ (by decide)) hh fun v w3 _ q => q) ?_
    refine And.intro (fun vs Rs w2 x hh hR_ => ⟨Ext.refl _, flLoad hx5 (x6.trans x)⟩) ?_
    refine And.intro (fun vs Rs w2 x hh hR_ h1 => by
      obtain ⟨c1, e1, k1_⟩ := h1
      refine OpT.buildE (E := encT) (R := rdS (fun k => w4.heap.size ≤ k ∧ k < w5.heap.size) (fun k => Rs 1 k) w2) (vs := [vs 1]) (css := [c1]) (l := [tNum i]) Tryz.zeroValue33 (.cons rfl (.nil)) Tryz.underlying31 Tryz.sizeOf33 rfl (by simp [e1, Value.cells]) (Reps.cons k1_ (Reps.nil _ _ _)) rfl rfl hh fun w3 g e x3 z3 o3 hh3 => ?_
      exact ⟨x3, _, _, rfl, by simp [lenOk], o3.sl.mono fun k hk => ⟨hk.1.elim (fun h => h.1.imp id fun h => .inl h) (fun h => .inr (.inr ⟨h, hk.2⟩)), hk.2⟩⟩) ?_
    refine And.intro (fun vs Rs w2 x hh hR_ h1 h2 => flCall (A_d h1 h2) hh fun v w3 _ q => q) ?_
    intro vs Os w7 x7 hh7 hp hO hd
    have q7 := x7.size
    have hs7 : (DV.T (tNum (i + 1))).rep _ _ _ _ := hp 3 (by omega)
    obtain ⟨cs7, es7, h7⟩ := hs7
    have h7x := h7
    obtain ⟨kr, nr, sr, lsr, tsr, lar, lcr, tar, tcr, er, rfl, hkr, hnr, hsr, hllr, hltr, hLr, hTr⟩ := h7.inv
    refine Exists.intro [] (Exists.intro _ (Exists.intro [.v (vs 0), .v (vs 1), .v (vs 2), .a [.v (.int .u8 kr), .v (.int .i64 nr), .v (.string sr), .v (.slice lar lsr.length lcr), .v (.slice tar tsr.length tcr)]] ⟨hh7, rfl, by rw [show (List.range 4).map vs = [vs 0, vs 1, vs 2, vs 3] from rfl, es7]; rfl, ?_⟩))
    intro w8 m8 z8 hh8
    replace m8 : Upd g3 w7 w8 := m8
    refine vsd (by simp only [inKind]; omega) ?_
    have hv8 := (h7x.mod (S := fun k => k = g3) m8 fun k hk e => by
      have e : k = g3 := e
      subst e
      rcases hk.1 with h | ⟨j, _, h⟩
      · omega
      · have := hO _ _ h; omega).mono (R' := fun k => w4.heap.size ≤ k ∧ k < w8.heap.size) fun k hk => by
      have := m8.size
      rcases hk.1 with h | ⟨j, _, h⟩
      · have := hk.2; omega
      · have := hO _ _ h; omega
    exact Exists.intro ((i + 1, ⟨kr, nr, sr, lar, lsr.length, lcr, tar, tsr.length, tcr⟩)) ⟨by simp only; omega, esub_over (by repeat (first | exact trivial | refine And.intro rfl ?_)) (by repeat (first | exact trivial | refine And.intro rfl ?_)), hsub_over (by repeat (first | exact trivial | refine And.intro rfl ?_)) (by repeat (first | exact trivial | refine And.intro rfl ?_)), (x5.trans (x6.trans x7)).upd m8 (by omega), by omega, hil, hv8⟩
  · obtain rfl : i = n := by have := of_decide_eq_false h; simp only at this; omega
    intro w6 m6 z6 hh6
    replace m6 : Upd g1 w5 w6 := m6
    have hq6 := hq.mod (S := fun k => k = g1) m6 fun k hk e => by
      have e : k = g1 := e
      omega
    exact ⟨x5.upd m6 (by omega), q.cells, rfl, hq6.mono fun k hk => by omega⟩
section
variable {B : Nat → Prop} {w : World}
theorem N_d : Runs Tryz.prog 68 #[] w fun v w' => Ext w w' ∧ (DV.T tN).rep B (fun k => w.heap.size ≤ k ∧ k < w'.heap.size) v w' :=
  (N_r w).mono fun v w' ⟨x, cs, h1, h2⟩ => ⟨x, cs, h1, h2.mono fun k h => h.elim⟩
theorem Type0_d : Runs Tryz.prog 117 #[] w fun v w' => Ext w w' ∧ (DV.T tY).rep B (fun k => w.heap.size ≤ k ∧ k < w'.heap.size) v w' :=
  (Type0_r w).mono fun v w' ⟨x, cs, h1, h2⟩ => ⟨x, cs, h1, h2.mono fun k h => ⟨.inr h, h.2⟩⟩
theorem Num_d (n : Nat) (hn : n ≤ 1000000) : Runs Tryz.prog 37 #[.int .i64 n] w fun v w' => Ext w w' ∧ (DV.T (tNum n)).rep B (fun k => w.heap.size ≤ k ∧ k < w'.heap.size) v w' :=
  (Num_r n hn w).mono fun v w' ⟨x, cs, h1, h2⟩ => ⟨x, cs, h1, h2.mono fun k h => ⟨.inr h, h.2⟩⟩
theorem field_d (n : Int) (hn : i64ok n) : Runs Tryz.prog 118 #[.int .i64 n] w fun v w' => Ext w w' ∧ (DV.T (tPr sPair n (tV 0))).rep B (fun k => w.heap.size ≤ k ∧ k < w'.heap.size) v w' :=
  (field_r n hn w).mono fun v w' ⟨x, cs, h1, h2⟩ => ⟨x, cs, h1, h2.mono fun k h => ⟨.inr h, h.2⟩⟩
end
end Go.Proofs.YtfljbnhhkdaobaaGreat

/-
  The sample: the makers again, in a region that keeps its order.
-/
namespace Go.Proofs.YtfljbnhhkdaobaaGreat
open Go Go.RowKit Go.Proofs.Bw
set_option linter.unusedVariables false
set_option linter.unusedSectionVars false
theorem fl_at {vs : Nat → Value} {i : Nat} {X : Value} (e : vs i = X) : ∃ vs' : Nat → Value, vs = fun j => bif Nat.beq j i then X else vs' j := ⟨vs, funext fun j => by
  cases hb : Nat.beq j i with
  | false => rfl
  | true => rw [Nat.eq_of_beq_eq_true hb]; exact e⟩
theorem fl_at2 {vs : Nat → Value} {i j : Nat} {X Y : Value} (e : vs i = X) (e' : vs j = Y) : ∃ vs' : Nat → Value, vs = fun k => bif Nat.beq k i then X else bif Nat.beq k j then Y else vs' k := by
  obtain ⟨vs', h⟩ := fl_at e'
  exact ⟨vs', funext fun k => by
    cases hb : Nat.beq k i with
    | false => rw [h]; rfl
    | true => rw [Nat.eq_of_beq_eq_true hb]; exact e⟩
section
variable {lo : Nat} (P : World) (h : lo ≤ P.heap.size)
include h
theorem N_runs : Runs Tryz.prog 68 #[] P fun v w' => Ext P w' ∧ ∃ cs : List Value, v = .agg cs.toArray ∧ VX lo w' cs tN :=
  (N_r P).mono fun v w' ⟨x, cs, h1, h2⟩ => ⟨x, cs, h1, VT.vx h2 fun k h => h.elim⟩
theorem V_runs8 (n : Int) (hn : i64ok n) : Runs Tryz.prog 67 #[.int .i64 n] P fun v w' => Ext P w' ∧ ∃ cs : List Value, v = .agg cs.toArray ∧ VX lo w' cs (tV n) :=
  (V_r (fun _ => False) n hn P).mono fun v w' ⟨x, cs, h1, h2⟩ => ⟨x, cs, h1, VT.vx h2 fun k h => h.elim⟩
theorem So_runs (l : L) (hl : l.wf) : Runs Tryz.prog 114 #[.agg l.cells.toArray] P fun v w' => Ext P w' ∧ ∃ cs : List Value, v = .agg cs.toArray ∧ VX lo w' cs (tSo l) :=
  (So_r (fun _ => False) l hl P).mono fun v w' ⟨x, cs, h1, h2⟩ => ⟨x, cs, h1, VT.vx h2 fun k hk => hk.elim (fun h => h.elim) fun hk => by omega⟩
theorem Co0_runs (s : ByteArray) (hs : s.size ≤ 9223372036854775807) : Runs Tryz.prog 35 #[.string s, .slice none 0 0] P fun v w' => Ext P w' ∧ ∃ cs : List Value, v = .agg cs.toArray ∧ VX lo w' cs (tCo s []) :=
  (Co0_r (fun _ => False) s hs P).mono fun v w' ⟨x, cs, h1, h2⟩ => ⟨x, cs, h1, VT.vx h2 fun k h => h.elim⟩
theorem Co_runs {R : Nat → Prop} (s : ByteArray) (hs : s.size ≤ 9223372036854775807) (A : Option Addr) (ls : List L) (c : Nat) (hlen : lenOk ls.length c) (hR : ∀ k, R k → lo ≤ k) (hl : Sl encL P R A ls) : Runs Tryz.prog 35 #[.string s, .slice A ls.length c] P fun v w' => Ext P w' ∧ ∃ cs : List Value, v = .agg cs.toArray ∧ VX lo w' cs (tCo s ls) :=
  (Co_r (R := R) s hs A ls c hlen P hl).mono fun v w' ⟨x, cs, h1, h2⟩ => ⟨x, cs, h1, VT.vx h2 hR⟩
theorem L_runs8 (a b : T) (ca cb : List Value) (ha : VX lo P ca a) (hb : VX lo P cb b) : Runs Tryz.prog 116 #[.agg ca.toArray, .agg cb.toArray] P fun v w' => Ext P w' ∧ ∃ cs : List Value, v = .agg cs.toArray ∧ VX lo w' cs (tLm a b) :=
  (L_r a b ca cb P ha hb fun k h => h.2).mono fun v w' ⟨x, cs, h1, h2⟩ => ⟨x, cs, h1, VT.vx h2 fun k hk => hk.elim (fun h => h.1) fun hk => by omega⟩
theorem P_runs8 (a b : T) (ca cb : List Value) (ha : VX lo P ca a) (hb : VX lo P cb b) : Runs Tryz.prog 113 #[.agg ca.toArray, .agg cb.toArray] P fun v w' => Ext P w' ∧ ∃ cs : List Value, v = .agg cs.toArray ∧ VX lo w' cs (tPi a b) :=
  (P_r a b ca cb P ha hb fun k h => h.2).mono fun v w' ⟨x, cs, h1, h2⟩ => ⟨x, cs, h1, VT.vx h2 fun k hk => hk.elim (fun h => h.1) fun hk => by omega⟩
theorem A_runs {R : Nat → Prop} (f : T) (cf : List Value) (A : Option Addr) (l : List T) (c : Nat) (hf : VX lo P cf f) (hR : ∀ k, R k → lo ≤ k) (hl : Sl encT P R A l) (hc : lenOk l.length c) : Runs Tryz.prog 38 #[.agg cf.toArray, .slice A l.length c] P fun v w' => Ext P w' ∧ ∃ cs : List Value, v = .agg cs.toArray ∧ VX lo w' cs (apT f l) :=
  (A_r (R := fun k => lo ≤ k ∧ k < P.heap.size) f cf A l c P hf (hl.small.mono fun k hk => ⟨hR k hk.1, hk.2⟩) (fun k h => h.2) hc).mono fun v w' ⟨x, cs, h1, h2⟩ => ⟨x, cs, h1, VT.vx h2 fun k hk => hk.elim (fun h => h.1) fun hk => by omega⟩
end
theorem OpT.sliceE {α : Type} {E : Enc α} {P : Program} {e : Env} {w : World} {K : Value → World → Prop} {d : Option Tmp} {t : TypeId} {pos : String} {af : Array Edge} {g : Option (Nat × Bool)} {R : Nat → Prop} {A : Option Addr} {l : List α} {x : Operand} {lo' hi : Option Operand} {st el : TypeId} {n m c : Nat} {i j : Int} (hs : P.underlying st = some (.slice el)) (hz : SizeIs P el E.sz) (hx : evalO e x = some (.slice A n c)) (hl : loOf e lo' = some i) (hh : hiOf e n hi = some j)
    (hR : Sl E w R A l) (hc : l.length ≤ c) (hb : 0 ≤ i ∧ i ≤ j ∧ j ≤ c) (hm : j.toNat - i.toNat = m) (h : ∀ A', Sl E w R A' (l.drop i.toNat) → K (.slice A' m (c - i.toNat)) w) : OpT P e w ⟨d, .slice st x lo' hi none, t, pos, af, g⟩ K := by
  subst hm
  exact OpT.slice hs hz hx hl hh hb (h _ (hR.cut hc _))
end Go.Proofs.YtfljbnhhkdaobaaGreat

/-
  The sample: its infos.
-/
namespace Go.Proofs.YtfljbnhhkdaobaaGreat
open Go Go.RowKit Go.Proofs.Bw
set_option linter.unusedVariables false
set_option linter.unusedSimpArgs false
def sList : ByteArray := ⟨#[76, 105, 115, 116]⟩
def sList__cons : ByteArray := ⟨#[76, 105, 115, 116, 46, 99, 111, 110, 115]⟩
def sList__nil : ByteArray := ⟨#[76, 105, 115, 116, 46, 110, 105, 108]⟩
def sList__rec : ByteArray := ⟨#[76, 105, 115, 116, 46, 114, 101, 99]⟩
def sN__rec : ByteArray := ⟨#[78, 46, 114, 101, 99]⟩
def sN__succ : ByteArray := ⟨#[78, 46, 115, 117, 99, 99]⟩
def sN__zero : ByteArray := ⟨#[78, 46, 122, 101, 114, 111]⟩
def sPair__mk : ByteArray := ⟨#[80, 97, 105, 114, 46, 109, 107]⟩
def sPair__rec : ByteArray := ⟨#[80, 97, 105, 114, 46, 114, 101, 99]⟩
def sa : ByteArray := ⟨#[97]⟩
def sadd : ByteArray := ⟨#[97, 100, 100]⟩
def sdouble : ByteArray := ⟨#[100, 111, 117, 98, 108, 101]⟩
def sf : ByteArray := ⟨#[102]⟩
def sid : ByteArray := ⟨#[105, 100]⟩
def sone : ByteArray := ⟨#[111, 110, 101]⟩
def sp : ByteArray := ⟨#[112]⟩
def sswap : ByteArray := ⟨#[115, 119, 97, 112]⟩
def sthm : ByteArray := ⟨#[116, 104, 109]⟩
def num_1 : T := (tPi tN (tSo levU))
def num_2 : T := (apT (tV 0) [(tCo sN__zero [])])
def num_3 : T := (tPi tN (tPi (apT (tV 2) [(tV 0)]) (apT (tV 3) [(apT (tCo sN__succ []) [(tV 1)])])))
def num_4 : T := (tPi num_1 (tPi num_2 (tPi num_3 (tPi tN (apT (tV 3) [(tV 0)])))))
def num_5 : T := (tLm num_1 (tLm num_2 (tLm num_3 (tV 1))))
def num_6 : T := (tLm num_1 (tLm num_2 (tLm num_3 (tLm tN (apT (tV 1) [(tV 0), (apT (tCo sN__rec [levU]) [(tV 3), (tV 2), (tV 1), (tV 0)])])))))
def numI0 : Inf := ⟨4, sN, 0, tY, tZ, 0, sN, sN, 0, 0, 0, 0, 0, 0, [], 2, false⟩
theorem numI0_ok : numI0.ok := by unfold numI0 Inf.ok; simp only [i64ok]; decide
def numI1 : Inf := ⟨5, sN__zero, 0, tN, tZ, 0, sN, sN, 0, 0, 0, 0, 0, 0, [], 0, false⟩
theorem numI1_ok : numI1.ok := by unfold numI1 Inf.ok; simp only [i64ok]; decide
def numI2 : Inf := ⟨5, sN__succ, 0, (tPi tN tN), tZ, 0, sN, sN, 0, 0, 1, 1, 0, 0, [], 0, false⟩
theorem numI2_ok : numI2.ok := by unfold numI2 Inf.ok; simp only [i64ok]; decide
def numI3 : Inf := ⟨6, sN__rec, 1, num_4, tZ, 0, sN, sN, 0, 0, 0, 0, 1, 2, [(⟨sN__zero, 0, num_5⟩ : Rl), (⟨sN__succ, 1, num_6⟩ : Rl)], 0, false⟩
theorem numI3_ok : numI3.ok := by unfold numI3 Inf.ok; simp only [i64ok]; decide
def numL : List Inf := [numI0, numI1, numI2, numI3]
def pai_1 : T := (tCo sPair [])
def pai_2 : T := (tPi tY (tPi tY (tPi (tV 1) (tPi (tV 1) (apT pai_1 [(tV 3), (tV 2)])))))
def pai_3 : T := (tPi (apT pai_1 [(tV 1), (tV 0)]) (tSo levU))
def pai_4 : T := (tPi (tV 2) (tPi (tV 2) (apT (tV 2) [(apT (tCo sPair__mk []) [(tV 4), (tV 3), (tV 1), (tV 0)])])))
def pai_5 : T := (tPi tY (tPi tY (tPi pai_3 (tPi pai_4 (tPi (apT pai_1 [(tV 3), (tV 2)]) (apT (tV 2) [(tV 0)]))))))
def pai_6 : T := (tLm tY (tLm tY (tLm pai_3 (tLm pai_4 (tLm (apT pai_1 [(tV 3), (tV 2)]) (apT (tV 1) [(tPr sPair 0 (tV 0)), (tPr sPair 1 (tV 0))]))))))
def paiI0 : Inf := ⟨4, sPair, 0, (tPi tY (tPi tY tY)), tZ, 0, sPair, sPair, 2, 0, 0, 0, 0, 0, [], 1, true⟩
theorem paiI0_ok : paiI0.ok := by unfold paiI0 Inf.ok; simp only [i64ok]; decide
def paiI1 : Inf := ⟨5, sPair__mk, 0, pai_2, tZ, 0, sPair, sPair, 2, 0, 0, 2, 0, 0, [], 0, false⟩
theorem paiI1_ok : paiI1.ok := by unfold paiI1 Inf.ok; simp only [i64ok]; decide
def paiI2 : Inf := ⟨2, sPair__rec, 1, pai_5, pai_6, 0, sPair, sPair, 2, 0, 0, 0, 1, 1, [], 0, false⟩
theorem paiI2_ok : paiI2.ok := by unfold paiI2 Inf.ok; simp only [i64ok]; decide
def paiL : List Inf := [paiI0, paiI1, paiI2]
def lis_1 : T := (tCo sList [])
def lis_2 : T := (tPi tY (apT lis_1 [(tV 0)]))
def lis_3 : T := (tPi tY (tPi (tV 0) (tPi (apT lis_1 [(tV 1)]) (apT lis_1 [(tV 2)]))))
def lis_4 : T := (tPi (apT lis_1 [(tV 0)]) (tSo levU))
def lis_5 : T := (apT (tV 0) [(apT (tCo sList__nil []) [(tV 1)])])
def lis_6 : T := (tPi (tV 2) (tPi (apT lis_1 [(tV 3)]) (tPi (apT (tV 3) [(tV 0)]) (apT (tV 4) [(apT (tCo sList__cons []) [(tV 5), (tV 2), (tV 1)])]))))
def lis_7 : T := (tPi tY (tPi lis_4 (tPi lis_5 (tPi lis_6 (tPi (apT lis_1 [(tV 3)]) (apT (tV 3) [(tV 0)]))))))
def lis_8 : T := (tLm tY (tLm lis_4 (tLm lis_5 (tLm lis_6 (tV 1)))))
def lis_9 : T := (tLm tY (tLm lis_4 (tLm lis_5 (tLm lis_6 (tLm (tV 3) (tLm (apT lis_1 [(tV 4)]) (apT (tV 2) [(tV 1), (tV 0), (apT (tCo sList__rec [levU]) [(tV 5), (tV 4), (tV 3), (tV 2), (tV 0)])])))))))
def lisI0 : Inf := ⟨4, sList, 0, (tPi tY tY), tZ, 0, sList, sList, 1, 0, 0, 0, 0, 0, [], 2, false⟩
theorem lisI0_ok : lisI0.ok := by unfold lisI0 Inf.ok; simp only [i64ok]; decide
def lisI1 : Inf := ⟨5, sList__nil, 0, lis_2, tZ, 0, sList, sList, 1, 0, 0, 0, 0, 0, [], 0, false⟩
theorem lisI1_ok : lisI1.ok := by unfold lisI1 Inf.ok; simp only [i64ok]; decide
def lisI2 : Inf := ⟨5, sList__cons, 0, lis_3, tZ, 0, sList, sList, 1, 0, 1, 2, 0, 0, [], 0, false⟩
theorem lisI2_ok : lisI2.ok := by unfold lisI2 Inf.ok; simp only [i64ok]; decide
def lisI3 : Inf := ⟨6, sList__rec, 1, lis_7, tZ, 0, sList, sList, 1, 0, 0, 0, 1, 2, [(⟨sList__nil, 0, lis_8⟩ : Rl), (⟨sList__cons, 2, lis_9⟩ : Rl)], 0, false⟩
theorem lisI3_ok : lisI3.ok := by unfold lisI3 Inf.ok; simp only [i64ok]; decide
def lisL : List Inf := [lisI0, lisI1, lisI2, lisI3]
def mad_1 : T := (tLm tN (tLm tN (apT (tCo sN__rec [(levN 0)]) [(tLm tN tN), (tV 1), (tLm tN (tLm tN (apT (tCo sN__succ []) [(tV 0)]))), (tV 0)])))
def mad_2 : T := (tPi tN (tPi tN tN))
def mad_3 : T := (tCo sPair [])
def mad_4 : T := (tLm tY (tLm tY (tLm (apT mad_3 [(tV 1), (tV 0)]) (apT (tCo sPair__mk []) [(tV 1), (tV 2), (tPr sPair 1 (tV 0)), (tPr sPair 0 (tV 0))]))))
def madI0 : Inf := ⟨1, sa, 0, tN, tZ, 0, noS, noS, 0, 0, 0, 0, 0, 0, [], 0, false⟩
theorem madI0_ok : madI0.ok := by unfold madI0 Inf.ok; simp only [i64ok]; decide
def madI1 : Inf := ⟨1, sf, 0, (tPi tN tN), tZ, 0, noS, noS, 0, 0, 0, 0, 0, 0, [], 0, false⟩
theorem madI1_ok : madI1.ok := by unfold madI1 Inf.ok; simp only [i64ok]; decide
def madI2 : Inf := ⟨1, sp, 0, (apT mad_3 [tN, tN]), tZ, 0, noS, noS, 0, 0, 0, 0, 0, 0, [], 0, false⟩
theorem madI2_ok : madI2.ok := by unfold madI2 Inf.ok; simp only [i64ok]; decide
def madI3 : Inf := ⟨2, sadd, 0, mad_2, mad_1, 0, noS, noS, 0, 0, 0, 0, 0, 0, [], 0, false⟩
theorem madI3_ok : madI3.ok := by unfold madI3 Inf.ok; simp only [i64ok]; decide
def madI4 : Inf := ⟨2, sone, 0, tN, (tNum 1), 0, noS, noS, 0, 0, 0, 0, 0, 0, [], 0, false⟩
theorem madI4_ok : madI4.ok := by unfold madI4 Inf.ok; simp only [i64ok]; decide
def madI5 : Inf := ⟨2, sdouble, 0, (tPi tN tN), (tLm tN (apT (tCo sadd []) [(tV 0), (tV 0)])), 0, noS, noS, 0, 0, 0, 0, 0, 0, [], 0, false⟩
theorem madI5_ok : madI5.ok := by unfold madI5 Inf.ok; simp only [i64ok]; decide
def madI6 : Inf := ⟨2, sid, 1, (tPi (tSo levU) (tPi (tV 0) (tV 1))), (tLm (tSo levU) (tLm (tV 0) (tV 0))), 0, noS, noS, 0, 0, 0, 0, 0, 0, [], 0, false⟩
theorem madI6_ok : madI6.ok := by unfold madI6 Inf.ok; simp only [i64ok]; decide
def madI7 : Inf := ⟨2, sswap, 0, (tPi tY (tPi tY (tPi (apT mad_3 [(tV 1), (tV 0)]) (apT mad_3 [(tV 1), (tV 2)])))), mad_4, 0, noS, noS, 0, 0, 0, 0, 0, 0, [], 0, false⟩
theorem madI7_ok : madI7.ok := by unfold madI7 Inf.ok; simp only [i64ok]; decide
def madI8 : Inf := ⟨3, sthm, 0, tN, (tNum 2), 0, noS, noS, 0, 0, 0, 0, 0, 0, [], 0, false⟩
theorem madI8_ok : madI8.ok := by unfold madI8 Inf.ok; simp only [i64ok]; decide
def madL : List Inf := [madI0, madI1, madI2, madI3, madI4, madI5, madI6, madI7, madI8]
end Go.Proofs.YtfljbnhhkdaobaaGreat
