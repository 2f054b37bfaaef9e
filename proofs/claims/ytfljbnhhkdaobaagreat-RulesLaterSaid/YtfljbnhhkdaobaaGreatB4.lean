/-
  What rules are made of: applied terms that may be, spines, whether there is something to look at.
-/
import Derived.Test.YtfljbnhhkdaobaaGreatA9
import Derived.Test.YtfljbnhhkdaobaaGreatA8
import Derived.Test.YtfljbnhhkdaobaaGreatB3g
namespace Go.Proofs.YtfljbnhhkdaobaaGreat
open Go Go.RowKit Go.Proofs.Bw
set_option linter.unusedVariables false
set_option linter.unusedSimpArgs false
def toldT (t : T) : T := if mayT t = true then t else tZ
def toldE (t : T) : Int := if mayT t = true then 0 else 4
theorem nodeB_k {k n : Int} {s : ByteArray} {ls : List L} {ts : List T} (h : nodeB (.mk k n s ls ts) = true) : k ≠ 0 := by
  intro hk; subst hk
  have := ((nodeB_iff 0 n s ls ts).1 h).1
  simp [kidsI] at this
theorem may_k {t : T} (h : mayT t = true) : T.k t ≠ 0 := by
  have h1 := may_nodes h
  cases t with
  | mk k n s ls ts => exact nodeB_k (nodes_mk h1).1
theorem spArgs_le (t : T) (h : nodes t = true) : (spArgs t).length ≤ size t := by
  generalize hn : size t = n
  induction n using Nat.strongRecOn generalizing t with
  | ind n ih =>
    cases t with
    | mk k i b ls ts =>
      by_cases hk : k = 4
      · obtain ⟨hl, h1, h2, h3, h4⟩ := node_app2 h hk
        have := ih (size ts[0]) (by omega) ts[0] h4 rfl
        rw [h2, List.length_append, List.length_singleton]; omega
      · rw [spArgs_no hk]; simp
set_option maxRecDepth 20000 in
theorem tApply_r {R : Nat → Prop} (f : T) (cf : List Value) (A : Option Addr) (l : List T) (c : Nat) (w : World) (hf : VT w R cf f) (hl : Sl encT w R A l) (hR : ∀ k, R k → k < w.heap.size) (hc : lenOk l.length c) : Runs Tryz.prog 109 #[.agg cf.toArray, .slice A l.length c] w fun v w' => Ext w w' ∧ ∃ cs : List Value, v = .agg cs.toArray ∧ VT w' (nw R w w') cs (toldT (apT f l)) := by
  have hf0 := hf
  obtain ⟨kf, nf, sf, lsf, tsf, laf, lcf, taf, tcf, ef, rfl, hkf, hnf, hsf, hllf, hltf, hLf, hTf⟩ := hf.inv
  refine Runs.of_vc (ρ := []) cx_ok [0, 1, 2, 4, 6, 7, 8, 9, 10, 20] [.a [.v (.int .u8 kf), .v (.int .i64 nf), .v (.string sf), .v (.slice laf lsf.length lcf), .v (.slice taf tsf.length tcf)], .v _] Tryz.func109 rfl rfl rfl (Holds.nil w) ?_
  intro g1 w1 e1 x1 z1 hh1
  intro g2 w2 e2 x2 z2 hh2
  refine vLoop_upd (σ := Nat × TC) [6, 9, 10, 11, 12, 13, 14, 15, 16, 17] (fun s => [(9, .v (.int .i64 s.1))]) [0] (fun s => [(0, [.v (.int .u8 s.2.k), .v (.int .i64 s.2.n), .v (.string s.2.s), .v (.slice s.2.la s.2.ln s.2.lc), .v (.slice s.2.ta s.2.tn s.2.tc)])]) (fun s w' => Ext w w' ∧ w2.heap.size ≤ w'.heap.size ∧ s.1 ≤ l.length ∧ VT w' (fun k => R k ∨ (w2.heap.size ≤ k ∧ k < w'.heap.size)) s.2.cells (apT f (l.take s.1))) (fun s => l.length - s.1) (0, ⟨kf, nf, sf, laf, lsf.length, lcf, taf, tsf.length, tcf⟩) (fun _ => ⟨rfl, rfl⟩)
    ⟨(by repeat (first | exact trivial | refine And.intro rfl ?_)), (by repeat (first | exact trivial | refine And.intro rfl ?_)), (by repeat (first | exact trivial | refine And.intro rfl ?_)), (by repeat (first | exact trivial | refine And.intro rfl ?_)), x1.trans x2, Nat.le_refl _, Nat.zero_le _, (hf0.ext (x1.trans x2)).mono fun k hk => .inl hk⟩ ?_
  rintro ⟨i, q⟩ w3 hh3 ⟨x3, q3, hi, hq⟩
  simp only at hi hq
  refine Or.inl (And.intro (fun h => ?_) (fun h => ?_))
  · have hil : i < l.length := by have := of_decide_eq_true h; simp only at this; omega
    obtain ⟨a1, cs1, ha1, _, hrow, hv1⟩ := (hl.ext x3).at hil
    have hap := apT_succ f l i hil
    generalize l[i] = u at *
    have hv1 : VT w3 R cs1 u := hv1
    have hv10 := hv1
    obtain ⟨ku, nu, su, lsu, tsu, lau, lcu, tau, tcu, eu, rfl, hku, hnu, hsu, hllu, hltu, hLu, hTu⟩ := hv1.inv
    refine OpT.indexAddr Tryz.underlying31 Tryz.sizeOf33 rfl rfl ha1 (by first | omega | (simp only [lenOk] at *; omega)) ?_; refine Lands.v hh3 ?_
    refine OpT.loadA Tryz.isAgg33 (by exact Tryz.sizeOf33) rfl hrow ?_; refine Lands.ret (s := .a [.v (.int .u8 ku), .v (.int .i64 nu), .v (.string su), .v (.slice lau lsu.length lcu), .v (.slice tau tsu.length tcu)]) rfl rfl hh3 ?_
    intro g4 w4 e4 x4 z4 hh4; intro w5 m5 z5 hh5; replace m5 : Upd g4 w4 w5 := m5; have x5 : Ext w3 w5 := x4.upd m5 (by omega); have q5 := x5.size
    have hq5 := hq.ext x5
    have hu5 := (hv10.ext x5).mono (R' := fun k => R k ∨ (w2.heap.size ≤ k ∧ k < w3.heap.size)) fun k hk => .inl hk
    refine OpT.buildE (E := encT) (R := (fun k => R k ∨ (w2.heap.size ≤ k ∧ k < w3.heap.size))) (vs := [_, _]) (l := [apT f (l.take i), u]) Tryz.zeroValue33 (.cons rfl (.cons rfl (.nil))) Tryz.underlying31 Tryz.sizeOf33 rfl rfl (Reps.cons hq5 (Reps.cons hu5 (Reps.nil _ _ _))) rfl rfl hh5 fun w6 g6 e6 x6 z6 o6 hh6 => ?_
    intro w7 m7 z7 hh7
    replace m7 : Upd g1 w6 w7 := m7
    have o7 := o6.upd m7 (by omega) (fun h => by rcases h with h | h; have := hR _ h; omega; omega)
    refine vsd (by simp only [inKind]; simp only [lenOk] at *; omega) ?_
    have hv7 : VT w7 (fun k => R k ∨ (w2.heap.size ≤ k ∧ k < w7.heap.size)) [.int .u8 4, .int .i64 0, .string noS, .slice none 0 0, .slice (some ⟨g6, 0, none⟩) 2 2] (tA (apT f (l.take i)) u) := VT.intro (by omega) (by simp [i64ok]) (by decide) (by simp [lenOk]) (by simp [lenOk]) (SlL.nil _ _ _) (T_sl (o7.sl.mono fun k hk => by
      rcases hk.1 with (h | h) | h
      · exact .inl h
      · exact .inr (by omega)
      · exact .inr ⟨by omega, hk.2⟩))
    rw [← hap] at hv7
    exact Exists.intro ((i + 1, ⟨4, 0, noS, none, 0, 0, some ⟨g6, 0, none⟩, 2, 2⟩)) ⟨by simp only; omega, esub_over (by repeat (first | exact trivial | refine And.intro rfl ?_)) (by repeat (first | exact trivial | refine And.intro rfl ?_)), hsub_over (by repeat (first | exact trivial | refine And.intro rfl ?_)) (by repeat (first | exact trivial | refine And.intro rfl ?_)), (x3.trans (x5.trans x6)).upd m7 (by omega), by omega, hil, hv7⟩
  · obtain rfl : i = l.length := by have := of_decide_eq_false h; simp only at this; omega
    rw [List.take_length] at hq
    refine vcZ (may_runs _ _ w3 _ hq) hh3 fun w4 x4 z4 hh4 => ?_
    have hno : ∀ g, g = g2 → ¬ (R g ∨ (w2.heap.size ≤ g ∧ g < w3.heap.size)) := fun g e h => by
      subst e
      rcases h with h | h
      · have := hR _ h; omega
      · omega
    refine Or.inl (And.intro (fun h => ?_) (fun h => ?_))
    · have hm : mayT (apT f l) = false := by simpa using h
      intro w5 m5 z5 hh5
      replace m5 : Upd g2 w4 w5 := m5
      exact ⟨(x3.trans x4).upd m5 (by omega), _, rfl, by unfold toldT; rw [hm]; exact tZ_rep _ _⟩
    · have hm : mayT (apT f l) = true := by simpa using h
      intro w5 m5 z5 hh5
      replace m5 : Upd g2 w4 w5 := m5
      have hq5 := (hq.ext x4).mod (S := fun k => k = g2) m5 fun k hk e => hno k e hk
      refine ⟨(x3.trans x4).upd m5 (by omega), q.cells, rfl, ?_⟩
      unfold toldT; rw [if_pos hm]
      exact hq5.mono fun k hk => hk.imp id fun h => by omega
set_option maxRecDepth 20000 in
theorem told_r {R : Nat → Prop} (f : T) (cf : List Value) (A : Option Addr) (l : List T) (c : Nat) (w : World) (hf : VT w R cf f) (hl : Sl encT w R A l) (hR : ∀ k, R k → k < w.heap.size) (hc : lenOk l.length c) : Runs Tryz.prog 76 #[.agg cf.toArray, .slice A l.length c] w fun v w' => Ext w w' ∧ ∃ cs : List Value, v = .tuple #[.agg cs.toArray, .int .i64 (toldE (apT f l))] ∧ VT w' (nw R w w') cs (toldT (apT f l)) := by
  have hf0 := hf
  obtain ⟨kf, nf, sf, lsf, tsf, laf, lcf, taf, tcf, ef, rfl, hkf, hnf, hsf, hllf, hltf, hLf, hTf⟩ := hf.inv
  refine Runs.of_vc (ρ := []) cx_ok [0, 1, 2, 4, 5, 6, 12] [.a [.v (.int .u8 kf), .v (.int .i64 nf), .v (.string sf), .v (.slice laf lsf.length lcf), .v (.slice taf tsf.length tcf)], .v _] Tryz.func76 rfl rfl rfl (Holds.nil w) ?_
  intro g1 w1 e1 x1 z1 hh1
  intro g2 w2 e2 x2 z2 hh2
  have y2 := x1.trans x2
  refine (tApply_r f _ A l c w2 (hf0.ext y2) (hl.ext y2) (fun k hk => by have := hR k hk; omega) hc).mono ?_
  rintro _ w3 ⟨x3, cs3, rfl, hv3⟩
  have hh3 := hh2.ext x3
  have z3 := x3.size
  have hv30 := hv3
  obtain ⟨kr, nr, sr, lsr, tsr, lar, lcr, tar, tcr, er, rfl, hkr, hnr, hsr, hllr, hltr, hLr, hTr⟩ := hv3.inv
  refine Lands.ret (s := .a [.v (.int .u8 kr), .v (.int .i64 nr), .v (.string sr), .v (.slice lar lsr.length lcr), .v (.slice tar tsr.length tcr)]) rfl rfl hh3 ?_
  intro g4 w4 e4 x4 z4 hh4; intro w5 m5 z5 hh5; replace m5 : Upd g4 w4 w5 := m5; have x5 : Ext w3 w5 := x4.upd m5 (by omega); have q5 := x5.size
  have hk : T.k (toldT (apT f l)) = kr := by rw [er]; rfl
  refine Or.inl (And.intro (fun h => ?_) (fun h => ?_))
  · have h0 : kr = 0 := by simpa using h
    have hm : mayT (apT f l) = false := by
      cases hq : mayT (apT f l) with
      | false => rfl
      | true => unfold toldT at hk; rw [if_pos hq] at hk; exact absurd (hk.trans h0) (may_k hq)
    intro w6 m6 z6 hh6
    replace m6 : Upd g2 w5 w6 := m6
    refine ⟨(y2.trans (x3.trans x5)).upd m6 (by omega), _, by unfold toldE; rw [hm]; rfl, ?_⟩
    unfold toldT; rw [hm]; exact tZ_rep _ _
  · have h0 : kr ≠ 0 := by simpa using h
    have hm : mayT (apT f l) = true := by
      cases hq : mayT (apT f l) with
      | true => rfl
      | false => unfold toldT at hk; rw [hq] at hk; exact absurd hk.symm h0
    intro w6 m6 z6 hh6
    replace m6 : Upd g2 w5 w6 := m6
    have hq6 := (hv30.ext x5).mod (S := fun k => k = g2) m6 fun k hk e => by
      have e : k = g2 := e
      rcases hk with h | h
      · have := hR k h; omega
      · omega
    refine ⟨(y2.trans (x3.trans x5)).upd m6 (by omega), _, by unfold toldE; rw [hm]; rfl, hq6.mono fun k hk => hk.imp id fun h => by omega⟩
/-! ready -/
set_option maxRecDepth 20000 in
theorem ready_r {R : Nat → Prop} (p : Addr) (A : Option Addr) (l : List T) (c : Nat) (w : World) (hl : Sl encT w R A l) (hc : lenOk l.length c) : Runs Tryz.prog 71 #[.pointer (some p), .slice A l.length c] w fun v w' => v = .int .i64 (if l.all mayT = true then 0 else 1) ∧ Ext w w' := by
  refine Runs.of_vc (ρ := []) cx_ok [0, 1, 4, 6, 8, 9, 10, 11, 12, 17] [.v _, .v _] Tryz.func71 rfl rfl rfl (Holds.nil w) ?_
  refine Or.inl (And.intro (fun hx => nomatch (rfl).symm.trans hx) (fun _ => ?_))
  refine vLoop_upd (σ := Nat) [4, 6, 11, 12, 13, 14, 15, 16, 17, 18] (fun i => [(11, .v (.int .i64 i))]) [] (fun _ => []) (fun i w' => Ext w w' ∧ i ≤ l.length ∧ (l.take i).all mayT = true) (fun i => l.length - i) 0 (fun _ => ⟨rfl, rfl⟩)
    ⟨(by repeat (first | exact trivial | refine And.intro rfl ?_)), (by repeat (first | exact trivial | refine And.intro rfl ?_)), (by repeat (first | exact trivial | refine And.intro rfl ?_)), (by repeat (first | exact trivial | refine And.intro rfl ?_)), Ext.refl _, Nat.zero_le _, rfl⟩ ?_
  rintro i w3 hh3 ⟨x3, hi, hq⟩
  refine Or.inl (And.intro (fun h => ?_) (fun h => ?_))
  · have hil : i < l.length := by have := of_decide_eq_true h; omega
    obtain ⟨a1, cs1, ha1, _, hrow, hv1⟩ := (hl.ext x3).at hil
    have htk := List.take_succ_eq_append_getElem hil
    have hmem := List.getElem_mem hil
    generalize l[i] = u at *
    have hv1 : VT w3 R cs1 u := hv1
    have hv10 := hv1
    obtain ⟨ku, nu, su, lsu, tsu, lau, lcu, tau, tcu, eu, rfl, hku, hnu, hsu, hllu, hltu, hLu, hTu⟩ := hv1.inv
    refine OpT.indexAddr Tryz.underlying31 Tryz.sizeOf33 rfl rfl ha1 (by first | omega | (simp only [lenOk] at *; omega)) ?_; refine Lands.v hh3 ?_
    refine OpT.loadA Tryz.isAgg33 (by exact Tryz.sizeOf33) rfl hrow ?_; refine Lands.ret (s := .a [.v (.int .u8 ku), .v (.int .i64 nu), .v (.string su), .v (.slice lau lsu.length lcu), .v (.slice tau tsu.length tcu)]) rfl rfl hh3 ?_
    intro g4 w4 e4 x4 z4 hh4; intro w5 m5 z5 hh5; replace m5 : Upd g4 w4 w5 := m5; have x5 : Ext w3 w5 := x4.upd m5 (by omega); have q5 := x5.size
    refine vcZ (may_runs u _ w5 _ (hv10.ext x5)) hh5 fun w6 x6 z6 hh6 => ?_
    refine Or.inl (And.intro (fun h => ?_) (fun h => ?_))
    · have hm : mayT u = false := by simpa using h
      refine ⟨?_, x3.trans (x5.trans x6)⟩
      rw [if_neg fun hall => by rw [List.all_eq_true.1 hall u hmem] at hm; cases hm]; rfl
    · have hm : mayT u = true := by simpa using h
      refine vsd (by simp only [inKind]; simp only [lenOk] at *; omega) ?_
      exact Exists.intro ((i + 1)) ⟨by omega, esub_over (by repeat (first | exact trivial | refine And.intro rfl ?_)) (by repeat (first | exact trivial | refine And.intro rfl ?_)), hsub_over (by repeat (first | exact trivial | refine And.intro rfl ?_)) (by repeat (first | exact trivial | refine And.intro rfl ?_)), x3.trans (x5.trans x6), hil, by rw [htk, List.all_append, hq]; simp [hm]⟩
  · obtain rfl : i = l.length := by have := of_decide_eq_false h; omega
    rw [List.take_length] at hq
    exact ⟨by rw [if_pos hq]; rfl, x3⟩
end Go.Proofs.YtfljbnhhkdaobaaGreat

/-
  Spines; a recursor that looks at something; a constructor.
-/
namespace Go.Proofs.YtfljbnhhkdaobaaGreat
open Go Go.RowKit Go.Proofs.Bw
set_option linter.unusedVariables false
set_option linter.unusedSimpArgs false
theorem Spine_n {R : Nat → Prop} (t : T) (cs : List Value) (w : World) (hv : VT w R cs t) (hm : mayT t = true) : Runs Tryz.prog 77 #[.agg cs.toArray] w fun v w' => Ext w w' ∧ ∃ (ch : List Value) (A : Option Addr) (c : Nat), v = .tuple #[.agg ch.toArray, .slice A (spArgs t).length c] ∧ VT w' (nw R w w') ch (head t) ∧ Sl encT w' (nw R w w') A (spArgs t) ∧ lenOk (spArgs t).length c := by
  refine (Spine_runs t cs w (fun k => R k ∨ w.heap.size ≤ k) (fun k hk => .inr hk) (hv.mono fun k h => .inl h)).mono ?_
  rintro v w' ⟨cs', A, c, hv, h1, h2, h3, x⟩
  simp only [hm, cond_true] at hv h1 h2 h3
  exact ⟨x, cs', A, c, hv, h1.small.mono fun k hk => hk.1.imp id fun h => ⟨h, hk.2⟩, (sl_T h2).small.mono fun k hk => hk.1.imp id fun h => ⟨h, hk.2⟩, h3⟩
def RdE (w : World) (X : Nat → Prop) (e m : Nat) (A : Option Addr) : Nat → Prop := fun k => (k < w.heap.size ∧ ¬ X k) ∧ ¬ mine e m A k
section
variable {w w' : World} {X : Nat → Prop} {lo e m c : Nat} {A : Option Addr} {l : List Inf}
theorem RdE.lt : ∀ k, RdE w X e m A k → k < w.heap.size := fun k hk => hk.1.1
theorem RdE.ext (x : Ext w w') : ∀ k, RdE w X e m A k → RdE w' X e m A k := fun k hk => ⟨⟨Nat.lt_of_lt_of_le hk.1.1 x.size, hk.1.2⟩, hk.2⟩
theorem RdE.new (hE : EX w X lo e m A c l) (hX : ∀ k, X k → k < w.heap.size) : ∀ k, w.heap.size ≤ k → k < w'.heap.size → RdE w' X e m A k := fun k h1 h2 => ⟨⟨h2, fun hx => by have := hX k hx; omega⟩, fun hm => by have := hE.lt k hm; omega⟩
theorem RdE.nw (hE : EX w X lo e m A c l) (hX : ∀ k, X k → k < w.heap.size) (x : Ext w w') : ∀ k, nw (RdE w X e m A) w w' k → RdE w' X e m A k := fun k hk => hk.elim (RdE.ext x k) fun h => RdE.new hE hX k h.1 h.2
theorem VT.re {cs : List Value} {t : T} (h : VT w (RdE w X e m A) cs t) (x : Ext w w') : VT w' (RdE w' X e m A) cs t := (h.ext x).mono (RdE.ext x)
theorem VI.re {cs : List Value} {t : Inf} (h : VI w (RdE w X e m A) cs t) (x : Ext w w') : VI w' (RdE w' X e m A) cs t := encInf.mono (VI.ext h x) (RdE.ext x)
theorem Sl.re {α : Type} {E : Enc α} {B : Option Addr} {q : List α} (h : Sl E w (RdE w X e m A) B q) (x : Ext w w') : Sl E w' (RdE w' X e m A) B q := (h.ext x).mono (RdE.ext x)
end
theorem EX.wid {w w' : World} {X X' : Nat → Prop} {lo e m c : Nat} {A : Option Addr} {l : List Inf} (h : EX w X lo e m A c l) (x : Ext w w') (hx : ∀ k, X' k → X k ∨ w.heap.size ≤ k) : EX w' X' lo e m A c l :=
  (EA.ext h x).ex fun k hk h' => (hx k h').elim hk.1.2 fun h => by have := hk.1.1; omega
def recX (l : List Inf) (t : T) : Inf := getI l (T.s' (head t))
def ownN (x : Inf) : Int := x.fixed + x.motives + x.minors
def recB (l : List Inf) (t : T) : Bool := decide (T.k (head t) = 3) && ((findI l (T.s' (head t))).isSome && (decide ((recX l t).kind = 6) && (decide (((T.ls' (head t)).length : Int) = (recX l t).params) && decide (ownN (recX l t) + (recX l t).index < ((spArgs t).length : Int)))))
def nok (x : Inf) : Prop := badNums x = false
theorem great_no {n : Int} (h : great n = false) : 0 ≤ n ∧ n ≤ 1000 := by
  unfold great at h
  simp at h
  omega
theorem nok.get {x : Inf} (h : nok x) : (0 ≤ x.fixed ∧ x.fixed ≤ 1000) ∧ (0 ≤ x.index ∧ x.index ≤ 1000) ∧ (0 ≤ x.no ∧ x.no ≤ 1000) ∧ (0 ≤ x.fields ∧ x.fields ≤ 1000) ∧ (0 ≤ x.motives ∧ x.motives ≤ 1000) ∧ (0 ≤ x.minors ∧ x.minors ≤ 1000) ∧ (0 ≤ x.ctors ∧ x.ctors ≤ 1000) ∧ ∀ r ∈ x.rules, 0 ≤ r.f ∧ r.f ≤ 1000 := by
  have h2 : ∀ n ∈ infN x, great n = false := fun n hn => by
    cases hg : great n with
    | false => rfl
    | true => exact absurd (List.any_eq_true.2 ⟨n, hn, hg⟩) (by rw [show (infN x).any great = false from h]; decide)
  unfold infN at h2
  refine ⟨great_no (h2 _ (by simp)), great_no (h2 _ (by simp)), great_no (h2 _ (by simp)), great_no (h2 _ (by simp)), great_no (h2 _ (by simp)), great_no (h2 _ (by simp)), great_no (h2 _ (by simp)), fun r hr => great_no (h2 _ ?_)⟩
  exact List.mem_append.2 (.inr (List.mem_map.2 ⟨r, hr, rfl⟩))
theorem noI_nok : nok noI := by unfold nok; decide
def NOK (l : List Inf) : Prop := ∀ x ∈ l, nok x
theorem NOK.get {l : List Inf} (h : NOK l) (s : ByteArray) : nok (getI l s) := by
  unfold getI
  cases hq : findI l s with
  | none => exact noI_nok
  | some x => exact h x (findI_mem hq).1
theorem spArgs_len {t : T} (h : mayT t = true) : (spArgs t).length ≤ 65536 := Nat.le_trans (spArgs_le t (may_nodes h)) (may_size h)
structure RecAt (w : World) (X : Nat → Prop) (e m : Nat) (A : Option Addr) (l : List Inf) (t : T) (v : Value) : Prop where
  at_ : ∃ (ci ch : List Value) (B : Option Addr) (bc : Nat) (y : Inf) (h : T) (q : List T) (own all : Int), v = .tuple #[.agg (ci ++ ch ++ [Value.slice B q.length bc, Value.int .i64 own, Value.int .i64 all]).toArray, .bool (recB l t)] ∧ VI w (RdE w X e m A) ci y ∧ VT w (RdE w X e m A) ch h ∧ Sl encT w (RdE w X e m A) B q ∧ lenOk q.length bc ∧
    (recB l t = true → y = recX l t ∧ h = head t ∧ q = spArgs t ∧ own = ownN (recX l t) ∧ all = ownN (recX l t) + (recX l t).index) ∧ (recB l t = false → all = 0)
def madB (l : List Inf) (t : T) : Bool := decide (T.k (head t) = 3) && ((findI l (T.s' (head t))).isSome && decide ((recX l t).kind = 5))
structure MadAt (w : World) (X : Nat → Prop) (e m : Nat) (A : Option Addr) (l : List Inf) (t : T) (v : Value) : Prop where
  at_ : ∃ (ci : List Value) (B : Option Addr) (bc : Nat) (y : Inf) (q : List T), v = .tuple #[.agg ci.toArray, .slice B q.length bc, .bool (madB l t)] ∧ VI w (RdE w X e m A) ci y ∧ Sl encT w (RdE w X e m A) B q ∧ lenOk q.length bc ∧ (madB l t = true → y = recX l t ∧ q = spArgs t)
set_option maxHeartbeats 1000000 in
set_option maxRecDepth 20000 in
theorem recOf_runs {X : Nat → Prop} {lo : Nat} (e m : Nat) (A : Option Addr) (c : Nat) (l : List Inf) (t : T) (cs : List Value) (w : World) (hE : EX w X lo e m A c l) (hX : ∀ k, X k → k < w.heap.size) (hv : VT w (RdE w X e m A) cs t) (hm : mayT t = true) (hN : NOK l) :
    Runs Tryz.prog 72 #[.pointer (some ⟨e, 0, none⟩), .agg cs.toArray] w fun v w' => Ext w w' ∧ RecAt w' X e m A l t v := by
  have hv0 := hv
  have hlen := spArgs_len hm
  obtain ⟨kt, nt, st, lst, tst, lat, lct, tat, tct, et, rfl, hkt, hnt, hst, hllt, hltt, hLt, hTt⟩ := hv.inv
  refine Runs.of_vc (ρ := []) cx_ok [0, 1, 3, 4, 5, 6, 7, 8, 9, 17, 57] [.v _, .a [.v (.int .u8 kt), .v (.int .i64 nt), .v (.string st), .v (.slice lat lst.length lct), .v (.slice tat tst.length tct)]] Tryz.func72 rfl rfl rfl (Holds.nil w) ?_
  intro g1 w1 e1 x1 z1 hh1
  intro g2 w2 e2 x2 z2 hh2
  have y2 := x1.trans x2
  refine (Spine_n (R := RdE w X e m A) t _ w2 (VT.ext hv0 y2) hm).mono ?_
  rintro _ w3 ⟨x3, ch, B, bc, rfl, hh, hs, hb⟩
  have hh3 := hh2.ext x3
  have z3 := x3.size
  have hh0 := hh
  obtain ⟨kh, nh, sh, lsh, tsh, lah, lch, tah, tch, eh, rfl, hkh, hnh, hsh, hllh, hlth, hLh, hTh⟩ := hh.inv
  refine Lands.ret (s := .t [.a [.v (.int .u8 kh), .v (.int .i64 nh), .v (.string sh), .v (.slice lah lsh.length lch), .v (.slice tah tsh.length tch)], .v (.slice B (spArgs t).length bc)]) rfl rfl hh3 ?_
  intro g4 w4 e4 x4 z4 hh4; intro w5 m5 z5 hh5; replace m5 : Upd g4 w4 w5 := m5; have x5 : Ext w3 w5 := x4.upd m5 (by omega); have q5 := x5.size
  have hkh : T.k (head t) = kh := by rw [eh]; rfl
  have hsh : T.s' (head t) = sh := by rw [eh]; rfl
  have hlh : T.ls' (head t) = lsh := by rw [eh]; rfl
  have rb : recB l t = (decide (kh = 3) && ((findI l sh).isSome && (decide ((getI l sh).kind = 6) && (decide ((lsh.length : Int) = (getI l sh).params) && decide (ownN (getI l sh) + (getI l sh).index < ((spArgs t).length : Int)))))) := by unfold recB recX; rw [hkh, hsh, hlh]
  have rx : recX l t = getI l sh := by unfold recX; rw [hsh]
  refine Or.inl (And.intro (fun h => ?_) (fun h => ?_))
  · have h3 : kh ≠ 3 := by simpa using h
    have rbf : recB l t = false := by rw [rb, decide_eq_false h3]; rfl
    intro w6 m6 z6 hh6
    replace m6 : Upd g2 w5 w6 := m6
    refine ⟨(y2.trans (x3.trans x5)).upd m6 (by omega), ⟨noIc, noTc, none, 0, noI, tZ, [], 0, 0, by rw [rbf]; rfl, noI_rep _ _, tZ_rep _ _, Sl.nil _ _ _ _, by simp [lenOk], fun h => ?_, fun _ => rfl⟩⟩
    rw [rbf] at h; cases h
  · have h3 : kh = 3 := by simpa using h
    have hE5 : EX w5 (fun k => X k ∨ k = g2) lo e m A c l := hE.wid (y2.trans (x3.trans x5)) fun k hk => hk.imp id fun h => by omega
    have hX5 : ∀ k, X k ∨ k = g2 → k < w5.heap.size := fun k hk => by
      rcases hk with h | h
      · have := hX k h; omega
      · omega
    refine (Find_x e m A c l sh w5 hE5 hX5).mono ?_
    rintro _ w6 ⟨x6, cf, rfl, hf⟩
    have hh6 := hh5.ext x6
    have z6 := x6.size
    have hnk := (hN.get sh).get
    have hF : VI w6 (RdE w6 (fun k => X k ∨ k = g2) e m A) cf (getI l sh) := hf
    generalize getI l sh = F at *
    generalize (findI l sh).isSome = is at *
    have hF0 := hF
    obtain ⟨ctF, cvF, raF, rcF, rfl, htyF, hvlF, hruF, hrlF, hokF⟩ := hF; obtain ⟨kFt, nFt, sFt, lsFt, tsFt, laFt, lcFt, taFt, tcFt, etyF, rfl, hkFt, hnFt, hsFt, hllFt, hltFt, hLFt, hTFt⟩ := htyF.inv; obtain ⟨kFv, nFv, sFv, lsFv, tsFv, laFv, lcFv, taFv, tcFv, evlF, rfl, hkFv, hnFv, hsFv, hllFv, hltFv, hLFv, hTFv⟩ := hvlF.inv
    refine Lands.ret (s := .t [.a [.v (.int .u8 F.kind), .v (.string F.name), .v (.int .i64 F.params), .v (.int .u8 kFt), .v (.int .i64 nFt), .v (.string sFt), .v (.slice laFt lsFt.length lcFt), .v (.slice taFt tsFt.length tcFt), .v (.int .u8 kFv), .v (.int .i64 nFv), .v (.string sFv), .v (.slice laFv lsFv.length lcFv), .v (.slice taFv tsFv.length tcFv), .v (.int .i64 F.height), .v (.string F.block), .v (.string F.of_), .v (.int .i64 F.fixed), .v (.int .i64 F.index), .v (.int .i64 F.no), .v (.int .i64 F.fields), .v (.int .i64 F.motives), .v (.int .i64 F.minors), .v (.slice raF F.rules.length rcF), .v (.int .i64 F.ctors), .v (.bool F.record)], .v (.bool is)]) rfl rfl hh6 ?_
    intro g7 w7 e7 x7 z7 hh7; intro w8 m8 z8 hh8; replace m8 : Upd g7 w7 w8 := m8; have x8 : Ext w6 w8 := x7.upd m8 (by omega); have q8 := x8.size
    have hnk2 := hnk
    obtain ⟨n1, n2, n3, n4, n5, n6, n7, n8⟩ := hnk2
    refine vsd (by simp only [inKind]; omega) ?_
    refine vsd (by simp only [inKind]; omega) ?_
    refine And.intro (fun _ => by simp only [inKind]; omega) ?_
    refine Or.inl (And.intro (fun h => ?_) (fun h => ?_))
    · have rbf : recB l t = false := by
        rw [rb]
        cases is <;> by_cases a : F.kind = 6 <;> by_cases b : (lsh.length : Int) = F.params <;> (simp [sel, ownN, a, b, h3] at h ⊢; try first | omega | exact decide_eq_false (by omega) | exact decide_eq_true (by omega))
      intro w9 m9 z9 hh9
      replace m9 : Upd g2 w8 w9 := m9
      refine ⟨(y2.trans (x3.trans (x5.trans (x6.trans x8)))).upd m9 (by omega), ⟨noIc, noTc, none, 0, noI, tZ, [], 0, 0, by rw [rbf]; rfl, noI_rep _ _, tZ_rep _ _, Sl.nil _ _ _ _, by simp [lenOk], fun h => ?_, fun _ => rfl⟩⟩
      rw [rbf] at h; cases h
    · have rbt : recB l t = true := by
        rw [rb]
        cases is <;> by_cases a : F.kind = 6 <;> by_cases b : (lsh.length : Int) = F.params <;> (simp [sel, ownN, a, b, h3] at h ⊢; try first | omega | exact decide_eq_false (by omega) | exact decide_eq_true (by omega))
      refine vsd (by simp only [inKind]; omega) ?_
      intro w9 m9 z9 hh9
      replace m9 : Upd g2 w8 w9 := m9
      have y9 : Ext w w9 := (y2.trans (x3.trans (x5.trans (x6.trans x8)))).upd m9 (by omega)
      have q9 := m9.size
      have hno : ∀ k, nw (RdE w X e m A) w2 w3 k → ¬ k = g2 := fun k hk e => by
        rcases hk with h | h
        · have := h.1.1; omega
        · omega
      have hre : ∀ k, nw (RdE w X e m A) w2 w3 k → RdE w9 X e m A k := fun k hk => by
        rcases hk with h | h
        · exact RdE.ext y9 k h
        · exact RdE.new hE hX k (by omega) (by omega)
      have hF9 := (encInf.mod (VI.ext hF0 x8) (S := fun k => k = g2) m9 fun k hk e => hk.1.2 (.inr e))
      refine ⟨y9, ⟨_, _, B, bc, F, head t, spArgs t, ownN F, ownN F + F.index, by rw [rbt]; rfl, encInf.mono hF9 (fun k hk => ⟨⟨by have := hk.1.1; omega, fun h => hk.1.2 (.inl h)⟩, hk.2⟩), ((hh0.ext (x5.trans (x6.trans x8))).mod (S := fun k => k = g2) m9 hno).mono hre, ((hs.ext (x5.trans (x6.trans x8))).mod (S := fun k => k = g2) m9 hno).mono hre, hb, fun _ => ?_, fun h => by rw [rbt] at h; cases h⟩⟩
      rw [rx]; exact ⟨rfl, rfl, rfl, rfl, rfl⟩
set_option maxHeartbeats 1000000 in
set_option maxRecDepth 20000 in
theorem made_runs {X : Nat → Prop} {lo : Nat} (e m : Nat) (A : Option Addr) (c : Nat) (l : List Inf) (t : T) (cs : List Value) (w : World) (hE : EX w X lo e m A c l) (hX : ∀ k, X k → k < w.heap.size) (hv : VT w (RdE w X e m A) cs t) (hm : mayT t = true) :
    Runs Tryz.prog 73 #[.pointer (some ⟨e, 0, none⟩), .agg cs.toArray] w fun v w' => Ext w w' ∧ MadAt w' X e m A l t v := by
  have hv0 := hv
  have hlen := spArgs_len hm
  obtain ⟨kt, nt, st, lst, tst, lat, lct, tat, tct, et, rfl, hkt, hnt, hst, hllt, hltt, hLt, hTt⟩ := hv.inv
  refine Runs.of_vc (ρ := []) cx_ok [0, 1, 3, 4, 5, 6, 7, 15] [.v _, .a [.v (.int .u8 kt), .v (.int .i64 nt), .v (.string st), .v (.slice lat lst.length lct), .v (.slice tat tst.length tct)]] Tryz.func73 rfl rfl rfl (Holds.nil w) ?_
  intro g1 w1 e1 x1 z1 hh1
  intro g2 w2 e2 x2 z2 hh2
  have y2 := x1.trans x2
  refine (Spine_n (R := RdE w X e m A) t _ w2 (VT.ext hv0 y2) hm).mono ?_
  rintro _ w3 ⟨x3, ch, B, bc, rfl, hh, hs, hb⟩
  have hh3 := hh2.ext x3
  have z3 := x3.size
  have hh0 := hh
  obtain ⟨kh, nh, sh, lsh, tsh, lah, lch, tah, tch, eh, rfl, hkh, hnh, hsh, hllh, hlth, hLh, hTh⟩ := hh.inv
  refine Lands.ret (s := .t [.a [.v (.int .u8 kh), .v (.int .i64 nh), .v (.string sh), .v (.slice lah lsh.length lch), .v (.slice tah tsh.length tch)], .v (.slice B (spArgs t).length bc)]) rfl rfl hh3 ?_
  intro g4 w4 e4 x4 z4 hh4; intro w5 m5 z5 hh5; replace m5 : Upd g4 w4 w5 := m5; have x5 : Ext w3 w5 := x4.upd m5 (by omega); have q5 := x5.size
  have hkh : T.k (head t) = kh := by rw [eh]; rfl
  have hsh : T.s' (head t) = sh := by rw [eh]; rfl
  have mb : madB l t = (decide (kh = 3) && ((findI l sh).isSome && decide ((getI l sh).kind = 5))) := by unfold madB recX; rw [hkh, hsh]
  have rx : recX l t = getI l sh := by unfold recX; rw [hsh]
  refine Or.inl (And.intro (fun h => ?_) (fun h => ?_))
  · have h3 : kh ≠ 3 := by simpa using h
    have mbf : madB l t = false := by rw [mb, decide_eq_false h3]; rfl
    intro w6 m6 z6 hh6
    replace m6 : Upd g2 w5 w6 := m6
    refine ⟨(y2.trans (x3.trans x5)).upd m6 (by omega), ⟨noIc, none, 0, noI, [], by rw [mbf]; rfl, noI_rep _ _, Sl.nil _ _ _ _, by simp [lenOk], fun h => ?_⟩⟩
    rw [mbf] at h; cases h
  · have h3 : kh = 3 := by simpa using h
    have hE5 : EX w5 (fun k => X k ∨ k = g2) lo e m A c l := hE.wid (y2.trans (x3.trans x5)) fun k hk => hk.imp id fun h => by omega
    have hX5 : ∀ k, X k ∨ k = g2 → k < w5.heap.size := fun k hk => by
      rcases hk with h | h
      · have := hX k h; omega
      · omega
    refine (Find_x e m A c l sh w5 hE5 hX5).mono ?_
    rintro _ w6 ⟨x6, cf, rfl, hf⟩
    have hh6 := hh5.ext x6
    have z6 := x6.size
    have hF : VI w6 (RdE w6 (fun k => X k ∨ k = g2) e m A) cf (getI l sh) := hf
    generalize getI l sh = F at *
    generalize (findI l sh).isSome = is at *
    have hF0 := hF
    obtain ⟨ctF, cvF, raF, rcF, rfl, htyF, hvlF, hruF, hrlF, hokF⟩ := hF; obtain ⟨kFt, nFt, sFt, lsFt, tsFt, laFt, lcFt, taFt, tcFt, etyF, rfl, hkFt, hnFt, hsFt, hllFt, hltFt, hLFt, hTFt⟩ := htyF.inv; obtain ⟨kFv, nFv, sFv, lsFv, tsFv, laFv, lcFv, taFv, tcFv, evlF, rfl, hkFv, hnFv, hsFv, hllFv, hltFv, hLFv, hTFv⟩ := hvlF.inv
    refine Lands.ret (s := .t [.a [.v (.int .u8 F.kind), .v (.string F.name), .v (.int .i64 F.params), .v (.int .u8 kFt), .v (.int .i64 nFt), .v (.string sFt), .v (.slice laFt lsFt.length lcFt), .v (.slice taFt tsFt.length tcFt), .v (.int .u8 kFv), .v (.int .i64 nFv), .v (.string sFv), .v (.slice laFv lsFv.length lcFv), .v (.slice taFv tsFv.length tcFv), .v (.int .i64 F.height), .v (.string F.block), .v (.string F.of_), .v (.int .i64 F.fixed), .v (.int .i64 F.index), .v (.int .i64 F.no), .v (.int .i64 F.fields), .v (.int .i64 F.motives), .v (.int .i64 F.minors), .v (.slice raF F.rules.length rcF), .v (.int .i64 F.ctors), .v (.bool F.record)], .v (.bool is)]) rfl rfl hh6 ?_
    intro w7 m7 z7 hh7
    replace m7 : Upd g2 w6 w7 := m7
    intro w8 m8 z8 hh8
    replace m8 : Upd g2 w7 w8 := m8
    have M : Upd g2 w6 w8 := m7.trans m8
    have q8 := M.size
    have y8 : Ext w w8 := (y2.trans (x3.trans (x5.trans x6))).upd M (by omega)
    have hno : ∀ k, nw (RdE w X e m A) w2 w3 k → ¬ k = g2 := fun k hk e => by
      rcases hk with h | h
      · have := h.1.1; omega
      · omega
    have hre : ∀ k, nw (RdE w X e m A) w2 w3 k → RdE w8 X e m A k := fun k hk => by
      rcases hk with h | h
      · exact RdE.ext y8 k h
      · exact RdE.new hE hX k (by omega) (by omega)
    have hF9 := (encInf.mod hF0 (S := fun k => k = g2) M fun k hk e => hk.1.2 (.inr e))
    have hbb : sel is (decide (F.kind = 5)) false = madB l t := by rw [mb]; cases is <;> simp [sel, h3]
    refine ⟨y8, ⟨_, B, bc, F, spArgs t, by rw [← hbb]; rfl, encInf.mono hF9 (fun k hk => ⟨⟨by have := hk.1.1; omega, fun h => hk.1.2 (.inl h)⟩, hk.2⟩), ((hs.ext (x5.trans x6)).mod (S := fun k => k = g2) M hno).mono hre, hb, fun _ => ⟨rx.symm, rfl⟩⟩⟩
end Go.Proofs.YtfljbnhhkdaobaaGreat

/-
  The document's spine.
-/
namespace Go.Proofs.YtfljbnhhkdaobaaGreat
open Go Go.RowKit Go.Proofs.Bw
set_option linter.unusedVariables false
set_option linter.unusedSimpArgs false
set_option maxHeartbeats 1000000 in
set_option maxRecDepth 20000 in
theorem rSpine_r (t : T) : ∀ (R : Nat → Prop) (cs : List Value) (w : World), VT w R cs t → nodes t = true → size t ≤ 1000000 → (∀ k, R k → k < w.heap.size) → Runs Tryz.prog 40 #[.agg cs.toArray] w fun v w' => Ext w w' ∧ ∃ (ch : List Value) (A : Option Addr) (c : Nat) (lo : Nat), v = .tuple #[.agg ch.toArray, .slice A (spArgs t).length c] ∧ VT w' R ch (head t) ∧ (w.heap.size ≤ lo ∧ lo ≤ w'.heap.size) ∧ OwnE encT w' lo 33 R A c (spArgs t) := by
  induction t using T.ind with
  | h k n s ls ts ih =>
  intro R cs w hv hn hsz hR
  have hv0 := hv
  obtain ⟨k', n', s', ls', ts', la, lc, ta, tc, ea, rfl, hk, hnn, hs, hll, hlt, hL, hT⟩ := hv.inv
  injection ea with e1 e2 e3 e4 e5
  subst e1; subst e2; subst e3; subst e4; subst e5
  refine Runs.of_vc (ρ := []) cx_ok [0, 1, 2, 3, 4, 5, 8] [.a [.v (.int .u8 k), .v (.int .i64 n), .v (.string s), .v (.slice la ls.length lc), .v (.slice ta ts.length tc)]] Tryz.func40 rfl rfl rfl (Holds.nil w) ?_
  intro g1 w1 e1 x1 z1 hh1
  intro g2 w2 e2 x2 z2 hh2
  have y2 := x1.trans x2
  refine Or.inl (And.intro (fun h => ?_) (fun h => ?_))
  · have hk4 : k ≠ 4 := by simpa using h
    intro w3 m3 z3 hh3
    replace m3 : Upd g2 w2 w3 := m3
    rw [head_no hk4, spArgs_no hk4]
    exact ⟨y2.upd m3 (by omega), _, none, 0, w3.heap.size, rfl, (hv0.ext y2).mod (S := fun k => k = g2) m3 (fun q hq e => by
      have e : q = g2 := e
      have := hR q hq; omega), ⟨by have := m3.size; omega, Nat.le_refl _⟩, OwnE.nil _ _ _ _ _⟩
  · have hk4 : k = 4 := by simpa using h
    subst hk4
    obtain ⟨f, x, rfl⟩ := node_app (nodes_mk hn).1
    rw [head_app, spArgs_app]
    have hl2 : [f, x].length = 2 := rfl
    have hnd : nodes f = true ∧ nodes x = true := by have := (nodes_mk hn).2; simpa [nodess] using this
    have hszf : size f ≤ 1000000 := by simp only [size, sizes] at hsz; omega
    obtain ⟨a0, c0, ha0, hR0, hrow0, hv_0⟩ := ((sl_T hT).ext y2).at (i := 0) (by simp)
    obtain ⟨a1, c1, ha1, hR1, hrow1, hv_1⟩ := ((sl_T hT).ext y2).at (i := 1) (by simp)
    have hv_0 : VT w2 R c0 f := hv_0
    have hv_1 : VT w2 R c1 x := hv_1
    have hf0 := hv_0
    have hx0 := hv_1
    obtain ⟨kf, nf, sf, lsf, tsf, laf, lcf, taf, tcf, ef, rfl, hkf, hnf, hsf, hllf, hltf, hLf, hTf⟩ := hv_0.inv
    obtain ⟨kx, nx, sx, lsx, tsx, lax, lcx, tax, tcx, ex, rfl, hkx, hnx, hsx, hllx, hltx, hLx, hTx⟩ := hv_1.inv
    refine OpT.indexAddr Tryz.underlying31 Tryz.sizeOf33 rfl rfl ha0 (by first | omega | (simp only [lenOk] at *; omega)) ?_; refine Lands.v hh2 ?_
    refine OpT.loadA Tryz.isAgg33 (by exact Tryz.sizeOf33) rfl hrow0 ?_; refine Lands.ret (s := .a [.v (.int .u8 kf), .v (.int .i64 nf), .v (.string sf), .v (.slice laf lsf.length lcf), .v (.slice taf tsf.length tcf)]) rfl rfl hh2 ?_
    refine (ih f (by simp) R _ w2 hf0 hnd.1 hszf (fun k hk => by have := hR k hk; omega)).mono ?_
    rintro _ w3 ⟨x3, ch, Al, cl, lo, rfl, hhd, hlo, ho⟩
    have hh3 := hh2.ext x3
    have z3 := x3.size
    have hhd0 := hhd
    have hlen := spArgs_le f hnd.1
    have hol := ho.lt
    obtain ⟨kh, nh, sh, lsh, tsh, lah, lch, tah, tch, eh, rfl, hkh, hnh, hsh, hllh, hlth, hLh, hTh⟩ := hhd.inv
    refine Lands.ret (s := .t [.a [.v (.int .u8 kh), .v (.int .i64 nh), .v (.string sh), .v (.slice lah lsh.length lch), .v (.slice tah tsh.length tch)], .v (.slice Al (spArgs f).length cl)]) rfl rfl hh3 ?_
    intro g4 w4 e4 x4 z4 hh4; intro w5 m5 z5 hh5; replace m5 : Upd g4 w4 w5 := m5; have x5 : Ext w3 w5 := x4.upd m5 (by omega); have q5 := x5.size
    refine vDrwM_mk (ownOf Al) (outR.get (ρ := [g1, g2, g4]) ⟨fun ho => ?_, fun ho => ?_, fun ho => ?_, trivial⟩) [6, 7, 8] (.one 0 (.one 1 (.one 2 (.one 3 (.one 4 (.one 5 (.one 6 (.one 7 (.one 8 (.one 9 .nil)))))))))) rfl fun w6 x6 z6 hh6 => ?_
    · have := hol _ ho; omega
    · have := hol _ ho; omega
    · have := hol _ ho; omega
    have y6 := x3.trans (x5.trans x6)
    have hrow6 := hrow1.ext y6
    refine Exists.intro (.v (.pointer (some (a1.add (1 * 5))))) (And.intro rfl (And.intro (fun w' xx hh => OpT.indexAddr Tryz.underlying31 Tryz.sizeOf33 rfl rfl ha1 (by simp only [lenOk] at *; omega) ⟨rfl, rfl⟩) ?_))
    refine Exists.intro (.a [.v (.int .u8 kx), .v (.int .i64 nx), .v (.string sx), .v (.slice lax lsx.length lcx), .v (.slice tax tsx.length tcx)]) (And.intro rfl (And.intro (fun w' xx hh => OpT.loadA Tryz.isAgg33 (by exact Tryz.sizeOf33) rfl (hrow6.mod xx (fun ho => by rw [block_add] at ho; have := hol _ ho; have := hR _ hR1; omega)) ⟨rfl, rfl⟩) ?_))
    have hx6 := hx0.ext y6
    refine OpT.buildE (E := encT) (R := R) (vs := [_]) (l := [x]) Tryz.zeroValue33 (.cons rfl (.nil)) Tryz.underlying31 Tryz.sizeOf33 rfl rfl (Reps.cons hx6 (Reps.nil _ _ _)) rfl rfl hh6 fun w7 g7 e7 x7 z7 o7 hh7 => ?_
    refine And.intro (x7.mono fun _ h => h.elim) ?_
    have o7b := o7
    clear o7
    have o7 := ho.ext (x5.trans (x6.trans x7))
    have ol7 := o7.lt
    refine OpT.appendG (E := encT) elT Tryz.underlying31 Tryz.underlying31 rfl rfl rfl rfl (l3 := spArgs f ++ [x]) rfl rfl o7 o7b.sl (fun k hk _ => ⟨?_, fun ho => ?_⟩) (by omega) (fun k hk _ ho => by have := ol7 _ ho; have := hR k hk; omega) hh7 (outR.get (ρ := [g1, g2, g4]) ⟨fun ho => ?_, fun ho => ?_, fun ho => ?_, trivial⟩) (by simp only [List.length_append, List.length_singleton]; omega) fun w8 A8 c8 m8 z8 o8 f8 hh8 => ?_
    · rcases hk.1 with h | h
      · exact .inl h
      · exact .inr (by omega)
    · have := hol _ ho
      rcases hk.1 with h | h
      · have := hR k h; omega
      · omega
    · have := hol _ ho; omega
    · have := hol _ ho; omega
    · have := hol _ ho; omega
    refine And.intro m8 ?_
    have y8 : Ext w w8 := (y2.trans (y6.trans x7)).trans' m8 fun k hk ho => by have := hol k ho; omega
    intro w9 m9 z9 hh9
    replace m9 : Upd g2 w8 w9 := m9
    have hd8 := (hhd0.ext (x5.trans (x6.trans x7))).mod m8 fun k hk ho => by have := hol k ho; have := hR k hk; omega
    have hd9 := hd8.mod (S := fun k => k = g2) m9 fun k hk e => by
      have e : k = g2 := e
      have := hR k hk; omega
    exact ⟨y8.upd m9 (by omega), _, A8, c8, lo, rfl, hd9, ⟨by omega, by have := m9.size; omega⟩, o8.upd m9 (by omega) (fun h => by have := hR _ h; omega)⟩
end Go.Proofs.YtfljbnhhkdaobaaGreat

/-
  Record, Field.
-/
namespace Go.Proofs.YtfljbnhhkdaobaaGreat
open Go Go.RowKit Go.Proofs.Bw
set_option linter.unusedVariables false
set_option linter.unusedSimpArgs false
def ctorB (l : List Inf) (s n : ByteArray) : Bool := decide ((getI l n).kind = 5) && decide ((getI l n).of_ = s)
def structB (l : List Inf) (s : ByteArray) : Bool := (findI l s).isSome && (decide ((getI l s).kind = 4) && (getI l s).record)
def recdN (l : List Inf) (s : ByteArray) : Option ByteArray := if structB l s = true then (l.map (·.name)).find? (ctorB l s) else none
def recdI (l : List Inf) (s : ByteArray) : Inf := match recdN l s with
  | some n => getI l n
  | none => noI
structure RecdAt (w : World) (X : Nat → Prop) (e m : Nat) (A : Option Addr) (l : List Inf) (s : ByteArray) (v : Value) : Prop where
  at_ : ∃ ci : List Value, v = .tuple #[.agg ci.toArray, .bool (recdN l s).isSome] ∧ VI w (RdE w X e m A) ci (recdI l s)
theorem find_none {α : Type} {p : α → Bool} {l : List α} (h : l.any p = false) : l.find? p = none := by
  rw [List.find?_eq_none]
  intro x hx hp
  rw [List.any_eq_true.2 ⟨x, hx, hp⟩] at h; cases h
theorem find_at {α : Type} {p : α → Bool} {l : List α} {i : Nat} (hi : i < l.length) (h : (l.take i).any p = false) (hp : p l[i] = true) : l.find? p = some l[i] := by
  have e : l.take i ++ l[i] :: l.drop (i + 1) = l := by rw [← List.drop_eq_getElem_cons hi, List.take_append_drop]
  have h1 : (l.take i ++ l[i] :: l.drop (i + 1)).find? p = some l[i] := by
    rw [List.find?_append, find_none h, List.find?_cons, hp]; rfl
  rwa [e] at h1
set_option maxHeartbeats 1000000 in
set_option maxRecDepth 20000 in
theorem Record_runs {X : Nat → Prop} {lo : Nat} (e m : Nat) (A : Option Addr) (c : Nat) (l : List Inf) (s : ByteArray) (w : World) (hE : EX w X lo e m A c l) (hX : ∀ k, X k → k < w.heap.size) :
    Runs Tryz.prog 45 #[.pointer (some ⟨e, 0, none⟩), .string s] w fun v w' => Ext w w' ∧ RecdAt w' X e m A l s v := by
  refine Runs.of_vc (ρ := []) cx_ok [0, 1, 4, 5, 6, 8, 9, 28, 31, 32, 33, 34, 51] [.v _, .v _] Tryz.func45 rfl rfl rfl (Holds.nil w) ?_
  intro g1 w1 e1 x1 z1 hh1
  have hE1 : EX w1 (fun k => X k ∨ k = g1) lo e m A c l := hE.wid x1 fun k hk => hk.imp id fun h => by omega
  have hX1 : ∀ k, X k ∨ k = g1 → k < w1.heap.size := fun k hk => by
    rcases hk with h | h
    · have := hX k h; omega
    · omega
  refine (Find_x e m A c l s w1 hE1 hX1).mono ?_
  rintro _ w2 ⟨x2, cf, rfl, hf⟩
  have hh2 := hh1.ext x2
  have z2 := x2.size
  have hF : VI w2 (RdE w2 (fun k => X k ∨ k = g1) e m A) cf (getI l s) := hf
  have sb : structB l s = ((findI l s).isSome && (decide ((getI l s).kind = 4) && (getI l s).record)) := rfl
  generalize getI l s = F at *
  generalize (findI l s).isSome = is at *
  obtain ⟨ctF, cvF, raF, rcF, rfl, htyF, hvlF, hruF, hrlF, hokF⟩ := hF; obtain ⟨kFt, nFt, sFt, lsFt, tsFt, laFt, lcFt, taFt, tcFt, etyF, rfl, hkFt, hnFt, hsFt, hllFt, hltFt, hLFt, hTFt⟩ := htyF.inv; obtain ⟨kFv, nFv, sFv, lsFv, tsFv, laFv, lcFv, taFv, tcFv, evlF, rfl, hkFv, hnFv, hsFv, hllFv, hltFv, hLFv, hTFv⟩ := hvlF.inv
  refine Lands.ret (s := .t [.a [.v (.int .u8 F.kind), .v (.string F.name), .v (.int .i64 F.params), .v (.int .u8 kFt), .v (.int .i64 nFt), .v (.string sFt), .v (.slice laFt lsFt.length lcFt), .v (.slice taFt tsFt.length tcFt), .v (.int .u8 kFv), .v (.int .i64 nFv), .v (.string sFv), .v (.slice laFv lsFv.length lcFv), .v (.slice taFv tsFv.length tcFv), .v (.int .i64 F.height), .v (.string F.block), .v (.string F.of_), .v (.int .i64 F.fixed), .v (.int .i64 F.index), .v (.int .i64 F.no), .v (.int .i64 F.fields), .v (.int .i64 F.motives), .v (.int .i64 F.minors), .v (.slice raF F.rules.length rcF), .v (.int .i64 F.ctors), .v (.bool F.record)], .v (.bool is)]) rfl rfl hh2 ?_
  intro g3 w3 e3 x3 z3 hh3; intro w4 m4 z4 hh4; replace m4 : Upd g3 w3 w4 := m4; have x4 : Ext w2 w4 := x3.upd m4 (by omega); have q4 := x4.size
  have y4 := x1.trans (x2.trans x4)
  refine Or.inl (And.intro (fun h => ?_) (fun h => ?_))
  · have sbf : structB l s = false := by
      rw [sb]
      cases is <;> by_cases a : F.kind = 4 <;> cases hr : F.record <;> simp [sel, a, hr] at h ⊢
    have hn : recdN l s = none := by unfold recdN; rw [sbf]; rfl
    intro w5 m5 z5 hh5
    replace m5 : Upd g1 w4 w5 := m5
    refine ⟨y4.upd m5 (by omega), ⟨_, by rw [hn]; rfl, by unfold recdI; rw [hn]; exact noI_rep _ _⟩⟩
  have sbt : structB l s = true := by
    rw [sb]
    cases is <;> by_cases a : F.kind = 4 <;> cases hr : F.record <;> simp [sel, a, hr] at h ⊢
  have hE4 := hE1.ext (x2.trans x4)
  refine vcV (List_runs e m A c l w4 hE4) hh4 fun v5 w5 x5 z5 hh5 p5 => ?_
  obtain ⟨A5, c5, rfl, o5⟩ := p5
  have hle := o5.le
  have hln : (l.map (·.name)).length = l.length := List.length_map ..
  have hfew := hE.few
  refine vLoop_upd (σ := Nat) [5, 8, 9, 10, 33, 34, 35, 36, 37, 38, 39, 40, 41, 42, 43, 44, 45, 46, 47, 48, 49, 50, 51, 52, 53] (fun i => [(33, .v (.int .i64 i))]) [] (fun _ => []) (fun i w' => Ext w w' ∧ Ext w5 w' ∧ i ≤ l.length ∧ ((l.map (·.name)).take i).any (ctorB l s) = false) (fun i => l.length - i) 0 (fun _ => ⟨rfl, rfl⟩)
    ⟨(by repeat (first | exact trivial | refine And.intro rfl ?_)), (by repeat (first | exact trivial | refine And.intro rfl ?_)), (by repeat (first | exact trivial | refine And.intro rfl ?_)), (by repeat (first | exact trivial | refine And.intro rfl ?_)), y4.trans x5, Ext.refl _, Nat.zero_le _, rfl⟩ ?_
  rintro i w6 hh6 ⟨y6, x6, hi, hq⟩
  have z6 := x6.size
  refine Or.inl (And.intro (fun h => ?_) (fun h => ?_))
  · have hil : i < l.length := by have := of_decide_eq_true h; omega
    have hil' : i < (l.map (·.name)).length := by rw [hln]; exact hil
    obtain ⟨a1, cs1, ha1, _, hrow, hv1⟩ := (o5.sl.ext x6).at hil'
    have htk := List.take_succ_eq_append_getElem hil'
    have hfa := find_at (p := ctorB l s) hil' hq
    generalize (l.map (·.name))[i] = n at *
    obtain ⟨rfl, hn⟩ := hv1
    refine OpT.indexAddr Tryz.underlying28 Tryz.sizeOf9 rfl rfl ha1 (by first | omega | (simp only [lenOk] at *; omega)) ?_; refine Lands.v hh6 ?_
    refine OpT.load Tryz.isAgg9 rfl (hrow.cell 0 rfl) ?_; refine Lands.v hh6 ?_
    have hE6 := hE4.ext (x5.trans x6)
    have hX6 : ∀ k, X k ∨ k = g1 → k < w6.heap.size := fun k hk => by have := hX1 k hk; omega
    refine (Find_x e m A c l n w6 hE6 hX6).mono ?_
    rintro _ w7 ⟨x7, cg, rfl, hg⟩
    have hh7 := hh6.ext x7
    have z7 := x7.size
    have hG : VI w7 (RdE w7 (fun k => X k ∨ k = g1) e m A) cg (getI l n) := hg
    have cb : ctorB l s n = (decide ((getI l n).kind = 5) && decide ((getI l n).of_ = s)) := rfl
    have hgn : ∀ x, x = getI l n → getI l n = x := fun x h => h.symm
    generalize hGe : getI l n = G at *
    generalize (findI l n).isSome = it at *
    have hG0 := hG
    obtain ⟨ctG, cvG, raG, rcG, rfl, htyG, hvlG, hruG, hrlG, hokG⟩ := hG; obtain ⟨kGt, nGt, sGt, lsGt, tsGt, laGt, lcGt, taGt, tcGt, etyG, rfl, hkGt, hnGt, hsGt, hllGt, hltGt, hLGt, hTGt⟩ := htyG.inv; obtain ⟨kGv, nGv, sGv, lsGv, tsGv, laGv, lcGv, taGv, tcGv, evlG, rfl, hkGv, hnGv, hsGv, hllGv, hltGv, hLGv, hTGv⟩ := hvlG.inv
    refine Lands.ret (s := .t [.a [.v (.int .u8 G.kind), .v (.string G.name), .v (.int .i64 G.params), .v (.int .u8 kGt), .v (.int .i64 nGt), .v (.string sGt), .v (.slice laGt lsGt.length lcGt), .v (.slice taGt tsGt.length tcGt), .v (.int .u8 kGv), .v (.int .i64 nGv), .v (.string sGv), .v (.slice laGv lsGv.length lcGv), .v (.slice taGv tsGv.length tcGv), .v (.int .i64 G.height), .v (.string G.block), .v (.string G.of_), .v (.int .i64 G.fixed), .v (.int .i64 G.index), .v (.int .i64 G.no), .v (.int .i64 G.fields), .v (.int .i64 G.motives), .v (.int .i64 G.minors), .v (.slice raG G.rules.length rcG), .v (.int .i64 G.ctors), .v (.bool G.record)], .v (.bool it)]) rfl rfl hh7 ?_
    intro g8 w8 e8 x8 z8 hh8; intro w9 m9 z9 hh9; replace m9 : Upd g8 w8 w9 := m9; have x9 : Ext w7 w9 := x8.upd m9 (by omega); have q9 := x9.size
    have y9 := y6.trans (x7.trans x9)
    refine Or.inl (And.intro (fun h => ?_) (fun h => ?_))
    · have cbt : ctorB l s n = true := by
        rw [cb]
        by_cases a : G.kind = 5 <;> by_cases b : G.of_ = s <;> simp [sel, strB, a, b] at h ⊢
      have hN : recdN l s = some n := by unfold recdN; rw [if_pos sbt]; exact hfa cbt
      intro w10 m10 z10 hh10
      replace m10 : Upd g1 w9 w10 := m10
      have q10 := m10.size
      have hG10 := encInf.mod (VI.ext hG0 x9) (S := fun k => k = g1) m10 fun k hk e => hk.1.2 (.inr e)
      refine ⟨y9.upd m10 (by omega), ⟨_, by rw [hN]; rfl, ?_⟩⟩
      have hI : recdI l s = G := by unfold recdI; rw [hN]; exact hGe
      rw [hI]
      exact encInf.mono hG10 fun k hk => ⟨⟨by have := hk.1.1; omega, fun h => hk.1.2 (.inl h)⟩, hk.2⟩
    · have cbf : ctorB l s n = false := by
        rw [cb]
        by_cases a : G.kind = 5 <;> by_cases b : G.of_ = s <;> simp [sel, strB, a, b] at h ⊢
      refine vsd (by simp only [inKind]; omega) ?_
      exact Exists.intro ((i + 1)) ⟨by omega, esub_over (by repeat (first | exact trivial | refine And.intro rfl ?_)) (by repeat (first | exact trivial | refine And.intro rfl ?_)), hsub_over (by repeat (first | exact trivial | refine And.intro rfl ?_)) (by repeat (first | exact trivial | refine And.intro rfl ?_)), y9, x6.trans (x7.trans x9), hil, by rw [htk, List.any_append, hq]; simp [cbf]⟩
  · obtain rfl : i = l.length := by have := of_decide_eq_false h; omega
    have hN : recdN l s = none := by
      unfold recdN; rw [if_pos sbt]
      rw [List.take_of_length_le (by rw [hln]; exact Nat.le_refl _)] at hq
      exact find_none hq
    intro w7 m7 z7 hh7
    replace m7 : Upd g1 w6 w7 := m7
    refine ⟨y6.upd m7 (by omega), ⟨_, by rw [hN]; rfl, by unfold recdI; rw [hN]; exact noI_rep _ _⟩⟩
def rdyE (b : Bool) : Int := bif b then 0 else 1
theorem ready1_r {R : Nat → Prop} (p : Addr) (A : Option Addr) (t : T) (c : Nat) (w : World) (b : Bool) (hb : mayT t = b) (hl : Sl encT w R A [t]) (hc : lenOk 1 c) : Runs Tryz.prog 71 #[.pointer (some p), .slice A 1 c] w fun v w' => v = .int .i64 (rdyE b) ∧ Ext w w' :=
  (ready_r p A [t] c w hl hc).mono fun v w' ⟨h, x⟩ => ⟨by rw [h]; cases b <;> simp [rdyE, hb], x⟩
theorem ready2_r {R : Nat → Prop} (p : Addr) (A : Option Addr) (t u : T) (c : Nat) (w : World) (b : Bool) (hb : (mayT t && mayT u) = b) (hl : Sl encT w R A [t, u]) (hc : lenOk 2 c) : Runs Tryz.prog 71 #[.pointer (some p), .slice A 2 c] w fun v w' => v = .int .i64 (rdyE b) ∧ Ext w w' :=
  (ready_r p A [t, u] c w hl hc).mono fun v w' ⟨h, x⟩ => ⟨by
    rw [h]
    subst hb
    cases h1 : mayT t <;> cases h2 : mayT u <;> simp [rdyE, h1, h2], x⟩
def fieldB (l : List Inf) (s : ByteArray) (n : Int) (t : T) : Bool := mayT t && ((recdN l s).isSome && (madB l t && (decide ((recX l t).of_ = s) && (decide (0 ≤ n) && (decide (n < (recX l t).fields) && decide (((spArgs t).length : Int) = (recX l t).fixed + (recX l t).fields))))))
def fieldT (l : List Inf) (s : ByteArray) (n : Int) (t : T) : T := if fieldB l s n t = true then (spArgs t).getD ((recX l t).fixed + n).toNat tZ else tZ
structure FldAt (w : World) (X : Nat → Prop) (e m : Nat) (A : Option Addr) (l : List Inf) (s : ByteArray) (n : Int) (t : T) (v : Value) : Prop where
  at_ : ∃ ct : List Value, v = .tuple #[.agg ct.toArray, .bool (fieldB l s n t)] ∧ VT w (RdE w X e m A) ct (fieldT l s n t)
set_option maxHeartbeats 2000000 in
set_option maxRecDepth 20000 in
theorem Field_runs {X : Nat → Prop} {lo : Nat} (e m : Nat) (A : Option Addr) (c : Nat) (l : List Inf) (s : ByteArray) (n : Int) (hn64 : i64ok n) (t : T) (cs : List Value) (w : World) (hE : EX w X lo e m A c l) (hX : ∀ k, X k → k < w.heap.size) (hv : VT w (RdE w X e m A) cs t) (hN : NOK l) :
    Runs Tryz.prog 44 #[.pointer (some ⟨e, 0, none⟩), .string s, .int .i64 n, .agg cs.toArray] w fun v w' => Ext w w' ∧ FldAt w' X e m A l s n t v := by
  have hv0 := hv
  obtain ⟨kt, nt, st, lst, tst, lat, lct, tat, tct, et, rfl, hkt, hnt, hst, hllt, hltt, hLt, hTt⟩ := hv.inv
  refine Runs.of_vc (ρ := []) cx_ok [0, 1, 2, 3, 7, 8, 9, 11, 12, 13, 14, 19, 65] [.v _, .v _, .v _, .a [.v (.int .u8 kt), .v (.int .i64 nt), .v (.string st), .v (.slice lat lst.length lct), .v (.slice tat tst.length tct)]] Tryz.func44 rfl rfl rfl (Holds.nil w) ?_
  intro g1 w1 e1 x1 z1 hh1
  intro g2 w2 e2 x2 z2 hh2
  have y2 := x1.trans x2
  have hv2 := VT.ext hv0 y2
  refine OpT.buildE (E := encT) (R := (RdE w X e m A)) (vs := [_]) (l := [t]) Tryz.zeroValue33 (.cons rfl (.nil)) Tryz.underlying31 Tryz.sizeOf33 rfl rfl (Reps.cons hv2 (Reps.nil _ _ _)) rfl rfl hh2 fun w3 g3 e3 x3 z3 o3 hh3 => ?_
  cases hm : mayT t with
  | false =>
    refine vcZ (ready1_r _ _ t 1 w3 false hm o3.sl (by simp [lenOk])) hh3 fun w4 x4 z4 hh4 => ?_
    have y4 := y2.trans (x3.trans x4)
    refine Or.inl (And.intro (fun _ => ?_) (fun hx => nomatch (rfl).symm.trans hx))
    have hf : fieldB l s n t = false := by unfold fieldB; rw [hm]; rfl
    intro w5 m5 z5 hh5
    replace m5 : Upd g2 w4 w5 := m5
    refine ⟨y4.upd m5 (by omega), ⟨_, by rw [hf]; rfl, by unfold fieldT; rw [hf]; exact tZ_rep _ _⟩⟩
  | true =>
  refine vcZ (ready1_r _ _ t 1 w3 true hm o3.sl (by simp [lenOk])) hh3 fun w4 x4 z4 hh4 => ?_
  have y4 := y2.trans (x3.trans x4)
  refine Or.inl (And.intro (fun hx => nomatch (rfl).symm.trans hx) (fun _ => ?_))
  have hE4 : EX w4 (fun k => X k ∨ k = g2) lo e m A c l := hE.wid y4 fun k hk => hk.imp id fun h => by omega
  have hX4 : ∀ k, X k ∨ k = g2 → k < w4.heap.size := fun k hk => by
    rcases hk with h | h
    · have := hX k h; omega
    · omega
  have hv4 : VT w4 (RdE w4 (fun k => X k ∨ k = g2) e m A) _ t := (VT.ext hv0 y4).mono fun k hk => ⟨⟨by have := hk.1.1; omega, fun h => by rcases h with h | h; exact hk.1.2 h; have := hk.1.1; omega⟩, hk.2⟩
  refine (Record_runs e m A c l s w4 hE4 hX4).mono ?_
  rintro _ w5 ⟨x5, ⟨cr, rfl, hr⟩⟩
  have hh5 := hh4.ext x5
  have z5 := x5.size
  have fb : fieldB l s n t = ((recdN l s).isSome && (madB l t && (decide ((recX l t).of_ = s) && (decide (0 ≤ n) && (decide (n < (recX l t).fields) && decide (((spArgs t).length : Int) = (recX l t).fixed + (recX l t).fields)))))) := by unfold fieldB; rw [hm]; rfl
  generalize (recdN l s).isSome = is at *
  generalize recdI l s = F at *
  obtain ⟨ctF, cvF, raF, rcF, rfl, htyF, hvlF, hruF, hrlF, hokF⟩ := hr; obtain ⟨kFt, nFt, sFt, lsFt, tsFt, laFt, lcFt, taFt, tcFt, etyF, rfl, hkFt, hnFt, hsFt, hllFt, hltFt, hLFt, hTFt⟩ := htyF.inv; obtain ⟨kFv, nFv, sFv, lsFv, tsFv, laFv, lcFv, taFv, tcFv, evlF, rfl, hkFv, hnFv, hsFv, hllFv, hltFv, hLFv, hTFv⟩ := hvlF.inv
  refine Lands.ret (s := .t [.a [.v (.int .u8 F.kind), .v (.string F.name), .v (.int .i64 F.params), .v (.int .u8 kFt), .v (.int .i64 nFt), .v (.string sFt), .v (.slice laFt lsFt.length lcFt), .v (.slice taFt tsFt.length tcFt), .v (.int .u8 kFv), .v (.int .i64 nFv), .v (.string sFv), .v (.slice laFv lsFv.length lcFv), .v (.slice taFv tsFv.length tcFv), .v (.int .i64 F.height), .v (.string F.block), .v (.string F.of_), .v (.int .i64 F.fixed), .v (.int .i64 F.index), .v (.int .i64 F.no), .v (.int .i64 F.fields), .v (.int .i64 F.motives), .v (.int .i64 F.minors), .v (.slice raF F.rules.length rcF), .v (.int .i64 F.ctors), .v (.bool F.record)], .v (.bool is)]) rfl rfl hh5 ?_
  intro g6 w6 e6 x6 z6 hh6; intro w7 m7 z7 hh7; replace m7 : Upd g6 w6 w7 := m7; have x7 : Ext w5 w7 := x6.upd m7 (by omega); have q7 := x7.size
  have y7 := x5.trans x7
  refine (made_runs e m A c l t _ w7 (hE4.ext y7) (fun k hk => by have := hX4 k hk; omega) (VT.re hv4 y7) hm).mono ?_
  rintro _ w8 ⟨x8, ⟨cm, B, bc, Y, q, rfl, hY, hq, hqb, hmad⟩⟩
  have hh8 := hh7.ext x8
  have z8 := x8.size
  have hnk : madB l t = true → nok Y := fun h => by rw [(hmad h).1]; exact hN.get _
  have hY0 := hY
  have hlen := spArgs_len hm
  generalize hmb : madB l t = mb at *
  obtain ⟨ctY, cvY, raY, rcY, rfl, htyY, hvlY, hruY, hrlY, hokY⟩ := hY; obtain ⟨kYt, nYt, sYt, lsYt, tsYt, laYt, lcYt, taYt, tcYt, etyY, rfl, hkYt, hnYt, hsYt, hllYt, hltYt, hLYt, hTYt⟩ := htyY.inv; obtain ⟨kYv, nYv, sYv, lsYv, tsYv, laYv, lcYv, taYv, tcYv, evlY, rfl, hkYv, hnYv, hsYv, hllYv, hltYv, hLYv, hTYv⟩ := hvlY.inv
  refine Lands.ret (s := .t [.a [.v (.int .u8 Y.kind), .v (.string Y.name), .v (.int .i64 Y.params), .v (.int .u8 kYt), .v (.int .i64 nYt), .v (.string sYt), .v (.slice laYt lsYt.length lcYt), .v (.slice taYt tsYt.length tcYt), .v (.int .u8 kYv), .v (.int .i64 nYv), .v (.string sYv), .v (.slice laYv lsYv.length lcYv), .v (.slice taYv tsYv.length tcYv), .v (.int .i64 Y.height), .v (.string Y.block), .v (.string Y.of_), .v (.int .i64 Y.fixed), .v (.int .i64 Y.index), .v (.int .i64 Y.no), .v (.int .i64 Y.fields), .v (.int .i64 Y.motives), .v (.int .i64 Y.minors), .v (.slice raY Y.rules.length rcY), .v (.int .i64 Y.ctors), .v (.bool Y.record)], .v (.slice B q.length bc), .v (.bool mb)]) rfl rfl hh8 ?_
  intro g9 w9 e9 x9 z9 hh9; intro w10 m10 z10 hh10; replace m10 : Upd g9 w9 w10 := m10; have x10 : Ext w8 w10 := x9.upd m10 (by omega); have q10 := x10.size
  refine And.intro (fun h => ?_) ?_
  · cases is <;> cases mb <;> simp [sel] at h
    obtain ⟨n1, _, _, n4, _⟩ := (hnk rfl).get
    simp only [inKind]; omega
  have y10 : Ext w w10 := y4.trans (y7.trans (x8.trans x10))
  refine Or.inl (And.intro (fun h => ?_) (fun h => ?_))
  · have ff : fieldB l s n t = false := by
      rw [fb]
      cases is with
      | false => rfl
      | true =>
      cases mb with
      | false => rfl
      | true =>
      obtain ⟨rY, rq⟩ := hmad rfl
      rw [← rY, ← rq, Bool.eq_false_iff]
      intro hc
      simp only [Bool.true_and, Bool.and_eq_true, decide_eq_true_eq] at hc
      obtain ⟨c1, c2, c3, c4⟩ := hc
      simp [sel, c1, c4] at h
      omega
    intro w11 m11 z11 hh11
    replace m11 : Upd g2 w10 w11 := m11
    refine ⟨y10.upd m11 (by omega), ⟨_, by rw [ff]; rfl, by unfold fieldT; rw [ff]; exact tZ_rep _ _⟩⟩
  · cases is with
    | false => simp [sel] at h
    | true =>
    cases mb with
    | false => simp [sel] at h
    | true =>
    obtain ⟨rY, rq⟩ := hmad rfl
    obtain ⟨n1, _, _, n4, _⟩ := (hnk rfl).get
    have hc : Y.of_ = s ∧ 0 ≤ n ∧ n < Y.fields ∧ (q.length : Int) = Y.fixed + Y.fields := by
      by_cases a : Y.of_ = s
      · by_cases f : (q.length : Int) = Y.fixed + Y.fields
        · simp [sel, a, f] at h
          exact ⟨a, by omega, by omega, f⟩
        · simp [sel, a, f] at h
          omega
      · simp [sel, a] at h
    obtain ⟨c1, c2, c3, c4⟩ := hc
    have ft : fieldB l s n t = true := by
      rw [fb, ← rY, ← rq]
      simp only [Bool.true_and, Bool.and_eq_true, decide_eq_true_eq]
      exact ⟨c1, c2, c3, c4⟩
    refine vsd (by simp only [inKind]; omega) ?_
    have hix : (Y.fixed + n).toNat < q.length := by omega
    obtain ⟨a1, cs1, ha1, hR1, hrow, hv1⟩ := (hq.ext x10).at hix
    have hgt : fieldT l s n t = q[(Y.fixed + n).toNat] := by
      unfold fieldT; rw [if_pos ft, ← rY, ← rq, List.getD_eq_getElem?_getD, List.getElem?_eq_getElem hix]; rfl
    generalize q[(Y.fixed + n).toNat] = u at *
    have hv1 : VT w10 _ cs1 u := hv1
    have hu0 := hv1
    obtain ⟨ku, nu, su, lsu, tsu, lau, lcu, tau, tcu, eu, rfl, hku, hnu, hsu, hllu, hltu, hLu, hTu⟩ := hv1.inv
    refine OpT.indexAddr Tryz.underlying31 Tryz.sizeOf33 rfl rfl ha1 (by first | omega | (simp only [lenOk] at *; omega)) ?_; refine Lands.v hh10 ?_
    refine OpT.loadA Tryz.isAgg33 (by exact Tryz.sizeOf33) rfl hrow ?_; refine Lands.ret (s := .a [.v (.int .u8 ku), .v (.int .i64 nu), .v (.string su), .v (.slice lau lsu.length lcu), .v (.slice tau tsu.length tcu)]) rfl rfl hh10 ?_
    intro w11 m11 z11 hh11
    replace m11 : Upd g2 w10 w11 := m11
    have q11 := m11.size
    refine ⟨y10.upd m11 (by omega), ⟨_, by rw [ft]; rfl, ?_⟩⟩
    rw [hgt]
    have hu1 := hu0.mod (S := fun k => k = g2) m11 fun k hk e => hk.1.2 (.inr e)
    exact hu1.mono fun k hk => ⟨⟨by have := hk.1.1; omega, fun h => hk.1.2 (.inl h)⟩, hk.2⟩
end Go.Proofs.YtfljbnhhkdaobaaGreat

/-
  Major, Delta.
-/
namespace Go.Proofs.YtfljbnhhkdaobaaGreat
open Go Go.RowKit Go.Proofs.Bw
set_option linter.unusedVariables false
set_option linter.unusedSimpArgs false
def majB (l : List Inf) (t : T) : Bool := mayT t && recB l t
def majN (l : List Inf) (t : T) : Int := if majB l t = true then ownN (recX l t) + (recX l t).index else 0
set_option maxHeartbeats 1000000 in
set_option maxRecDepth 20000 in
theorem Major_runs {X : Nat → Prop} {lo : Nat} (e m : Nat) (A : Option Addr) (c : Nat) (l : List Inf) (t : T) (cs : List Value) (w : World) (hE : EX w X lo e m A c l) (hX : ∀ k, X k → k < w.heap.size) (hv : VT w (RdE w X e m A) cs t) (hN : NOK l) :
    Runs Tryz.prog 43 #[.pointer (some ⟨e, 0, none⟩), .agg cs.toArray] w fun v w' => v = .tuple #[.int .i64 (majN l t), .bool (majB l t)] ∧ Ext w w' := by
  have hv0 := hv
  obtain ⟨kt, nt, st, lst, tst, lat, lct, tat, tct, et, rfl, hkt, hnt, hst, hllt, hltt, hLt, hTt⟩ := hv.inv
  refine Runs.of_vc (ρ := []) cx_ok [0, 1, 3, 4, 5, 6, 7, 12] [.v _, .a [.v (.int .u8 kt), .v (.int .i64 nt), .v (.string st), .v (.slice lat lst.length lct), .v (.slice tat tst.length tct)]] Tryz.func43 rfl rfl rfl (Holds.nil w) ?_
  intro g1 w1 e1 x1 z1 hh1
  have hv1 := VT.ext hv0 x1
  refine OpT.buildE (E := encT) (R := (RdE w X e m A)) (vs := [_]) (l := [t]) Tryz.zeroValue33 (.cons rfl (.nil)) Tryz.underlying31 Tryz.sizeOf33 rfl rfl (Reps.cons hv1 (Reps.nil _ _ _)) rfl rfl hh1 fun w3 g3 e3 x3 z3 o3 hh3 => ?_
  cases hm : mayT t with
  | false =>
    refine vcZ (ready1_r _ _ t 1 w3 false hm o3.sl (by simp [lenOk])) hh3 fun w4 x4 z4 hh4 => ?_
    refine Or.inl (And.intro (fun _ => ?_) (fun hx => nomatch (rfl).symm.trans hx))
    have hf : majB l t = false := by unfold majB; rw [hm]; rfl
    exact ⟨by unfold majN; rw [hf]; rfl, x1.trans (x3.trans x4)⟩
  | true =>
  refine vcZ (ready1_r _ _ t 1 w3 true hm o3.sl (by simp [lenOk])) hh3 fun w4 x4 z4 hh4 => ?_
  have y4 := x1.trans (x3.trans x4)
  refine Or.inl (And.intro (fun hx => nomatch (rfl).symm.trans hx) (fun _ => ?_))
  refine (recOf_runs e m A c l t _ w4 (hE.ext y4) (fun k hk => by have := hX k hk; omega) (VT.re hv0 y4) hm hN).mono ?_
  rintro _ w5 ⟨x5, ⟨ci, ch, B, bc, y, h, q, own, all, rfl, hy, hh, hq, hqb, hyes, hno⟩⟩
  have hh5 := hh4.ext x5
  have z5 := x5.size
  have mb : majB l t = recB l t := by unfold majB; rw [hm]; rfl
  have mn : majN l t = all := by
    unfold majN; rw [mb]
    cases hb : recB l t with
    | false => rw [if_neg (by decide), hno hb]
    | true => rw [if_pos rfl, (hyes hb).2.2.2.2]
  rw [mn, mb]
  generalize recB l t = rb at *
  obtain ⟨ctY, cvY, raY, rcY, rfl, htyY, hvlY, hruY, hrlY, hokY⟩ := hy; obtain ⟨kYt, nYt, sYt, lsYt, tsYt, laYt, lcYt, taYt, tcYt, etyY, rfl, hkYt, hnYt, hsYt, hllYt, hltYt, hLYt, hTYt⟩ := htyY.inv; obtain ⟨kYv, nYv, sYv, lsYv, tsYv, laYv, lcYv, taYv, tcYv, evlY, rfl, hkYv, hnYv, hsYv, hllYv, hltYv, hLYv, hTYv⟩ := hvlY.inv
  obtain ⟨kh, nh, sh, lsh, tsh, lah, lch, tah, tch, eh, rfl, hkh, hnh, hsh, hllh, hlth, hLh, hTh⟩ := hh.inv
  refine Lands.ret (s := .t [.a [.v (.int .u8 y.kind), .v (.string y.name), .v (.int .i64 y.params), .v (.int .u8 kYt), .v (.int .i64 nYt), .v (.string sYt), .v (.slice laYt lsYt.length lcYt), .v (.slice taYt tsYt.length tcYt), .v (.int .u8 kYv), .v (.int .i64 nYv), .v (.string sYv), .v (.slice laYv lsYv.length lcYv), .v (.slice taYv tsYv.length tcYv), .v (.int .i64 y.height), .v (.string y.block), .v (.string y.of_), .v (.int .i64 y.fixed), .v (.int .i64 y.index), .v (.int .i64 y.no), .v (.int .i64 y.fields), .v (.int .i64 y.motives), .v (.int .i64 y.minors), .v (.slice raY y.rules.length rcY), .v (.int .i64 y.ctors), .v (.bool y.record), .v (.int .u8 kh), .v (.int .i64 nh), .v (.string sh), .v (.slice lah lsh.length lch), .v (.slice tah tsh.length tch), .v (.slice B q.length bc), .v (.int .i64 own), .v (.int .i64 all)], .v (.bool rb)]) rfl rfl hh5 ?_
  intro g6 w6 e6 x6 z6 hh6; intro w7 m7 z7 hh7; replace m7 : Upd g6 w6 w7 := m7; have x7 : Ext w5 w7 := x6.upd m7 (by omega); have q7 := x7.size
  exact ⟨rfl, y4.trans (x5.trans x7)⟩
def delE (l : List Inf) (t : T) : Int := if mayT t = false then 1 else if valE l (head t) = 0 then toldE (apT (valT l (head t)) (spArgs t)) else if valE l (head t) = 4 then 4 else 6
def delT (l : List Inf) (t : T) : T := if mayT t = false then tZ else if valE l (head t) = 0 then toldT (apT (valT l (head t)) (spArgs t)) else tZ
set_option maxHeartbeats 1000000 in
set_option maxRecDepth 20000 in
theorem Delta_runs {X : Nat → Prop} {lo : Nat} (e m : Nat) (A : Option Addr) (c : Nat) (l : List Inf) (t : T) (cs : List Value) (w : World) (hE : EX w X lo e m A c l) (hX : ∀ k, X k → k < w.heap.size) (hv : VT w (RdE w X e m A) cs t) :
    Runs Tryz.prog 42 #[.pointer (some ⟨e, 0, none⟩), .agg cs.toArray] w fun v w' => Ext w w' ∧ ∃ ct : List Value, v = .tuple #[.agg ct.toArray, .int .i64 (delE l t)] ∧ VT w' (RdE w' X e m A) ct (delT l t) := by
  have hv0 := hv
  obtain ⟨kt, nt, st, lst, tst, lat, lct, tat, tct, et, rfl, hkt, hnt, hst, hllt, hltt, hLt, hTt⟩ := hv.inv
  refine Runs.of_vc (ρ := []) cx_ok [0, 1, 3, 4, 5, 6, 7, 8, 9, 10, 16, 30, 31, 38] [.v _, .a [.v (.int .u8 kt), .v (.int .i64 nt), .v (.string st), .v (.slice lat lst.length lct), .v (.slice tat tst.length tct)]] Tryz.func42 rfl rfl rfl (Holds.nil w) ?_
  intro g1 w1 e1 x1 z1 hh1
  intro g2 w2 e2 x2 z2 hh2
  have y2 := x1.trans x2
  have hv2 := VT.ext hv0 y2
  refine OpT.buildE (E := encT) (R := (RdE w X e m A)) (vs := [_]) (l := [t]) Tryz.zeroValue33 (.cons rfl (.nil)) Tryz.underlying31 Tryz.sizeOf33 rfl rfl (Reps.cons hv2 (Reps.nil _ _ _)) rfl rfl hh2 fun w3 g3 e3 x3 z3 o3 hh3 => ?_
  cases hm : mayT t with
  | false =>
    refine vcZ (ready1_r _ _ t 1 w3 false hm o3.sl (by simp [lenOk])) hh3 fun w4 x4 z4 hh4 => ?_
    refine Or.inl (And.intro (fun _ => ?_) (fun hx => nomatch (rfl).symm.trans hx))
    intro w5 m5 z5 hh5
    replace m5 : Upd g2 w4 w5 := m5
    refine ⟨(y2.trans (x3.trans x4)).upd m5 (by omega), _, by unfold delE; rw [if_pos hm]; rfl, by unfold delT; rw [if_pos hm]; exact tZ_rep _ _⟩
  | true =>
  refine vcZ (ready1_r _ _ t 1 w3 true hm o3.sl (by simp [lenOk])) hh3 fun w4 x4 z4 hh4 => ?_
  have y4 := y2.trans (x3.trans x4)
  refine Or.inl (And.intro (fun hx => nomatch (rfl).symm.trans hx) (fun _ => ?_))
  refine (Spine_n (R := RdE w X e m A) t _ w4 (VT.ext hv0 y4) hm).mono ?_
  rintro _ w5 ⟨x5, ch, B, bc, rfl, hh, hs, hb⟩
  have hh5 := hh4.ext x5
  have z5 := x5.size
  have hlen := spArgs_len hm
  have hh0 := hh
  have dE : delE l t = if valE l (head t) = 0 then toldE (apT (valT l (head t)) (spArgs t)) else if valE l (head t) = 4 then 4 else 6 := by unfold delE; rw [if_neg (by rw [hm]; decide)]
  have dT : delT l t = if valE l (head t) = 0 then toldT (apT (valT l (head t)) (spArgs t)) else tZ := by unfold delT; rw [if_neg (by rw [hm]; decide)]
  rw [dE, dT]
  obtain ⟨kh, nh, sh, lsh, tsh, lah, lch, tah, tch, eh, rfl, hkh, hnh, hsh, hllh, hlth, hLh, hTh⟩ := hh.inv
  refine Lands.ret (s := .t [.a [.v (.int .u8 kh), .v (.int .i64 nh), .v (.string sh), .v (.slice lah lsh.length lch), .v (.slice tah tsh.length tch)], .v (.slice B (spArgs t).length bc)]) rfl rfl hh5 ?_
  intro g6 w6 e6 x6 z6 hh6; intro w7 m7 z7 hh7; replace m7 : Upd g6 w6 w7 := m7; have x7 : Ext w5 w7 := x6.upd m7 (by omega); have q7 := x7.size
  have y7 := y4.trans (x5.trans x7)
  have hE7 : EX w7 (fun k => X k ∨ k = g2) lo e m A c l := hE.wid y7 fun k hk => hk.imp id fun h => by omega
  have hnl : ∀ k, nw (RdE w X e m A) w4 w5 k → k < w7.heap.size := fun k hk => by
    rcases hk with h | h
    · have := h.1.1; omega
    · omega
  refine (Value_runs e m A c l (head t) _ w7 hE7 (hh0.ext x7) hnl).mono ?_
  rintro _ w8 ⟨x8, cv, rfl, hv8⟩
  have hh8 := hh7.ext x8
  have z8 := x8.size
  generalize valT l (head t) = V at *
  generalize valE l (head t) = E at *
  have hV0 := hv8
  obtain ⟨kv, nv, sv, lsv, tsv, lav, lcv, tav, tcv, ev, rfl, hkv, hnv, hsv, hllv, hltv, hLv, hTv⟩ := hv8.inv
  refine Lands.ret (s := .t [.a [.v (.int .u8 kv), .v (.int .i64 nv), .v (.string sv), .v (.slice lav lsv.length lcv), .v (.slice tav tsv.length tcv)], .v (.int .i64 E)]) rfl rfl hh8 ?_
  intro g9 w9 e9 x9 z9 hh9; intro w10 m10 z10 hh10; replace m10 : Upd g9 w9 w10 := m10; have x10 : Ext w8 w10 := x9.upd m10 (by omega); have q10 := x10.size
  have y10 := y7.trans (x8.trans x10)
  refine Or.inl (And.intro (fun h => ?_) (fun h => ?_))
  · have h0 : E = 0 := by simpa using h
    rw [if_pos h0, if_pos h0]
    have hE4 : EX w4 (fun k => X k ∨ k = g2) lo e m A c l := hE.wid y4 fun k hk => hk.imp id fun h => by omega
    have hX4 : ∀ k, X k ∨ k = g2 → k < w4.heap.size := fun k hk => by
      rcases hk with h | h
      · have := hX k h; omega
      · omega
    have q10 := x10.size
    have hre : ∀ k, nw (RdE w X e m A) w4 w5 k → RdE w10 (fun k => X k ∨ k = g2) e m A k := fun k hk => by
      rcases hk with h1 | h1
      · exact ⟨⟨by have := h1.1.1; omega, fun hx => by
          rcases hx with hx | hx
          · exact h1.1.2 hx
          · have := h1.1.1; omega⟩, h1.2⟩
      · exact RdE.new hE4 hX4 k h1.1 (by omega)
    have hVr : VT w10 (RdE w10 (fun k => X k ∨ k = g2) e m A) _ V := (VT.ext hV0.small x10).mono fun k hk => by
      obtain ⟨h1, h2⟩ := hk
      rcases h1 with (h1 | h1) | h1
      · exact ⟨⟨by omega, h1.1.2⟩, h1.2⟩
      · exact hre k h1
      · exact RdE.new hE4 hX4 k (by omega) (by omega)
    have hsr := (hs.ext (x7.trans (x8.trans x10))).mono hre
    refine (told_r V _ B (spArgs t) bc w10 hVr hsr RdE.lt hb).mono ?_
    rintro _ w11 ⟨x11, cr, rfl, hr⟩
    have hh11 := hh10.ext x11
    have z11 := x11.size
    generalize toldE (apT V (spArgs t)) = oE at *
    generalize toldT (apT V (spArgs t)) = oT at *
    have hr0 := hr
    obtain ⟨kr, nr, sr, lsr, tsr, lar, lcr, tar, tcr, er, rfl, hkr, hnr, hsr, hllr, hltr, hLr, hTr⟩ := hr.inv
    refine Lands.ret (s := .t [.a [.v (.int .u8 kr), .v (.int .i64 nr), .v (.string sr), .v (.slice lar lsr.length lcr), .v (.slice tar tsr.length tcr)], .v (.int .i64 oE)]) rfl rfl hh11 ?_
    intro w12 m12 z12 hh12
    replace m12 : Upd g2 w11 w12 := m12
    have q12 := m12.size
    refine ⟨(y10.trans x11).upd m12 (by omega), _, rfl, (hr0.mod (S := fun k => k = g2) m12 fun k hk e => ?_).mono fun k hk => ?_⟩
    · rcases hk with h | h
      · exact h.1.2 (.inr e)
      · omega
    · rcases hk with h | h
      · exact ⟨⟨by have := h.1.1; omega, fun hx => h.1.2 (.inl hx)⟩, h.2⟩
      · exact RdE.new hE hX k (by omega) (by omega)
  · have h0 : E ≠ 0 := by simpa using h
    rw [if_neg h0, if_neg h0]
    refine Or.inl (And.intro (fun h => ?_) (fun h => ?_))
    · have h4 : E = 4 := by simpa using h
      rw [if_pos h4]
      intro w11 m11 z11 hh11
      replace m11 : Upd g2 w10 w11 := m11
      refine ⟨y10.upd m11 (by omega), _, by rw [h4]; rfl, tZ_rep _ _⟩
    · have h4 : E ≠ 4 := by simpa using h
      rw [if_neg h4]
      intro w11 m11 z11 hh11
      replace m11 : Upd g2 w10 w11 := m11
      refine ⟨y10.upd m11 (by omega), _, rfl, tZ_rep _ _⟩
end Go.Proofs.YtfljbnhhkdaobaaGreat

/-
  Iota.
-/
namespace Go.Proofs.YtfljbnhhkdaobaaGreat
open Go Go.RowKit Go.Proofs.Bw
set_option linter.unusedVariables false
set_option linter.unusedSimpArgs false
set_option maxRecDepth 20000 in
theorem cut_r {R : Nat → Prop} {lo : Nat} (g : Nat) (A : Option Addr) (q : List T) (c : Nat) (F : Option Addr) (f : List T) (cf : Nat) (w : World) (hb : Box w g [.slice A q.length c]) (ho : OwnE encT w lo 33 R A c q) (hf : Sl encT w R F f) (hR : ∀ k, R k → k < lo) (hlo : lo ≤ w.heap.size) (hg : g < lo) (hgR : ¬ R g) (hc : lenOk f.length cf) (hsz : q.length + f.length ≤ 1000000) :
    Runs Tryz.prog 75 #[.slice F f.length cf, .pointer (some ⟨g, 0, none⟩)] w fun v w' => v = .tuple #[] ∧ Bw.Mod (fun k => k = g ∨ ownOf A k) w w' ∧ ∃ A' c', Box w' g [.slice A' (q ++ f).length c'] ∧ OwnE encT w' lo 33 R A' c' (q ++ f) ∧ (∀ k, ownOf A' k → ownOf A k ∨ w.heap.size ≤ k) := by
  have hh := Holds.one (g := g) (cs := [.v (.slice A q.length c)]) hb rfl
  have hol := ho.lt
  refine Runs.of_vc (ρ := [g]) cx_ok [0, 1] [.v _, .p 0 0] Tryz.func75 rfl rfl rfl hh ?_
  refine OpT.appendG (E := encT) elT Tryz.underlying31 Tryz.underlying31 rfl rfl rfl rfl (l3 := q ++ f) rfl rfl ho hf (fun k hk _ => ⟨.inl hk, fun h => by have := hol k h; have := hR k hk; omega⟩) hlo (fun k hk _ h => by have := hol k h; have := hR k hk; omega) hh (outR.get (ρ := [g]) ⟨fun h => by have := hol g h; omega, trivial⟩) (by rw [List.length_append]; omega) fun w1 A1 c1 m1 z1 o1 f1 hh1 => ?_
  intro w2 m2 z2 hh2
  replace m2 : Upd g w1 w2 := m2
  exact ⟨rfl, (m1.mono (fun k hk => .inr hk)).trans (m2.mono fun k hk => .inl hk), A1, c1, hh2.box 0 _ rfl, o1.upd m2 hg hgR, f1⟩
def iotR (l : List Inf) (t u : T) : Option Rl := (recX l t).rules.find? fun r => decide (r.c = (recX l u).name)
def iotL (l : List Inf) (t u : T) (r : Rl) : List T := (spArgs t).take (ownN (recX l t)).toNat ++ (spArgs u).drop (((spArgs u).length : Int) - r.f).toNat ++ (spArgs t).drop (ownN (recX l t) + (recX l t).index + 1).toNat
def iot (l : List Inf) (t u : T) : T × Int :=
  if (mayT t && mayT u) = false then (tZ, 1)
  else if (recB l t && madB l u) = false then (tZ, 6)
  else match iotR l t u with
    | none => (tZ, 6)
    | some r => if ((spArgs u).length : Int) ≠ (recX l u).fixed + r.f then (tZ, 6)
      else if lvlE r.b (T.ls' (head t)) ≠ 0 then (tZ, 4)
      else (toldT (apT (lvlT r.b (T.ls' (head t))) (iotL l t u r)), toldE (apT (lvlT r.b (T.ls' (head t))) (iotL l t u r)))
theorem head_nodes (t : T) : nodes t = true → nodes (head t) = true := by
  induction t using T.ind with
  | h k n s ls ts ih =>
    intro hn
    by_cases hk : k = 4
    · subst hk
      obtain ⟨f, x, rfl⟩ := node_app (nodes_mk hn).1
      rw [head_app]
      have := (nodes_mk hn).2
      exact ih f (by simp) (by simp [nodess] at this; exact this.1)
    · rw [head_no hk]; exact hn
theorem ls_small {t : T} (h : mayT t = true) : (T.ls' (head t)).length ≤ 4 := by
  have h1 := head_nodes t (may_nodes h)
  cases hq : head t with
  | mk k n s ls ts =>
    rw [hq] at h1
    exact (node_small (nodes_mk h1).1).1
structure IotAt (w : World) (X : Nat → Prop) (e m : Nat) (A : Option Addr) (p : T × Int) (v : Value) : Prop where
  at_ : ∃ cr : List Value, v = .tuple #[.agg cr.toArray, .int .i64 p.2] ∧ VT w (RdE w X e m A) cr p.1
set_option maxHeartbeats 4000000 in
set_option maxRecDepth 20000 in
theorem Iota_runs {X : Nat → Prop} {lo : Nat} (e m : Nat) (A : Option Addr) (c : Nat) (l : List Inf) (t u : T) (ct cu : List Value) (w : World) (hE : EX w X lo e m A c l) (hX : ∀ k, X k → k < w.heap.size) (ht : VT w (RdE w X e m A) ct t) (hu : VT w (RdE w X e m A) cu u) (hN : NOK l) :
    Runs Tryz.prog 39 #[.pointer (some ⟨e, 0, none⟩), .agg ct.toArray, .agg cu.toArray] w fun v w' => Ext w w' ∧ IotAt w' X e m A (iot l t u) v := by
  have ht0 := ht
  have hu0 := hu
  obtain ⟨kt, nt, st, lst, tst, lat, lct, tat, tct, et, rfl, hkt, hnt, hst, hllt, hltt, hLt, hTt⟩ := ht.inv
  obtain ⟨ku, nu, su, lsu, tsu, lau, lcu, tau, tcu, eu, rfl, hku, hnu, hsu, hllu, hltu, hLu, hTu⟩ := hu.inv
  refine Runs.of_vc (ρ := []) cx_ok [0, 1, 2, 4, 5, 6, 7, 8, 9, 10, 11, 12, 13, 15, 16, 17, 18, 19, 26, 47, 51, 52, 53, 54, 61, 69, 81] [.v _, .a [.v (.int .u8 kt), .v (.int .i64 nt), .v (.string st), .v (.slice lat lst.length lct), .v (.slice tat tst.length tct)], .a [.v (.int .u8 ku), .v (.int .i64 nu), .v (.string su), .v (.slice lau lsu.length lcu), .v (.slice tau tsu.length tcu)]] Tryz.func39 rfl rfl rfl (Holds.nil w) ?_
  intro g1 w1 e1 x1 z1 hh1
  intro g2 w2 e2 x2 z2 hh2
  intro g3 w3 e3 x3 z3 hh3
  have y3 := x1.trans (x2.trans x3)
  have ht3 := VT.ext ht0 y3
  have hu3 := VT.ext hu0 y3
  refine OpT.buildE (E := encT) (R := (RdE w X e m A)) (vs := [_, _]) (l := [t, u]) Tryz.zeroValue33 (.cons rfl (.cons rfl (.nil))) Tryz.underlying31 Tryz.sizeOf33 rfl rfl (Reps.cons ht3 (Reps.cons hu3 (Reps.nil _ _ _))) rfl rfl hh3 fun w4 g4 e4 x4 z4 o4 hh4 => ?_
  cases hm : (mayT t && mayT u) with
  | false =>
    refine vcZ (ready2_r _ _ t u 2 w4 false hm o4.sl (by simp [lenOk])) hh4 fun w5 x5 z5 hh5 => ?_
    refine Or.inl (And.intro (fun _ => ?_) (fun hx => nomatch (rfl).symm.trans hx))
    have hi : iot l t u = (tZ, 1) := by unfold iot; rw [if_pos hm]
    rw [hi]
    intro w6 m6 z6 hh6
    replace m6 : Upd g3 w5 w6 := m6
    exact ⟨(y3.trans (x4.trans x5)).upd m6 (by omega), ⟨_, rfl, tZ_rep _ _⟩⟩
  | true =>
  refine vcZ (ready2_r _ _ t u 2 w4 true hm o4.sl (by simp [lenOk])) hh4 fun w5 x5 z5 hh5 => ?_
  have y5 := y3.trans (x4.trans x5)
  refine Or.inl (And.intro (fun hx => nomatch (rfl).symm.trans hx) (fun _ => ?_))
  have hmt : mayT t = true := (Bool.and_eq_true _ _ ▸ hm).1
  have hmu : mayT u = true := (Bool.and_eq_true _ _ ▸ hm).2
  have hI : iot l t u = if (recB l t && madB l u) = false then (tZ, 6)
    else match iotR l t u with
      | none => (tZ, 6)
      | some r => if ((spArgs u).length : Int) ≠ (recX l u).fixed + r.f then (tZ, 6)
        else if lvlE r.b (T.ls' (head t)) ≠ 0 then (tZ, 4)
        else (toldT (apT (lvlT r.b (T.ls' (head t))) (iotL l t u r)), toldE (apT (lvlT r.b (T.ls' (head t))) (iotL l t u r))) := by unfold iot; rw [if_neg (by rw [hm]; decide)]
  have hE5 : EX w5 (fun k => X k ∨ k = g3) lo e m A c l := hE.wid y5 fun k hk => hk.imp id fun h => by omega
  have hX5 : ∀ k, X k ∨ k = g3 → k < w5.heap.size := fun k hk => by
    rcases hk with h | h
    · have := hX k h; omega
    · omega
  have hw : ∀ k, RdE w X e m A k → RdE w5 (fun k => X k ∨ k = g3) e m A k := fun k hk => ⟨⟨by have := hk.1.1; omega, fun h => by
    rcases h with h | h
    · exact hk.1.2 h
    · have := hk.1.1; omega⟩, hk.2⟩
  refine (recOf_runs e m A c l t _ w5 hE5 hX5 ((VT.ext ht0 y5).mono hw) hmt hN).mono ?_
  rintro _ w6 ⟨x6, ⟨ci, ch, B, bc, y, hd, q, own, all, rfl, hy, hh, hq, hqb, hyes, hno⟩⟩
  have hh6 := hh5.ext x6
  have z6 := x6.size
  have hy0 := hy
  have hh0 := hh
  generalize hrb : recB l t = rb at *
  obtain ⟨ctY, cvY, raY, rcY, rfl, htyY, hvlY, hruY, hrlY, hokY⟩ := hy; obtain ⟨kYt, nYt, sYt, lsYt, tsYt, laYt, lcYt, taYt, tcYt, etyY, rfl, hkYt, hnYt, hsYt, hllYt, hltYt, hLYt, hTYt⟩ := htyY.inv; obtain ⟨kYv, nYv, sYv, lsYv, tsYv, laYv, lcYv, taYv, tcYv, evlY, rfl, hkYv, hnYv, hsYv, hllYv, hltYv, hLYv, hTYv⟩ := hvlY.inv
  obtain ⟨kh, nh, sh, lsh, tsh, lah, lch, tah, tch, eh, rfl, hkh, hnh, hsh, hllh, hlth, hLh, hTh⟩ := hh.inv
  refine Lands.ret (s := .t [.a [.v (.int .u8 y.kind), .v (.string y.name), .v (.int .i64 y.params), .v (.int .u8 kYt), .v (.int .i64 nYt), .v (.string sYt), .v (.slice laYt lsYt.length lcYt), .v (.slice taYt tsYt.length tcYt), .v (.int .u8 kYv), .v (.int .i64 nYv), .v (.string sYv), .v (.slice laYv lsYv.length lcYv), .v (.slice taYv tsYv.length tcYv), .v (.int .i64 y.height), .v (.string y.block), .v (.string y.of_), .v (.int .i64 y.fixed), .v (.int .i64 y.index), .v (.int .i64 y.no), .v (.int .i64 y.fields), .v (.int .i64 y.motives), .v (.int .i64 y.minors), .v (.slice raY y.rules.length rcY), .v (.int .i64 y.ctors), .v (.bool y.record), .v (.int .u8 kh), .v (.int .i64 nh), .v (.string sh), .v (.slice lah lsh.length lch), .v (.slice tah tsh.length tch), .v (.slice B q.length bc), .v (.int .i64 own), .v (.int .i64 all)], .v (.bool rb)]) rfl rfl hh6 ?_
  intro g7 w7 e7 x7 z7 hh7; intro w8 m8 z8 hh8; replace m8 : Upd g7 w7 w8 := m8; have x8 : Ext w6 w8 := x7.upd m8 (by omega); have q8 := x8.size
  have y8 := x6.trans x8
  refine (made_runs e m A c l u _ w8 (hE5.ext y8) (fun k hk => by have := hX5 k hk; omega) (VT.re ((VT.ext hu0 y5).mono hw) y8) hmu).mono ?_
  rintro _ w9 ⟨x9, ⟨cm, M, mc, Z, p, rfl, hz, hp, hpb, hmad⟩⟩
  have hh9 := hh8.ext x9
  have z9 := x9.size
  have hz0 := hz
  generalize hmb : madB l u = mb at *
  obtain ⟨ctZ, cvZ, raZ, rcZ, rfl, htyZ, hvlZ, hruZ, hrlZ, hokZ⟩ := hz; obtain ⟨kZt, nZt, sZt, lsZt, tsZt, laZt, lcZt, taZt, tcZt, etyZ, rfl, hkZt, hnZt, hsZt, hllZt, hltZt, hLZt, hTZt⟩ := htyZ.inv; obtain ⟨kZv, nZv, sZv, lsZv, tsZv, laZv, lcZv, taZv, tcZv, evlZ, rfl, hkZv, hnZv, hsZv, hllZv, hltZv, hLZv, hTZv⟩ := hvlZ.inv
  refine Lands.ret (s := .t [.a [.v (.int .u8 Z.kind), .v (.string Z.name), .v (.int .i64 Z.params), .v (.int .u8 kZt), .v (.int .i64 nZt), .v (.string sZt), .v (.slice laZt lsZt.length lcZt), .v (.slice taZt tsZt.length tcZt), .v (.int .u8 kZv), .v (.int .i64 nZv), .v (.string sZv), .v (.slice laZv lsZv.length lcZv), .v (.slice taZv tsZv.length tcZv), .v (.int .i64 Z.height), .v (.string Z.block), .v (.string Z.of_), .v (.int .i64 Z.fixed), .v (.int .i64 Z.index), .v (.int .i64 Z.no), .v (.int .i64 Z.fields), .v (.int .i64 Z.motives), .v (.int .i64 Z.minors), .v (.slice raZ Z.rules.length rcZ), .v (.int .i64 Z.ctors), .v (.bool Z.record)], .v (.slice M p.length mc), .v (.bool mb)]) rfl rfl hh9 ?_
  intro g10 w10 e10 x10 z10 hh10; intro w11 m11 z11 hh11; replace m11 : Upd g10 w10 w11 := m11; have x11 : Ext w9 w11 := x10.upd m11 (by omega); have q11 := x11.size
  have y11 := y5.trans (y8.trans (x9.trans x11))
  refine Or.inl (And.intro (fun h => ?_) (fun h => ?_))
  · have hf : (rb && mb) = false := by cases rb <;> cases mb <;> simp [sel] at h ⊢
    rw [hI, if_pos hf]
    intro w12 m12 z12 hh12
    replace m12 : Upd g3 w11 w12 := m12
    exact ⟨y11.upd m12 (by omega), ⟨_, rfl, tZ_rep _ _⟩⟩
  have hrt : rb = true := by cases rb <;> cases mb <;> simp [sel] at h ⊢
  have hmbt : mb = true := by cases rb <;> cases mb <;> simp [sel] at h ⊢
  obtain ⟨ey, eh', eq, eo, ea⟩ := hyes hrt
  obtain ⟨ez, ep⟩ := hmad hmbt
  rw [hI, if_neg (by rw [hrt, hmbt]; decide)]
  have hR : iotR l t u = y.rules.find? fun r => decide (r.c = Z.name) := by unfold iotR; rw [ey, ez]
  have hIL : ∀ r, iotL l t u r = q.take own.toNat ++ p.drop ((p.length : Int) - r.f).toNat ++ q.drop (all + 1).toNat := fun r => by unfold iotL; rw [eq, ep, eo, ea]
  rw [hR, ← eh', ← ep, ← ez]
  simp only [hIL]
  have hnY : nok y := by rw [ey]; exact hN.get _
  have hnZ : nok Z := by rw [ez]; exact hN.get _
  have hql : q.length ≤ 65536 := by rw [eq]; exact spArgs_len hmt
  have hpl : p.length ≤ 65536 := by rw [ep]; exact spArgs_len hmu
  have hlsz : (T.ls' hd).length ≤ 4 := by rw [eh']; exact ls_small hmt
  have hlsh : T.ls' hd = lsh := by rw [eh]; rfl
  rw [hlsh] at hlsz ⊢
  have hcnt : own + y.index < (q.length : Int) := by
    have h1 : recB l t = true := hrb.trans hrt
    unfold recB at h1
    simp only [Bool.and_eq_true, decide_eq_true_eq] at h1
    rw [eo, ey, eq]; exact h1.2.2.2.2
  have hall : all = own + y.index := by rw [ea, eo, ey]
  have hown0 : own = ownN y := by rw [eo, ey]
  have hrls : y.rules.length ≤ 1000 := by rw [ey]; exact getI_rls hE _
  obtain ⟨nY1, nY2, nY3, nY4, nY5, nY6, nY7, nY8⟩ := hnY.get
  obtain ⟨nZ1, nZ2, nZ3, nZ4, nZ5, nZ6, nZ7, nZ8⟩ := hnZ.get
  unfold ownN at hown0
  refine vLoop_upd (σ := Nat) [7, 15, 16, 17, 18, 19, 53, 54, 55, 56, 57, 58, 59, 60, 61, 62, 63, 64, 65, 66, 67, 68, 69, 70, 71, 72, 73, 74, 75, 76, 77, 78, 79, 80, 81, 82, 83, 84, 85, 86, 87, 88, 89, 90, 91, 92, 93, 94, 95, 96, 97, 98, 99, 100, 101, 102, 103, 104, 105, 106, 107, 108, 109, 110, 111, 112, 113] (fun i => [(53, .v (.int .i64 i))]) [] (fun _ => []) (fun i w' => Ext w11 w' ∧ i ≤ y.rules.length ∧ (y.rules.take i).any (fun r => decide (r.c = Z.name)) = false) (fun i => y.rules.length - i) 0 (fun _ => ⟨rfl, rfl⟩)
    ⟨(by repeat (first | exact trivial | refine And.intro rfl ?_)), (by repeat (first | exact trivial | refine And.intro rfl ?_)), (by repeat (first | exact trivial | refine And.intro rfl ?_)), (by repeat (first | exact trivial | refine And.intro rfl ?_)), Ext.refl _, Nat.zero_le _, rfl⟩ ?_
  rintro i w12 hh12 ⟨x12, hi, hany⟩
  have z12 := x12.size
  have y12 := y11.trans x12
  refine Or.inl (And.intro (fun h => ?_) (fun h => ?_))
  · have hil : i < y.rules.length := by have := of_decide_eq_true h; omega
    obtain ⟨a1, cs1, ha1, hR1, hrow, hv1⟩ := (hruY.ext (x8.trans (x9.trans (x11.trans x12)))).at hil
    have htk := List.take_succ_eq_append_getElem hil
    have hfa := find_at (p := fun r => decide (r.c = Z.name)) hil hany
    have hmem := List.getElem_mem hil
    generalize y.rules[i] = r at *
    have hv1 : VR w12 _ cs1 r := hv1
    obtain ⟨cbr, rfl, hbor, hrfr, hrcr⟩ := hv1; obtain ⟨krb, nrb, srb, lsrb, tsrb, larb, lcrb, tarb, tcrb, ebor, rfl, hkrb, hnrb, hsrb, hllrb, hltrb, hLrb, hTrb⟩ := hbor.inv
    refine OpT.indexAddr Tryz.underlying34 Tryz.sizeOf84 rfl rfl ha1 (by first | omega | (simp only [lenOk] at *; omega)) ?_; refine Lands.v hh12 ?_
    refine OpT.loadA Tryz.isAgg84 (by exact Tryz.sizeOf84) rfl hrow ?_; refine Lands.ret (s := .a [.v (.string r.c), .v (.int .i64 r.f), .v (.int .u8 krb), .v (.int .i64 nrb), .v (.string srb), .v (.slice larb lsrb.length lcrb), .v (.slice tarb tsrb.length tcrb)]) rfl rfl hh12 ?_
    intro g13 w13 e13 x13 z13 hh13; intro w14 m14 z14 hh14; replace m14 : Upd g13 w13 w14 := m14; have x14 : Ext w12 w14 := x13.upd m14 (by omega); have q14 := x14.size
    refine Or.inl (And.intro (fun h => ?_) (fun h => ?_))
    · have hne : r.c ≠ Z.name := by simpa [strB] using h
      refine vsd (by simp only [inKind]; omega) ?_
      exact Exists.intro ((i + 1)) ⟨by omega, esub_over (by repeat (first | exact trivial | refine And.intro rfl ?_)) (by repeat (first | exact trivial | refine And.intro rfl ?_)), hsub_over (by repeat (first | exact trivial | refine And.intro rfl ?_)) (by repeat (first | exact trivial | refine And.intro rfl ?_)), x12.trans x14, hil, by rw [htk, List.any_append, hany]; simp [hne]⟩
    have heq : r.c = Z.name := by simpa [strB] using h
    have hfind := hfa (decide_eq_true heq)
    rw [hfind]
    simp only
    have hrf := nY8 r hmem
    refine vsd (by simp only [inKind]; omega) ?_
    refine Or.inl (And.intro (fun h => ?_) (fun h => ?_))
    · have hne : (p.length : Int) ≠ Z.fixed + r.f := by simpa using h
      rw [if_pos hne]
      intro w15 m15 z15 hh15
      replace m15 : Upd g3 w14 w15 := m15
      exact ⟨(y12.trans x14).upd m15 (by omega), ⟨_, rfl, tZ_rep _ _⟩⟩
    have hpeq : (p.length : Int) = Z.fixed + r.f := by simpa using h
    rw [if_neg (fun h => h hpeq)]
    have x614 : Ext w6 w14 := x8.trans (x9.trans (x11.trans (x12.trans x14)))
    refine (Levels_runs (R := RdE w14 (fun k => X k ∨ k = g3) e m A) lah lsh lch hllh (by omega) r.b _ w14 ((hbor.ext x14).mono (RdE.ext x614)) (Sl.re (sl_L hLh) x614) RdE.lt).mono ?_
    rintro _ w15 ⟨x15, cl, rfl, hv15⟩
    have hh15 := hh14.ext x15
    have z15 := x15.size
    generalize lvlT r.b lsh = V at *
    generalize lvlE r.b lsh = E at *
    have hV0 := hv15
    obtain ⟨kv, nv, sv, lsv, tsv, lav, lcv, tav, tcv, ev, rfl, hkv, hnv, hsv, hllv, hltv, hLv, hTv⟩ := hv15.inv
    refine Lands.ret (s := .t [.a [.v (.int .u8 kv), .v (.int .i64 nv), .v (.string sv), .v (.slice lav lsv.length lcv), .v (.slice tav tsv.length tcv)], .v (.int .i64 E)]) rfl rfl hh15 ?_
    intro g16 w16 e16 x16 z16 hh16; intro w17 m17 z17 hh17; replace m17 : Upd g16 w16 w17 := m17; have x17 : Ext w15 w17 := x16.upd m17 (by omega); have q17 := x17.size
    have y17 := y12.trans (x14.trans (x15.trans x17))
    refine Or.inl (And.intro (fun h => ?_) (fun h => ?_))
    · have h0 : E ≠ 0 := by simpa using h
      rw [if_pos h0]
      intro w18 m18 z18 hh18
      replace m18 : Upd g3 w17 w18 := m18
      exact ⟨y17.upd m18 (by omega), ⟨_, rfl, tZ_rep _ _⟩⟩
    have h0 : E = 0 := by simpa using h
    rw [if_neg (fun h => h h0)]
    intro g18 w18 e18 x18 z18 hh18
    have y18 := y17.trans x18
    have hbx := hh18.lt
    have q17 := x17.size
    -- what may be read
    have hE14 : EX w14 (fun k => X k ∨ k = g3) lo e m A c l := hE5.ext (x6.trans x614)
    have hX14 : ∀ k, X k ∨ k = g3 → k < w14.heap.size := fun k hk => by have := hX5 k hk; omega
    have hr617 : ∀ k, RdE w6 (fun k => X k ∨ k = g3) e m A k → RdE w17 (fun k => X k ∨ k = g3) e m A k := RdE.ext (x614.trans (x15.trans x17))
    have hr917 : ∀ k, RdE w9 (fun k => X k ∨ k = g3) e m A k → RdE w17 (fun k => X k ∨ k = g3) e m A k := RdE.ext (x11.trans (x12.trans (x14.trans (x15.trans x17))))
    have hVr : VT w18 (RdE w17 (fun k => X k ∨ k = g3) e m A) _ V := (VT.ext hV0.small (x17.trans x18)).mono fun k hk => by
      rcases hk.1 with h | h
      · exact RdE.ext (x15.trans x17) k h
      · exact RdE.new hE14 hX14 k h (by have := hk.2; omega)
    have hqr : Sl encT w18 (RdE w17 (fun k => X k ∨ k = g3) e m A) B q := (hq.ext (x614.trans (x15.trans (x17.trans x18)))).mono hr617
    have hpr : Sl encT w18 (RdE w17 (fun k => X k ∨ k = g3) e m A) M p := (hp.ext (x11.trans (x12.trans (x14.trans (x15.trans (x17.trans x18)))))).mono hr917
    have hRlo : ∀ k, RdE w17 (fun k => X k ∨ k = g3) e m A k → k < w18.heap.size := fun k hk => by have := hk.1.1; omega
    have hRg : ¬ RdE w17 (fun k => X k ∨ k = g3) e m A g18 := fun h => by have := h.1.1; omega
    generalize hRr : RdE w17 (fun k => X k ∨ k = g3) e m A = Rr at *
    have hlq : (q.take own.toNat).length = own.toNat := by rw [List.length_take]; omega
    have hlp : (p.drop ((p.length : Int) - r.f).toNat).length = r.f.toNat := by rw [List.length_drop]; omega
    have hlr : (q.drop (all + 1).toNat).length = q.length - (all + 1).toNat := List.length_drop ..
    have hnoB : ∀ (i : Nat) (A' : Option Addr), i < 8 → i ≠ 7 → (∀ k, ownOf A' k → w18.heap.size ≤ k) → ¬ (adr [g1, g2, g3, g7, g10, g13, g16, g18] i = g18 ∨ ownOf A' (adr [g1, g2, g3, g7, g10, g13, g16, g18] i)) := fun i A' hi hne hA' h => by
      rcases h with h | h
      · exact hh18.ne i 7 hi (by simp) hne h
      · have := hbx i hi; have := hA' _ h; simp only [List.append_eq, List.cons_append, List.nil_append] at *; omega
    refine OpT.sliceE (E := encT) (i := 0) (j := own) (m := (q.take own.toNat).length) Tryz.underlying31 Tryz.sizeOf33 rfl rfl rfl (hqr.take own.toNat) (by simp only [lenOk] at hqb; omega) (by simp only [lenOk] at hqb; omega) (by rw [hlq]; rfl) fun B1 s1 => ?_
    refine Lands.v hh18 ?_
    refine (cut_r (R := Rr) g18 none [] 0 B1 (q.take own.toNat) _ w18 (hh18.box 7 _ rfl) (OwnE.nil _ _ _ _ _) s1 hRlo (Nat.le_refl _) (by omega) hRg (by simp only [lenOk] at hqb ⊢; omega) (by simp only [List.length_nil]; omega)).mono ?_
    rintro _ w19 ⟨rfl, m19, A19, c19, b19, o19, f19⟩
    have hnone : ∀ k, ownOf none k → w18.heap.size ≤ k := fun k ⟨a, ha, _⟩ => by cases ha
    have hRm : ∀ (A' : Option Addr), (∀ k, ownOf A' k → w18.heap.size ≤ k) → ∀ k, Rr k → ¬ (k = g18 ∨ ownOf A' k) := fun A' hA' k hk h => by
      rcases h with h | h
      · subst h; exact hRg hk
      · have := hA' k h; have := hRlo k hk; omega
    have hh19 := Holds.set1 hh18 m19 (b := 7) (c := [.v (.slice none 0 0)]) (d := [.v (.slice A19 (([] : List T) ++ q.take own.toNat).length c19)]) rfl b19 rfl fun i hi hne => hnoB i none hi hne hnone
    have n19 : ∀ k, ownOf A19 k → w18.heap.size ≤ k := fun k hk => (o19.lt k hk).1
    have z19 := m19.size
    have hq19 := hqr.mod m19 (hRm none hnone)
    have hp19 := hpr.mod m19 (hRm none hnone)
    have hV19 := hVr.mod m19 (hRm none hnone)
    have y19 : Ext w w19 := y18.trans' m19 fun k hk h => by
      rcases h with h | h
      · omega
      · have := hnone k h; have := y18.size; omega
    refine Lands.ret (s := .t []) rfl rfl hh19 ?_
    refine vsd (by simp only [inKind]; omega) ?_
    refine OpT.sliceE (E := encT) (i := (p.length : Int) - r.f) (j := (p.length : Int)) (m := (p.drop ((p.length : Int) - r.f).toNat).length) Tryz.underlying31 Tryz.sizeOf33 rfl rfl rfl hp19 (by simp only [lenOk] at hpb; omega) (by simp only [lenOk] at hpb; omega) (by rw [hlp]; omega) fun B2 s2 => ?_
    refine Lands.v hh19 ?_
    refine (cut_r (R := Rr) g18 A19 (([] : List T) ++ q.take own.toNat) c19 B2 (p.drop ((p.length : Int) - r.f).toNat) _ w19 (hh19.box 7 _ rfl) o19 s2 hRlo z19 (by omega) hRg (by simp only [lenOk] at hpb ⊢; omega) (by simp only [List.nil_append]; omega)).mono ?_
    rintro _ w20 ⟨rfl, m20, A20, c20, b20, o20, f20⟩
    have hh20 := Holds.set1 hh19 m20 (b := 7) (c := [.v (.slice A19 (([] : List T) ++ q.take own.toNat).length c19)]) (d := [.v (.slice A20 (([] : List T) ++ q.take own.toNat ++ p.drop ((p.length : Int) - r.f).toNat).length c20)]) rfl b20 rfl fun i hi hne => hnoB i A19 hi hne n19
    have n20 : ∀ k, ownOf A20 k → w18.heap.size ≤ k := fun k hk => (o20.lt k hk).1
    have z20 := m20.size
    have hq20 := hq19.mod m20 (hRm A19 n19)
    have hV20 := hV19.mod m20 (hRm A19 n19)
    have y20 : Ext w w20 := y19.trans' m20 fun k hk h => by
      rcases h with h | h
      · omega
      · have := n19 k h; have := y18.size; omega
    refine Lands.ret (s := .t []) rfl rfl hh20 ?_
    refine vsd (by simp only [inKind]; omega) ?_
    refine OpT.sliceE (E := encT) (i := all + 1) (j := (q.length : Int)) (m := (q.drop (all + 1).toNat).length) Tryz.underlying31 Tryz.sizeOf33 rfl rfl rfl hq20 (by simp only [lenOk] at hqb; omega) (by simp only [lenOk] at hqb; omega) (by rw [hlr]; omega) fun B3 s3 => ?_
    refine Lands.v hh20 ?_
    refine (cut_r (R := Rr) g18 A20 (([] : List T) ++ q.take own.toNat ++ p.drop ((p.length : Int) - r.f).toNat) c20 B3 (q.drop (all + 1).toNat) _ w20 (hh20.box 7 _ rfl) o20 s3 hRlo (by omega) (by omega) hRg (by simp only [lenOk] at hqb ⊢; omega) (by simp only [List.nil_append, List.length_append]; omega)).mono ?_
    rintro _ w21 ⟨rfl, m21, A21, c21, b21, o21, f21⟩
    have hh21 := Holds.set1 hh20 m21 (b := 7) (c := [.v (.slice A20 (([] : List T) ++ q.take own.toNat ++ p.drop ((p.length : Int) - r.f).toNat).length c20)]) (d := [.v (.slice A21 (([] : List T) ++ q.take own.toNat ++ p.drop ((p.length : Int) - r.f).toNat ++ q.drop (all + 1).toNat).length c21)]) rfl b21 rfl fun i hi hne => hnoB i A20 hi hne n20
    have n21 : ∀ k, ownOf A21 k → w18.heap.size ≤ k := fun k hk => (o21.lt k hk).1
    have z21 := m21.size
    have hV21 := hV20.mod m21 (hRm A20 n20)
    have y21 : Ext w w21 := y20.trans' m21 fun k hk h => by
      rcases h with h | h
      · omega
      · have := n20 k h; have := y18.size; omega
    refine Lands.ret (s := .t []) rfl rfl hh21 ?_
    have ole := o21.le
    have hVf : VT w21 (fun k => (Rr k ∨ w18.heap.size ≤ k) ∧ k < w21.heap.size) _ V := hV21.mono fun k hk => ⟨.inl hk, by have := hRlo k hk; omega⟩
    refine (told_r V _ A21 _ c21 w21 hVf o21.sl (fun k hk => hk.2) (by simp only [lenOk]; exact ole)).mono ?_
    rintro _ w22 ⟨x22, cr, rfl, hr⟩
    have hh22 := hh21.ext x22
    have z22 := x22.size
    have hlst : ([] : List T) ++ q.take own.toNat ++ p.drop ((p.length : Int) - r.f).toNat ++ q.drop (all + 1).toNat = q.take own.toNat ++ p.drop ((p.length : Int) - r.f).toNat ++ q.drop (all + 1).toNat := by rw [List.nil_append]
    rw [hlst] at hr ⊢
    generalize q.take own.toNat ++ p.drop ((p.length : Int) - r.f).toNat ++ q.drop (all + 1).toNat = L at *
    generalize toldE (apT V L) = oE at *
    generalize toldT (apT V L) = oT at *
    have hr0 := hr
    obtain ⟨ko, no, so, lso, tso, lao, lco, tao, tco, eo2, rfl, hko, hno, hso, hllo, hlto, hLo, hTo⟩ := hr.inv
    refine Lands.ret (s := .t [.a [.v (.int .u8 ko), .v (.int .i64 no), .v (.string so), .v (.slice lao lso.length lco), .v (.slice tao tso.length tco)], .v (.int .i64 oE)]) rfl rfl hh22 ?_
    intro w23 m23 z23 hh23
    replace m23 : Upd g3 w22 w23 := m23
    have q23 := m23.size
    have y23 : Ext w w23 := (y21.trans x22).upd m23 (by omega)
    refine ⟨y23, ⟨_, rfl, (hr0.mod (S := fun k => k = g3) m23 fun k hk e => ?_).mono fun k hk => ?_⟩⟩
    · rcases hk with h | h
      · rcases h.1 with h | h
        · rw [← hRr] at h; exact h.1.2 (.inr e)
        · omega
      · omega
    · rcases hk with h | h
      · rcases h.1 with h' | h'
        · rw [← hRr] at h'; exact ⟨⟨by have := h'.1.1; omega, fun hx => h'.1.2 (.inl hx)⟩, h'.2⟩
        · exact RdE.new hE hX k (by have := y18.size; omega) (by have := h.2; omega)
      · exact RdE.new hE hX k (by have := y21.size; omega) (by omega)
  · obtain rfl : i = y.rules.length := by have := of_decide_eq_false h; omega
    rw [List.take_length] at hany
    rw [find_none hany]
    intro w13 m13 z13 hh13
    replace m13 : Upd g3 w12 w13 := m13
    exact ⟨y12.upd m13 (by omega), ⟨_, rfl, tZ_rep _ _⟩⟩
end Go.Proofs.YtfljbnhhkdaobaaGreat

/-
  Rules in regions of any order.
-/
namespace Go.Proofs.YtfljbnhhkdaobaaGreat
open Go Go.RowKit Go.Proofs.Bw
set_option linter.unusedVariables false
set_option linter.unusedSimpArgs false
def dEq (u : Value) : DV := .Q (fun _ v _ => v = u) fun _ _ _ _ _ _ _ h => h
def dTI (B : Nat → Prop) (t : T) (n : Int) : DV := .Q (fun R v w => ∃ cr : List Value, v = .tuple #[.agg cr.toArray, .int .i64 n] ∧ VT w (rdS B R w) cr t) fun R R' v w w' hr x h => by
  obtain ⟨cr, h1, h2⟩ := h
  exact ⟨cr, h1, (VT.ext h2 x).mono (rdS.mono hr x)⟩
section
variable {W w w' : World} {X S R1 R2 B : Nat → Prop} {lo e m c : Nat} {A : Option Addr} {l : List Inf} {v0 v1 v2 : Value} {t u : T}
theorem fl_in (hE : EX W X lo e m A c l) (hX : ∀ k, X k → k < W.heap.size) (x : Ext W w) (hS : ∀ k, S k → W.heap.size ≤ k ∧ k < w.heap.size) : ∀ k, RdE W X e m A k ∨ S k → RdE w (fun k => X k ∨ (W.heap.size ≤ k ∧ k < w.heap.size ∧ ¬ S k)) e m A k := fun k hk => by
  have := x.size
  rcases hk with h | h
  · exact ⟨⟨by have := h.1.1; omega, fun hx => by
      rcases hx with hx | hx
      · exact h.1.2 hx
      · have := h.1.1; omega⟩, h.2⟩
  · have h1 := hS k h
    exact ⟨⟨h1.2, fun hx => by
      rcases hx with hx | hx
      · have := hX k hx; omega
      · exact hx.2.2 h⟩, fun hm => by have := hE.lt k hm; omega⟩
theorem fl_out (x : Ext w w') : ∀ k, RdE w' (fun k => X k ∨ (W.heap.size ≤ k ∧ k < w.heap.size ∧ ¬ S k)) e m A k → RdE W X e m A k ∨ (S k ∨ (w.heap.size ≤ k ∧ k < w'.heap.size)) := fun k hk => by
  by_cases h1 : k < W.heap.size
  · exact .inl ⟨⟨h1, fun hx => hk.1.2 (.inl hx)⟩, hk.2⟩
  · by_cases h2 : k < w.heap.size
    · by_cases h3 : S k
      · exact .inr (.inl h3)
      · exact absurd (.inr ⟨by omega, h2, h3⟩) hk.1.2
    · exact .inr (.inr ⟨by omega, hk.1.1⟩)
theorem Iota_d (hE : EX W X lo e m A c l) (hX : ∀ k, X k → k < W.heap.size) (hN : NOK l) (x : Ext W w) (hR1 : ∀ k, R1 k → W.heap.size ≤ k ∧ k < w.heap.size) (hR2 : ∀ k, R2 k → W.heap.size ≤ k ∧ k < w.heap.size) (h0 : v0 = .pointer (some ⟨e, 0, none⟩)) (h1 : (DV.T t).rep (RdE W X e m A) R1 v1 w) (h2 : (DV.T u).rep (RdE W X e m A) R2 v2 w) :
    Runs Tryz.prog 39 #[v0, v1, v2] w fun v w' => Ext w w' ∧ (dTI (RdE W X e m A) (iot l t u).1 (iot l t u).2).rep (RdE W X e m A) (fun k => R1 k ∨ (R2 k ∨ (w.heap.size ≤ k ∧ k < w'.heap.size))) v w' := by
  subst h0
  obtain ⟨ct, rfl, k1⟩ := h1
  obtain ⟨cu, rfl, k2⟩ := h2
  have hS : ∀ k, (R1 k ∨ R2 k) → W.heap.size ≤ k ∧ k < w.heap.size := fun k h => h.elim (hR1 k) (hR2 k)
  have hin := fl_in hE hX x hS
  refine (Iota_runs e m A c l t u ct cu w (hE.wid x fun k hk => hk.imp id fun h => h.1) (fun k hk => by
    have := x.size
    rcases hk with h | h
    · have := hX k h; omega
    · exact h.2.1) (k1.mono fun k hk => hin k (hk.1.imp id .inl)) (k2.mono fun k hk => hin k (hk.1.imp id .inr)) hN).mono ?_
  rintro v w' ⟨x', ⟨cr, hv, hr⟩⟩
  exact ⟨x', cr, hv, hr.mono fun k hk => ⟨(fl_out x' k hk).imp id fun h => h.elim (fun h => h.imp id .inl) fun h => .inr (.inr h), hk.1.1⟩⟩
theorem flLoadE {P : World} {cs : List Value} {R : Nat → Prop} (h : VT P B cs t) (x : Ext P w') (hB : ∀ k, B k → k < P.heap.size) : (DV.T t).rep B R (.agg cs.toArray) w' :=
  ⟨cs, rfl, (VT.ext h x).mono fun k hk => ⟨.inl hk, Nat.lt_of_lt_of_le (hB k hk) x.size⟩⟩
theorem flStoredE {g : Nat} {C : Nat → Prop} {cs : List Value} (h : VT w (rdS B C w) cs t) (mm : Upd g w w') (no : ¬ C g) (nb : ¬ B g) : VT w' (fun k => (B k ∨ C k) ∧ k < w.heap.size) cs t :=
  h.mod (S := fun k => k = g) mm fun k hk e => by
    have e : k = g := e
    subst e
    exact hk.1.elim nb no
end
end Go.Proofs.YtfljbnhhkdaobaaGreat

/-
  Rules where there is no environment.
-/
namespace Go.Proofs.YtfljbnhhkdaobaaGreat
open Go Go.RowKit Go.Proofs.Bw
set_option linter.unusedVariables false
set_option linter.unusedSimpArgs false
end Go.Proofs.YtfljbnhhkdaobaaGreat

/-
  The sample's works.
-/
namespace Go.Proofs.YtfljbnhhkdaobaaGreat
open Go Go.RowKit Go.Proofs.Bw
set_option linter.unusedVariables false
set_option linter.unusedSimpArgs false
theorem SL_nok : NOK SL := by
  have h : SL.all (fun x => !badNums x) = true := by unfold SL smpL; rw [addAll_F]; decide +kernel
  intro x hx
  have := List.all_eq_true.1 h x hx
  unfold nok; simpa using this
def tRec1 : T := apT (tCo sN__rec [levN 0]) [tV 5, tV 6, tV 7, tNum 1]
def tMk12 : T := apT (tCo sPair__mk []) [tN, tN, tV 1, tV 2]
theorem wk1 : delE SL (tCo sone []) = 0 := by unfold SL smpL; rw [addAll_F]; decide +kernel
theorem wk2 : sameB (delT SL (tCo sone [])) (tNum 1) = true := by unfold SL smpL; rw [addAll_F]; decide +kernel
theorem wk3 : majN SL tRec1 = 3 := by unfold SL smpL; rw [addAll_F]; decide +kernel
theorem wk4 : majB SL tRec1 = true := by unfold SL smpL; rw [addAll_F]; decide +kernel
theorem wk5 : (iot SL tRec1 (tNum 1)).2 = 0 := by unfold SL smpL; rw [addAll_F]; decide +kernel
theorem wk6 : T.k (head (iot SL tRec1 (tNum 1)).1) = 5 := by unfold SL smpL; rw [addAll_F]; decide +kernel
theorem wk7 : (spArgs (iot SL tRec1 (tNum 1)).1).length = 4 := by unfold SL smpL; rw [addAll_F]; decide +kernel
theorem wk8 : mayT (iot SL tRec1 (tNum 1)).1 = true := by unfold SL smpL; rw [addAll_F]; decide +kernel
theorem wk9 : fieldB SL sPair 1 tMk12 = true := by unfold SL smpL; rw [addAll_F]; decide +kernel
theorem wk10 : T.n (fieldT SL sPair 1 tMk12) = 2 := by unfold SL smpL; rw [addAll_F]; decide +kernel
theorem wk11 : (recdN SL sPair).isSome = true := by unfold SL smpL; rw [addAll_F]; decide +kernel
theorem wk12 : (recdI SL sPair).name = sPair__mk := by unfold SL smpL; rw [addAll_F]; decide +kernel
set_option maxHeartbeats 4000000 in
set_option maxRecDepth 20000 in
theorem works8_runs (w : World) : Runs Tryz.prog 34 #[] w fun v w' => v = .bool true ∧ Ext w w' := by
  refine Runs.of_vc cx_ok [0, 1, 2, 3, 4, 5, 6, 7, 8, 9, 10, 11, 12, 13, 14, 15, 21] [] Tryz.func34 rfl rfl rfl (Holds.nil _) ?_
  refine (Sample_runs w (fun _ => False) (fun _ h => h.elim)).mono ?_
  rintro _ w1 ⟨x1, e, m, A, c, rfl, hE1⟩
  have hh1 := (Holds.nil w).ext x1
  have z1 := x1.size
  have hre : ∀ {w' : World} (x : Ext w1 w') (k : Nat), w1.heap.size ≤ k ∧ k < w'.heap.size → RdE w' (fun _ => False) e m A k := fun x k hk => RdE.new hE1 (fun _ h => h.elim) k hk.1 hk.2
  refine Lands.ret (s := .t [.v (.pointer (some ⟨e, 0, none⟩)), .v (.bool true)]) rfl rfl hh1 ?_
  refine Or.inl (And.intro (fun hx => nomatch (rfl).symm.trans hx) (fun _ => ?_))
  have y1 : Ext w1 w1 := Ext.refl _
  refine (Co0_runs (lo := w1.heap.size) w1 y1.size sone (by decide)).mono ?_
  rintro _ w2 ⟨x2, cs2, rfl, h2⟩
  have hh2 := hh1.ext x2
  have z2 := x2.size
  have k2 : VX w1.heap.size w2 _ (tCo sone []) := h2
  obtain ⟨ks2, ns2, ss2, lss2, tss2, las2, lcs2, tas2, tcs2, e2, rfl, hks2, hns2, hss2, hlls2, hlts2, hLs2, hTs2⟩ := h2.inv
  refine Lands.ret (s := .a [.v (.int .u8 ks2), .v (.int .i64 ns2), .v (.string ss2), .v (.slice las2 lss2.length lcs2), .v (.slice tas2 tss2.length tcs2)]) rfl rfl hh2 ?_
  have y2 : Ext w1 w2 := y1.trans x2
  refine (Delta_runs e m A c SL (tCo sone []) _ w2 (hE1.ext y2) (fun _ h => h.elim) (VT.mono k2 (hre y2))).mono ?_
  rintro _ w3 ⟨x3, cs3, rfl, h3⟩
  rw [wk1]
  have hh3 := hh2.ext x3
  have z3 := x3.size
  have k_d : VT w3 _ _ (delT SL (tCo sone [])) := h3
  have hwk2 := wk2
  generalize delT SL (tCo sone []) = D1 at *
  obtain ⟨ks3, ns3, ss3, lss3, tss3, las3, lcs3, tas3, tcs3, e3, rfl, hks3, hns3, hss3, hlls3, hlts3, hLs3, hTs3⟩ := h3.inv
  refine Lands.ret (s := .t [.a [.v (.int .u8 ks3), .v (.int .i64 ns3), .v (.string ss3), .v (.slice las3 lss3.length lcs3), .v (.slice tas3 tss3.length tcs3)], .v (.int .i64 0)]) rfl rfl hh3 ?_
  have y3 : Ext w1 w3 := y2.trans x3
  intro g4 w4 e4 x4 z4 hh4; intro w5 m5 z5 hh5; replace m5 : Upd g4 w4 w5 := m5; have x5 : Ext w3 w5 := x4.upd m5 (by omega); have q5 := x5.size
  have y5 : Ext w1 w5 := y3.trans x5
  have xd5 : Ext w3 w5 := x5
  refine (Lev_runs 0 w5).mono ?_
  rintro _ w6 ⟨rfl, x6⟩
  have hh6 := hh5.ext x6
  have z6 := x6.size
  refine Lands.ret (s := .a [.v (.int .i64 (levN 0).c), .v (.int .i64 (levN 0).p0), .v (.int .i64 (levN 0).p1), .v (.int .i64 (levN 0).p2), .v (.int .i64 (levN 0).p3)]) rfl rfl hh6 ?_
  have y6 : Ext w1 w6 := y5.trans x6
  refine OpT.buildE (E := encL) (R := (fun _ => False)) (vs := [_]) (l := [levN 0]) Tryz.zeroValue63 (.cons rfl (.nil)) Tryz.underlying30 Tryz.sizeOf63 rfl rfl (Reps.cons (⟨rfl, levN_wf (by simp [i64ok])⟩) (Reps.nil _ _ _)) rfl rfl hh6 fun w7 g7 e7 x7 z7 o7 hh7 => ?_
  have y7 : Ext w1 w7 := y6.trans x7
  refine (Co_runs (lo := w1.heap.size) w7 y7.size (R := _) sN__rec (by decide) _ [(levN 0)] 1 (by simp [lenOk]) (fun k hk => by rcases hk.1 with h | h; exact h.elim; have := y6.size; omega) o7.sl).mono ?_
  rintro _ w8 ⟨x8, cs8, rfl, h8⟩
  have hh8 := hh7.ext x8
  have z8 := x8.size
  have k8 : VX w1.heap.size w8 _ (tCo sN__rec [(levN 0)]) := h8
  obtain ⟨ks8, ns8, ss8, lss8, tss8, las8, lcs8, tas8, tcs8, e8, rfl, hks8, hns8, hss8, hlls8, hlts8, hLs8, hTs8⟩ := h8.inv
  refine Lands.ret (s := .a [.v (.int .u8 ks8), .v (.int .i64 ns8), .v (.string ss8), .v (.slice las8 lss8.length lcs8), .v (.slice tas8 tss8.length tcs8)]) rfl rfl hh8 ?_
  have y8 : Ext w1 w8 := y7.trans x8
  refine (V_runs8 (lo := w1.heap.size) w8 y8.size 5 (by simp [i64ok])).mono ?_
  rintro _ w9 ⟨x9, cs9, rfl, h9⟩
  have hh9 := hh8.ext x9
  have z9 := x9.size
  have k9 : VX w1.heap.size w9 _ (tV 5) := h9
  obtain ⟨ks9, ns9, ss9, lss9, tss9, las9, lcs9, tas9, tcs9, e9, rfl, hks9, hns9, hss9, hlls9, hlts9, hLs9, hTs9⟩ := h9.inv
  refine Lands.ret (s := .a [.v (.int .u8 ks9), .v (.int .i64 ns9), .v (.string ss9), .v (.slice las9 lss9.length lcs9), .v (.slice tas9 tss9.length tcs9)]) rfl rfl hh9 ?_
  have y9 : Ext w1 w9 := y8.trans x9
  replace k8 := VX.ext k8 x9
  refine (V_runs8 (lo := w1.heap.size) w9 y9.size 6 (by simp [i64ok])).mono ?_
  rintro _ w10 ⟨x10, cs10, rfl, h10⟩
  have hh10 := hh9.ext x10
  have z10 := x10.size
  have k10 : VX w1.heap.size w10 _ (tV 6) := h10
  obtain ⟨ks10, ns10, ss10, lss10, tss10, las10, lcs10, tas10, tcs10, e10, rfl, hks10, hns10, hss10, hlls10, hlts10, hLs10, hTs10⟩ := h10.inv
  refine Lands.ret (s := .a [.v (.int .u8 ks10), .v (.int .i64 ns10), .v (.string ss10), .v (.slice las10 lss10.length lcs10), .v (.slice tas10 tss10.length tcs10)]) rfl rfl hh10 ?_
  have y10 : Ext w1 w10 := y9.trans x10
  replace k8 := VX.ext k8 x10
  replace k9 := VX.ext k9 x10
  refine (V_runs8 (lo := w1.heap.size) w10 y10.size 7 (by simp [i64ok])).mono ?_
  rintro _ w11 ⟨x11, cs11, rfl, h11⟩
  have hh11 := hh10.ext x11
  have z11 := x11.size
  have k11 : VX w1.heap.size w11 _ (tV 7) := h11
  obtain ⟨ks11, ns11, ss11, lss11, tss11, las11, lcs11, tas11, tcs11, e11, rfl, hks11, hns11, hss11, hlls11, hlts11, hLs11, hTs11⟩ := h11.inv
  refine Lands.ret (s := .a [.v (.int .u8 ks11), .v (.int .i64 ns11), .v (.string ss11), .v (.slice las11 lss11.length lcs11), .v (.slice tas11 tss11.length tcs11)]) rfl rfl hh11 ?_
  have y11 : Ext w1 w11 := y10.trans x11
  replace k8 := VX.ext k8 x11
  replace k9 := VX.ext k9 x11
  replace k10 := VX.ext k10 x11
  refine (Num_runs (lo := w1.heap.size) w11 y11.size 1 (by omega)).mono ?_
  rintro _ w12 ⟨x12, cs12, rfl, h12⟩
  have hh12 := hh11.ext x12
  have z12 := x12.size
  have k12 : VX w1.heap.size w12 _ (tNum 1) := h12
  obtain ⟨ks12, ns12, ss12, lss12, tss12, las12, lcs12, tas12, tcs12, e12, rfl, hks12, hns12, hss12, hlls12, hlts12, hLs12, hTs12⟩ := h12.inv
  refine Lands.ret (s := .a [.v (.int .u8 ks12), .v (.int .i64 ns12), .v (.string ss12), .v (.slice las12 lss12.length lcs12), .v (.slice tas12 tss12.length tcs12)]) rfl rfl hh12 ?_
  have y12 : Ext w1 w12 := y11.trans x12
  replace k8 := VX.ext k8 x12
  replace k9 := VX.ext k9 x12
  replace k10 := VX.ext k10 x12
  replace k11 := VX.ext k11 x12
  refine OpT.buildE (E := encT) (R := (fun k => w1.heap.size ≤ k ∧ k < w12.heap.size)) (vs := [_, _, _, _]) (l := [(tV 5), (tV 6), (tV 7), (tNum 1)]) Tryz.zeroValue33 (.cons rfl (.cons rfl (.cons rfl (.cons rfl (.nil))))) Tryz.underlying31 Tryz.sizeOf33 rfl rfl (Reps.cons k9 (Reps.cons k10 (Reps.cons k11 (Reps.cons k12 (Reps.nil _ _ _))))) rfl rfl hh12 fun w13 g13 e13 x13 z13 o13 hh13 => ?_
  have y13 : Ext w1 w13 := y12.trans x13
  replace k8 := VX.ext k8 x13
  refine (A_runs (lo := w1.heap.size) w13 y13.size (R := _) (tCo sN__rec [(levN 0)]) _ _ [(tV 5), (tV 6), (tV 7), (tNum 1)] 4 k8 (fun k hk => by rcases hk.1 with h | h; exact h.1; have := y12.size; omega) o13.sl (by simp [lenOk])).mono ?_
  rintro _ w14 ⟨x14, cs14, rfl, h14⟩
  have hh14 := hh13.ext x14
  have z14 := x14.size
  have k14 : VX w1.heap.size w14 _ (apT (tCo sN__rec [(levN 0)]) [(tV 5), (tV 6), (tV 7), (tNum 1)]) := h14
  obtain ⟨ks14, ns14, ss14, lss14, tss14, las14, lcs14, tas14, tcs14, e14, rfl, hks14, hns14, hss14, hlls14, hlts14, hLs14, hTs14⟩ := h14.inv
  refine Lands.ret (s := .a [.v (.int .u8 ks14), .v (.int .i64 ns14), .v (.string ss14), .v (.slice las14 lss14.length lcs14), .v (.slice tas14 tss14.length tcs14)]) rfl rfl hh14 ?_
  have y14 : Ext w1 w14 := y13.trans x14
  have k_t : VX w1.heap.size w14 _ tRec1 := k14
  intro g15 w15 e15 x15 z15 hh15; intro w16 m16 z16 hh16; replace m16 : Upd g15 w15 w16 := m16; have x16 : Ext w14 w16 := x15.upd m16 (by omega); have q16 := x16.size
  have y16 : Ext w1 w16 := y14.trans x16
  replace k_t := VX.ext k_t x16
  refine vcZ (Major_runs e m A c SL tRec1 _ w16 (hE1.ext y16) (fun _ h => h.elim) (VT.mono k_t (hre y16)) SL_nok) hh16 fun w17 x17 z17 hh17 => ?_
  rw [wk3, wk4]
  have y17 : Ext w1 w17 := y16.trans x17
  have hI5 := wk5
  have hI6 := wk6
  have hI7 := wk7
  have hI8 := wk8
  have hE17 := hE1.ext y17
  have hX17 : ∀ k, False → k < w17.heap.size := fun _ h => h.elim
  have k_u : VT w17 (RdE w17 (fun _ => False) e m A) _ tRec1 := VT.mono (VX.ext k_t x17) (hre y17)
  refine vFlow_mk 8 (RdE w17 (fun _ => False) e m A) [dEq (.pointer (some ⟨e, 0, none⟩)), .T tRec1, .T (tNum 1), dTI (RdE w17 (fun _ => False) e m A) (iot SL tRec1 (tNum 1)).1 (iot SL tRec1 (tNum 1)).2, dTI (RdE w17 (fun _ => False) e m A) (iot SL tRec1 (tNum 1)).1 (iot SL tRec1 (tNum 1)).2, .T (iot SL tRec1 (tNum 1)).1, dEq (.int .i64 (iot SL tRec1 (tNum 1)).2), .A] rfl fun w18 x18 z18 hh18 => ?_
  refine And.intro (fun vs Rs w2 x hh hR_  => ⟨Ext.refl _, rfl⟩) ?_
  refine And.intro (fun vs Rs w2 x hh hR_  => ⟨Ext.refl _, flLoadE k_u (x18.trans x) RdE.lt⟩) ?_
  refine And.intro (fun vs Rs w2 x hh hR_  => flCall (Num_d 1 (by omega)) hh fun v w3 _ q => DV.mono (R' := fun k => w2.heap.size ≤ k ∧ k < w3.heap.size) _ (fun k h => h) (Ext.refl _) q) ?_
  refine And.intro (fun vs Rs w2 x hh hR_ h1 h2 h3 => flCall (Iota_d hE17 hX17 SL_nok (x18.trans x) (fun k h => by have := hR_ _ k h; omega) (fun k h => by have := hR_ _ k h; omega) h1 h2 h3) hh fun v w3 _ q => DV.mono (R' := fun k => Rs 0 k ∨ (Rs 1 k ∨ (Rs 2 k ∨ (w2.heap.size ≤ k ∧ k < w3.heap.size)))) _ (fun k => fun h => h.elim (fun h => .inr (.inl h)) (fun h => h.elim (fun h => .inr (.inr (.inl h))) (fun h => .inr (.inr (.inr (h)))))) (Ext.refl _) q) ?_
  refine And.intro (fun vs Rs w2 x hh hR_ h1 => ⟨Ext.refl _, DV.mono _ (fun k h => .inl h) (Ext.refl _) h1⟩) ?_
  refine And.intro (fun vs Rs w2 x hh hR_ h1 => by
      obtain ⟨cr, e4, k4_⟩ := h1
      obtain ⟨vs', rfl⟩ := fl_at e4
      exact ⟨Ext.refl _, cr, rfl, k4_.mono fun k hk => ⟨hk.1.imp id .inl, hk.2⟩⟩) ?_
  refine And.intro (fun vs Rs w2 x hh hR_ h1 => by
      obtain ⟨cr, e4, k4_⟩ := h1
      obtain ⟨vs', rfl⟩ := fl_at e4
      exact ⟨Ext.refl _, rfl⟩) ?_
  refine And.intro (fun vs Rs w2 x hh hR_  => by
      intro g w3 e x3 z3 hh3
      exact ⟨x3, g, rfl, ⟨by omega, by omega⟩, hh3.box 2 _ rfl⟩) ?_
  intro vs Os w19 x19 hh19 hp hO hd
  have q19 := x19.size
  have p19 : (DV.T (iot SL tRec1 (tNum 1)).1).rep _ _ _ _ := hp 5 (by omega)
  have pe19_6 : vs 6 = (.int .i64 (iot SL tRec1 (tNum 1)).2) := hp 6 (by omega)
  have pa19 : DV.A.rep _ _ _ _ := hp 7 (by omega)
  obtain ⟨cs19, es19, h19⟩ := p19
  obtain ⟨g19, eg19, hg19, bg19⟩ := pa19
  replace hg19 := flCum_own (by rfl) hg19
  have gO19 := hO _ _ hg19
  have h19x := h19
  obtain ⟨ks19, ns19, ss19, lss19, tss19, las19, lcs19, tas19, tcs19, e19, rfl, hks19, hns19, hss19, hlls19, hlts19, hLs19, hTs19⟩ := h19.inv
  rw [wk5] at pe19_6
  generalize (iot SL tRec1 (tNum 1)).1 = I at *
  refine Exists.intro [g19] (Exists.intro _ (Exists.intro [.v (vs 0), .v (vs 1), .v (vs 2), .v (vs 3), .v (vs 4), .a [.v (.int .u8 ks19), .v (.int .i64 ns19), .v (.string ss19), .v (.slice las19 lss19.length lcs19), .v (.slice tas19 tss19.length tcs19)], .v (.int .i64 0), .p 2 0] ⟨Holds.add hh19 (c := [.v (.int .u8 0), .v (.int .i64 0), .v (.string noS), .v (.slice none 0 0), .v (.slice none 0 0)]) (fun i hi he => by have := hh18.lt i hi; omega) gO19.2 bg19 rfl, rfl, by rw [show (List.range 8).map vs = [vs 0, vs 1, vs 2, vs 3, vs 4, vs 5, vs 6, vs 7] from rfl, eg19, es19, pe19_6]; rfl, ?_⟩))
  intro w20 m20 z20 hh20
  replace m20 : Upd g19 w19 w20 := m20
  have q20 := m20.size
  have x17_20 : Ext w17 w20 := x18.trans (x19.upd m20 (by omega))
  have k20 : VT w20 (RdE w20 (fun _ => False) e m A) _ _ := (flStoredE h19x m20 (flCum_no (s := 5) (A := 7) (by decide) (by rfl) hd hg19) (fun hb => by have := hb.1.1; omega)).mono fun k hk => by
    rcases hk.1 with h | ⟨q, _, hq⟩
    · exact RdE.ext x17_20 k h
    · have := hO q k hq; exact RdE.new hE17 hX17 k (by omega) (by omega)
  have y20 : Ext w1 w20 := y17.trans x17_20
  have k_i : VT w20 (RdE w20 (fun _ => False) e m A) _ I := k20
  refine (Co0_runs (lo := w1.heap.size) w20 y20.size sPair__mk (by decide)).mono ?_
  rintro _ w21 ⟨x21, cs21, rfl, h21⟩
  have hh21 := hh20.ext x21
  have z21 := x21.size
  have k21 : VX w1.heap.size w21 _ (tCo sPair__mk []) := h21
  obtain ⟨ks21, ns21, ss21, lss21, tss21, las21, lcs21, tas21, tcs21, e21, rfl, hks21, hns21, hss21, hlls21, hlts21, hLs21, hTs21⟩ := h21.inv
  refine Lands.ret (s := .a [.v (.int .u8 ks21), .v (.int .i64 ns21), .v (.string ss21), .v (.slice las21 lss21.length lcs21), .v (.slice tas21 tss21.length tcs21)]) rfl rfl hh21 ?_
  have y21 : Ext w1 w21 := y20.trans x21
  refine (N_runs (lo := w1.heap.size) w21 y21.size).mono ?_
  rintro _ w22 ⟨x22, cs22, rfl, h22⟩
  have hh22 := hh21.ext x22
  have z22 := x22.size
  have k22 : VX w1.heap.size w22 _ tN := h22
  obtain ⟨ks22, ns22, ss22, lss22, tss22, las22, lcs22, tas22, tcs22, e22, rfl, hks22, hns22, hss22, hlls22, hlts22, hLs22, hTs22⟩ := h22.inv
  refine Lands.ret (s := .a [.v (.int .u8 ks22), .v (.int .i64 ns22), .v (.string ss22), .v (.slice las22 lss22.length lcs22), .v (.slice tas22 tss22.length tcs22)]) rfl rfl hh22 ?_
  have y22 : Ext w1 w22 := y21.trans x22
  replace k21 := VX.ext k21 x22
  refine (N_runs (lo := w1.heap.size) w22 y22.size).mono ?_
  rintro _ w23 ⟨x23, cs23, rfl, h23⟩
  have hh23 := hh22.ext x23
  have z23 := x23.size
  have k23 : VX w1.heap.size w23 _ tN := h23
  obtain ⟨ks23, ns23, ss23, lss23, tss23, las23, lcs23, tas23, tcs23, e23, rfl, hks23, hns23, hss23, hlls23, hlts23, hLs23, hTs23⟩ := h23.inv
  refine Lands.ret (s := .a [.v (.int .u8 ks23), .v (.int .i64 ns23), .v (.string ss23), .v (.slice las23 lss23.length lcs23), .v (.slice tas23 tss23.length tcs23)]) rfl rfl hh23 ?_
  have y23 : Ext w1 w23 := y22.trans x23
  replace k21 := VX.ext k21 x23
  replace k22 := VX.ext k22 x23
  refine (V_runs8 (lo := w1.heap.size) w23 y23.size 1 (by simp [i64ok])).mono ?_
  rintro _ w24 ⟨x24, cs24, rfl, h24⟩
  have hh24 := hh23.ext x24
  have z24 := x24.size
  have k24 : VX w1.heap.size w24 _ (tV 1) := h24
  obtain ⟨ks24, ns24, ss24, lss24, tss24, las24, lcs24, tas24, tcs24, e24, rfl, hks24, hns24, hss24, hlls24, hlts24, hLs24, hTs24⟩ := h24.inv
  refine Lands.ret (s := .a [.v (.int .u8 ks24), .v (.int .i64 ns24), .v (.string ss24), .v (.slice las24 lss24.length lcs24), .v (.slice tas24 tss24.length tcs24)]) rfl rfl hh24 ?_
  have y24 : Ext w1 w24 := y23.trans x24
  replace k21 := VX.ext k21 x24
  replace k22 := VX.ext k22 x24
  replace k23 := VX.ext k23 x24
  refine (V_runs8 (lo := w1.heap.size) w24 y24.size 2 (by simp [i64ok])).mono ?_
  rintro _ w25 ⟨x25, cs25, rfl, h25⟩
  have hh25 := hh24.ext x25
  have z25 := x25.size
  have k25 : VX w1.heap.size w25 _ (tV 2) := h25
  obtain ⟨ks25, ns25, ss25, lss25, tss25, las25, lcs25, tas25, tcs25, e25, rfl, hks25, hns25, hss25, hlls25, hlts25, hLs25, hTs25⟩ := h25.inv
  refine Lands.ret (s := .a [.v (.int .u8 ks25), .v (.int .i64 ns25), .v (.string ss25), .v (.slice las25 lss25.length lcs25), .v (.slice tas25 tss25.length tcs25)]) rfl rfl hh25 ?_
  have y25 : Ext w1 w25 := y24.trans x25
  replace k21 := VX.ext k21 x25
  replace k22 := VX.ext k22 x25
  replace k23 := VX.ext k23 x25
  replace k24 := VX.ext k24 x25
  refine OpT.buildE (E := encT) (R := (fun k => w1.heap.size ≤ k ∧ k < w25.heap.size)) (vs := [_, _, _, _]) (l := [tN, tN, (tV 1), (tV 2)]) Tryz.zeroValue33 (.cons rfl (.cons rfl (.cons rfl (.cons rfl (.nil))))) Tryz.underlying31 Tryz.sizeOf33 rfl rfl (Reps.cons k22 (Reps.cons k23 (Reps.cons k24 (Reps.cons k25 (Reps.nil _ _ _))))) rfl rfl hh25 fun w26 g26 e26 x26 z26 o26 hh26 => ?_
  have y26 : Ext w1 w26 := y25.trans x26
  replace k21 := VX.ext k21 x26
  refine (A_runs (lo := w1.heap.size) w26 y26.size (R := _) (tCo sPair__mk []) _ _ [tN, tN, (tV 1), (tV 2)] 4 k21 (fun k hk => by rcases hk.1 with h | h; exact h.1; have := y25.size; omega) o26.sl (by simp [lenOk])).mono ?_
  rintro _ w27 ⟨x27, cs27, rfl, h27⟩
  have hh27 := hh26.ext x27
  have z27 := x27.size
  have k27 : VX w1.heap.size w27 _ (apT (tCo sPair__mk []) [tN, tN, (tV 1), (tV 2)]) := h27
  obtain ⟨ks27, ns27, ss27, lss27, tss27, las27, lcs27, tas27, tcs27, e27, rfl, hks27, hns27, hss27, hlls27, hlts27, hLs27, hTs27⟩ := h27.inv
  refine Lands.ret (s := .a [.v (.int .u8 ks27), .v (.int .i64 ns27), .v (.string ss27), .v (.slice las27 lss27.length lcs27), .v (.slice tas27 tss27.length tcs27)]) rfl rfl hh27 ?_
  have y27 : Ext w1 w27 := y26.trans x27
  refine (Field_runs e m A c SL sPair 1 (by simp [i64ok]) tMk12 _ w27 (hE1.ext y27) (fun _ h => h.elim) (VT.mono k27 (hre y27)) SL_nok).mono ?_
  rintro _ w28 ⟨x28, ⟨cf, rfl, hf⟩⟩
  have hF2 := wk10
  rw [wk9]
  have hh28 := hh27.ext x28
  have z28 := x28.size
  generalize fieldT SL sPair 1 tMk12 = F at *
  obtain ⟨kf, nf, sf, lsf, tsf, laf, lcf, taf, tcf, ef, rfl, hkf, hnf, hsf, hllf, hltf, hLf, hTf⟩ := hf.inv
  have hnf2 : nf = 2 := by rw [← hF2, ef]; rfl
  subst hnf2
  refine Lands.ret (s := .t [.a [.v (.int .u8 kf), .v (.int .i64 2), .v (.string sf), .v (.slice laf lsf.length lcf), .v (.slice taf tsf.length tcf)], .v (.bool true)]) rfl rfl hh28 ?_
  have y28 : Ext w1 w28 := y27.trans x28
  intro g29 w29 e29 x29 z29 hh29; intro w30 m30 z30 hh30; replace m30 : Upd g29 w29 w30 := m30; have x30 : Ext w28 w30 := x29.upd m30 (by omega); have q30 := x30.size
  have y30 : Ext w1 w30 := y28.trans x30
  refine (Record_runs e m A c SL sPair w30 (hE1.ext y30) (fun _ h => h.elim)).mono ?_
  rintro _ w31 ⟨x31, ⟨cr, rfl, hr⟩⟩
  have hR1 := wk12
  rw [wk11]
  have hh31 := hh30.ext x31
  have z31 := x31.size
  generalize recdI SL sPair = Y at *
  obtain ⟨ctY, cvY, raY, rcY, rfl, htyY, hvlY, hruY, hrlY, hokY⟩ := hr; obtain ⟨kYt, nYt, sYt, lsYt, tsYt, laYt, lcYt, taYt, tcYt, etyY, rfl, hkYt, hnYt, hsYt, hllYt, hltYt, hLYt, hTYt⟩ := htyY.inv; obtain ⟨kYv, nYv, sYv, lsYv, tsYv, laYv, lcYv, taYv, tcYv, evlY, rfl, hkYv, hnYv, hsYv, hllYv, hltYv, hLYv, hTYv⟩ := hvlY.inv
  refine Lands.ret (s := .t [.a [.v (.int .u8 Y.kind), .v (.string Y.name), .v (.int .i64 Y.params), .v (.int .u8 kYt), .v (.int .i64 nYt), .v (.string sYt), .v (.slice laYt lsYt.length lcYt), .v (.slice taYt tsYt.length tcYt), .v (.int .u8 kYv), .v (.int .i64 nYv), .v (.string sYv), .v (.slice laYv lsYv.length lcYv), .v (.slice taYv tsYv.length tcYv), .v (.int .i64 Y.height), .v (.string Y.block), .v (.string Y.of_), .v (.int .i64 Y.fixed), .v (.int .i64 Y.index), .v (.int .i64 Y.no), .v (.int .i64 Y.fields), .v (.int .i64 Y.motives), .v (.int .i64 Y.minors), .v (.slice raY Y.rules.length rcY), .v (.int .i64 Y.ctors), .v (.bool Y.record)], .v (.bool true)]) rfl rfl hh31 ?_
  have y31 : Ext w1 w31 := y30.trans x31
  intro g32 w32 e32 x32 z32 hh32; intro w33 m33 z33 hh33; replace m33 : Upd g32 w32 w33 := m33; have x33 : Ext w31 w33 := x32.upd m33 (by omega); have q33 := x33.size
  have y33 : Ext w1 w33 := y31.trans x33
  have x2033 : Ext w20 w33 := (x21.trans (x22.trans (x23.trans (x24.trans (x25.trans (x26.trans (x27.trans (x28.trans (x30.trans (x31.trans x33))))))))))
  refine (rSpine_r I _ _ w33 (VT.re k_i x2033) (may_nodes hI8) (Nat.le_trans (may_size hI8) (by omega)) RdE.lt).mono ?_
  rintro _ w34 ⟨x34, ch, Al, cl, los, rfl, hhd, hlo, ho⟩
  have hh34 := hh33.ext x34
  have z34 := x34.size
  obtain ⟨kh, nh, sh, lsh, tsh, lah, lch, tah, tch, eh, rfl, hkh, hnh, hsh, hllh, hlth, hLh, hTh⟩ := hhd.inv
  have hkh : kh = 5 := by rw [← hI6, eh]; rfl
  subst hkh
  refine Lands.ret (s := .t [.a [.v (.int .u8 5), .v (.int .i64 nh), .v (.string sh), .v (.slice lah lsh.length lch), .v (.slice tah tsh.length tch)], .v (.slice Al 4 cl)]) (by rw [← hI7]; rfl) rfl hh34 ?_
  have y34 : Ext w1 w34 := y33.trans x34
  intro g35 w35 e35 x35 z35 hh35; intro w36 m36 z36 hh36; replace m36 : Upd g35 w35 w36 := m36; have x36 : Ext w34 w36 := x35.upd m36 (by omega); have q36 := x36.size
  have y36 : Ext w1 w36 := y34.trans x36
  refine vDrw_mk [4, 5] (.one 0 (.one 1 (.one 2 (.one 3 (.one 4 (.one 5 (.one 6 (.one 7 (.one 8 (.one 9 (.one 10 (.one 11 (.one 12 (.one 13 (.one 14 (.one 15 (.one 16 (.one 17 (.one 18 (.one 19 (.one 20 (.one 21 (.one 22 (.one 23 (.one 24 (.one 25 (.one 26 (.one 27 (.one 28 (.one 29 (.one 30 (.one 31 (.one 32 (.one 33 (.one 34 (.one 35 (.one 36 (.one 37 (.one 38 (.one 39 (.one 40 (.one 41 (.one 42 (.one 43 (.one 44 .nil))))))))))))))))))))))))))))))))))))))))))))) rfl fun w37 x37 hh37 => ?_
  refine vDrA [0, 1, 3, 7, 7, 31, 63, 127, 255, 511, 1023, 2047, 4095, 8191, 16383, 32767, 65535, 131071, 262143, 524287, 1048575, 2097151, 4194303, 8388607, 16777215, 33554431, 67108863, 134217727, 268435455, 536870911, 1073741823, 2147483647, 4294967295, 8589934591, 17179869183, 34359738367, 68719476735, 137438953471, 274877906943, 549755813887, 1099511627775, 2199023255551, 4398046511103, 8796093022207, 17592186044415] (by decide +kernel) ?_
  have z37 := x37.size
  have y37 : Ext w1 w37 := y36.trans x37
  have xd37 : Ext w3 w37 := xd5.trans (x6.trans (x7.trans (x8.trans (x9.trans (x10.trans (x11.trans (x12.trans (x13.trans (x14.trans (x16.trans (x17.trans (x17_20.trans (x2033.trans (x34.trans (x36.trans x37)))))))))))))))
  refine vyes rfl ?_
  refine (Num_runs (lo := w1.heap.size) w37 y37.size 1 (by omega)).mono ?_
  rintro _ w38 ⟨x38, cs38, rfl, h38⟩
  have hh38 := hh37.ext x38
  have z38 := x38.size
  have k38 : VX w1.heap.size w38 _ (tNum 1) := h38
  obtain ⟨ks38, ns38, ss38, lss38, tss38, las38, lcs38, tas38, tcs38, e38, rfl, hks38, hns38, hss38, hlls38, hlts38, hLs38, hTs38⟩ := h38.inv
  refine Lands.ret (s := .a [.v (.int .u8 ks38), .v (.int .i64 ns38), .v (.string ss38), .v (.slice las38 lss38.length lcs38), .v (.slice tas38 tss38.length tcs38)]) rfl rfl hh38 ?_
  refine And.intro x38 ?_
  refine vyes rfl ?_
  refine vcZ (rSame_runs D1 (tNum 1) _ _ w38 _ _ (VT.ext k_d (xd37.trans x38)) k38) hh38 fun w39 x39 z39 hh39 => ?_
  rw [hwk2]
  refine ⟨?_, x1.trans (y37.trans (x38.trans x39))⟩
  refine congrArg Value.bool (?_ : _ = true)
  simp [sel, strB, hR1, sPair__mk]
end Go.Proofs.YtfljbnhhkdaobaaGreat
