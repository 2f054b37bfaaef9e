/-
  The document's names and free variables of a term.
-/
import Derived.Test.YtfljbnhhkdaobaaGreatA8
namespace Go.Proofs.YtfljbnhhkdaobaaGreat
open Go Go.RowKit Go.Proofs.Bw
set_option linter.unusedVariables false
set_option linter.unusedSimpArgs false
theorem gY {b : Bool} (h : b = true) : (true && b) = true := by rw [h]; rfl
theorem gN {b : Bool} (h : b = false) : (true && b) = false := by rw [h]; rfl
set_option maxRecDepth 20000 in
theorem rBinds_runs (k n : Int) (s : ByteArray) (ls : List L) (ts : List T) (i : Nat) (cs : List Value) (w : World) (R : Nat → Prop) (hv : VT w R cs (.mk k n s ls ts)) :
    Runs Tryz.prog 174 #[.agg cs.toArray, .int .i64 i] w fun v w' => v = .int .i64 (binds k i) ∧ Ext w w' := by
  obtain ⟨k', n', s', ls', ts', la, lc, ta, tc, e, rfl, hk, hn, hs, hll, hlt, hL, hT⟩ := hv.inv
  injection e with e1 e2 e3 e4 e5
  subst e1; subst e2; subst e3; subst e4; subst e5
  refine Runs.of_vc (ρ := []) cx_ok [0, 1, 2, 4, 25] [.a [.v (.int .u8 k), .v (.int .i64 n), .v (.string s), .v (.slice la ls.length lc), .v (.slice ta ts.length tc)], .v _] Tryz.func174 rfl rfl rfl (Holds.nil w) ?_
  intro g1 w1 e1 x1 z1 hh1
  have key : sel (sel (sel (decide (k = 5)) true (decide (k = 6))) (decide ((i : Int) = 1)) false) true (sel (decide (k = 7)) (decide ((i : Int) = 2)) false) = decide ((k = 5 ∨ k = 6) ∧ i = 1 ∨ k = 7 ∧ i = 2) := by
    have e1 : decide ((i : Int) = 1) = decide (i = 1) := decide_eq_decide.2 (by omega)
    have e2 : decide ((i : Int) = 2) = decide (i = 2) := decide_eq_decide.2 (by omega)
    rw [e1, e2]
    by_cases h5 : k = 5 <;> by_cases h6 : k = 6 <;> by_cases h7 : k = 7 <;> by_cases j1 : i = 1 <;> by_cases j2 : i = 2 <;> simp [sel, h5, h6, h7, j1, j2]
  refine Or.inl (And.intro (fun h => ?_) (fun h => ?_))
  · replace h := of_decide_eq_true (key.symm.trans h)
    refine ⟨?_, x1⟩
    unfold binds; rw [if_pos h]; rfl
  · replace h := of_decide_eq_false (key.symm.trans h)
    refine ⟨?_, x1⟩
    unfold binds; rw [if_neg h]; rfl
theorem free_le (t : T) : ∀ a, nodes t = true → 0 ≤ a → 0 ≤ free t a ∧ free t a ≤ 1048577 := by
  refine T.rec (motive_1 := fun t => ∀ a, nodes t = true → 0 ≤ a → 0 ≤ free t a ∧ free t a ≤ 1048577) (motive_2 := fun ts => ∀ (k a : Int) (i : Nat), nodess ts = true → 0 ≤ a → 0 ≤ frees k ts i a ∧ frees k ts i a ≤ 1048577) ?_ ?_ ?_ t
  · intro k n s ls ts ih a h ha
    obtain ⟨h1, h2⟩ := nodes_mk h
    simp only [free]
    split
    · have h3 := ((nodeB_iff _ _ _ _ _).1 h1).2.2.2.2.1
      rename_i hk
      rw [if_pos hk] at h3
      omega
    · exact ih k a 0 h2 ha
  · intro k a i _ _; simp [frees]
  · intro t r h1 h2 k a i h ha
    simp only [nodess, Bool.and_eq_true] at h
    have b := binds_le k i
    have := h1 (a + binds k i) h.1 (by omega)
    have := h2 k a (i + 1) h.2 ha
    simp only [frees]; omega
set_option maxRecDepth 20000 in
theorem rfree_runs (t : T) : ∀ (cs : List Value) (a : Int) (w : World) (R : Nat → Prop) (hv : VT w R cs t) (hm : nodes t = true) (ha : 0 ≤ a ∧ a + depth t ≤ 1099511627776),
    Runs Tryz.prog 157 #[.agg cs.toArray, .int .i64 a] w fun v w' => v = .int .i64 (free t a) ∧ Ext w w' := by
  induction t using T.ind with
  | h k n s ls ts ih =>
  intro cs a w R hv hm ha
  have hv0 := hv
  obtain ⟨k', n', s', ls', ts', la, lc, ta, tc, e, rfl, hk, hn, hs, hll, hlt, hL, hT⟩ := hv.inv
  injection e with e1 e2 e3 e4 e5
  subst e1; subst e2; subst e3; subst e4; subst e5
  have hd := depth_pos (.mk k n s ls ts)
  refine Runs.of_vc (ρ := []) cx_ok [0, 1, 2, 4, 5, 6, 9, 20] [.a [.v (.int .u8 k), .v (.int .i64 n), .v (.string s), .v (.slice la ls.length lc), .v (.slice ta ts.length tc)], .v _] Tryz.func157 rfl rfl rfl (Holds.nil w) ?_
  intro g1 w1 e1 x1 z1 hh1
  obtain ⟨hn1, hn2⟩ := nodes_mk hm
  have hns := node_small hn1
  refine Or.inl (And.intro (fun h => ?_) (fun h => ?_))
  · have hk2 : k = 2 := of_decide_eq_true h
    have h3 := ((nodeB_iff _ _ _ _ _).1 hn1).2.2.2.2.1
    rw [if_pos hk2] at h3
    refine vsd (by simp only [inKind]; omega) ?_
    refine vsd (by simp only [inKind]; omega) ?_
    have hf : free (.mk k n s ls ts) a = max 0 (n + 1 - a) := by simp only [free]; rw [if_pos hk2]
    refine ⟨?_, x1⟩
    rw [hf]
    exact congrArg (Value.int .i64) (show (if n + 1 - a > 0 then n + 1 - a else 0) = max 0 (n + 1 - a) by split <;> omega)
  · have hk2 : k ≠ 2 := of_decide_eq_false h
    have hf : free (.mk k n s ls ts) a = frees k ts 0 a := by simp only [free]; rw [if_neg hk2]
    refine vLoop_upd (σ := Nat) [5, 6, 16, 17, 18, 19, 20, 21, 22, 23, 24, 25, 26, 27, 28, 29, 30, 31, 32, 33, 34, 35] (fun i => [(5, .v (.int .i64 (frees k (ts.take i) 0 a))), (6, .v (.int .i64 i))]) [] (fun _ => []) (fun i w' => Ext w w' ∧ i ≤ ts.length) (fun i => ts.length - i) 0 (fun _ => ⟨rfl, rfl⟩)
      ⟨(by repeat (first | exact trivial | refine And.intro rfl ?_)), (by repeat (first | exact trivial | refine And.intro rfl ?_)), (by repeat (first | exact trivial | refine And.intro rfl ?_)), (by repeat (first | exact trivial | refine And.intro rfl ?_)), x1, Nat.zero_le _⟩ ?_
    rintro i w2 hh2 ⟨x2, hi⟩
    refine Or.inl (And.intro (fun h => ?_) (fun h => ?_))
    · have hil : i < ts.length := by have := of_decide_eq_true h; omega
      obtain ⟨a1, cs1, ha1, _, hrow, hv1⟩ := (sl_T (hT.ext x2)).at hil
      have hft := frees_take k a ts i hil
      have hni := nodess_at hn2 i hil
      have hdm := depth_mem ts k n s ls i hil
      have b := binds_le k i
      have hfl := free_le ts[i] (a + binds k i) hni (by omega)
      have ihi := ih ts[i] (List.getElem_mem hil)
      have hfl2 : 0 ≤ frees k (ts.take i) 0 a := frees_nn k a _ 0
      generalize ts[i] = x at *
      have hv1 : VT w2 R cs1 x := hv1
      have hv10 := hv1
      obtain ⟨kx, nx, sx, lsx, tsx, lax, lcx, tax, tcx, ex, rfl, hkx, hnx, hsx, hllx, hltx, hLx, hTx⟩ := hv1.inv
      refine vDrw_mk [9, 11] (.one 0 (.one 1 (.one 2 (.one 3 (.one 4 (.one 5 (.one 6 (.one 7 (.one 8 (.one 9 (.one 10 (.one 11 (.one 12 (.one 13 .nil)))))))))))))) rfl fun w3 x3 hh3 => ?_
      refine Exists.intro (.v (.pointer (some (a1.add (i * 5))))) (And.intro rfl (And.intro (fun w' xx hh => OpT.indexAddr Tryz.underlying31 Tryz.sizeOf33 rfl rfl ha1 (by simp only [lenOk] at *; omega) ⟨rfl, rfl⟩) ?_))
      refine Exists.intro (.a [.v (.int .u8 kx), .v (.int .i64 nx), .v (.string sx), .v (.slice lax lsx.length lcx), .v (.slice tax tsx.length tcx)]) (And.intro rfl (And.intro (fun w' xx hh => OpT.loadA Tryz.isAgg33 (by exact Tryz.sizeOf33) rfl (hrow.ext (x3.trans xx)) ⟨rfl, rfl⟩) ?_))
      refine vcZ (rBinds_runs k n s ls ts i _ w3 R (hv0.ext (x2.trans x3))) hh3 fun w4 x4 z4 hh4 => ?_
      refine And.intro x4 ?_
      refine vsd (by show inKind _ _; simp only [inKind]; omega) ?_
      refine vcZ (ihi _ (a + binds k i) w4 R (hv10.ext (x3.trans x4)) hni (by omega)) hh4 fun w5 x5 z5 hh5 => ?_
      refine And.intro x5 ?_
      refine vsd (by show inKind _ _; simp only [inKind]; omega) ?_
      have hmx : (if free x (a + binds k i) > frees k (ts.take i) 0 a then free x (a + binds k i) else frees k (ts.take i) 0 a) = frees k (ts.take (i + 1)) 0 a := by rw [hft]; split <;> omega
      exact Exists.intro (i + 1) ⟨by omega, esub_over ⟨by rw [← hmx]; rfl, rfl, trivial⟩ (by repeat (first | exact trivial | refine And.intro rfl ?_)), hsub_over (by repeat (first | exact trivial | refine And.intro rfl ?_)) (by repeat (first | exact trivial | refine And.intro rfl ?_)), x2.trans (x3.trans (x4.trans x5)), hil⟩
    · obtain rfl : i = ts.length := by have := of_decide_eq_false h; omega
      exact ⟨by rw [List.take_length, hf]; rfl, x2⟩
theorem rFree_runs (t : T) (cs : List Value) (w : World) (R : Nat → Prop) (hv : VT w R cs t) (hm : mayT t = true) :
    Runs Tryz.prog 133 #[.agg cs.toArray] w fun v w' => v = .int .i64 (free t 0) ∧ Ext w w' := by
  have hv0 := hv
  obtain ⟨k, n, s, ls, ts, la, lc, ta, tc, e, rfl, hk, hn, hs, hll, hlt, hL, hT⟩ := hv.inv
  refine Runs.of_vc (ρ := []) cx_ok [0, 1, 2] [.a [.v (.int .u8 k), .v (.int .i64 n), .v (.string s), .v (.slice la ls.length lc), .v (.slice ta ts.length tc)]] Tryz.func133 rfl rfl rfl (Holds.nil w) ?_
  intro g1 w1 e1 x1 z1 hh1
  have hd := ((mayT_iff t).1 hm).2.2
  refine vcZ (rfree_runs t _ 0 w1 R (hv0.ext x1) (may_nodes hm) (by omega)) hh1 fun w2 x2 z2 hh2 => ?_
  exact ⟨rfl, x1.trans x2⟩
end Go.Proofs.YtfljbnhhkdaobaaGreat

/-
  The document's names of a term.
-/
namespace Go.Proofs.YtfljbnhhkdaobaaGreat
open Go Go.RowKit Go.Proofs.Bw
set_option linter.unusedVariables false
set_option linter.unusedSimpArgs false
def lt8 (a b : ByteArray) : Bool := Op.bytesLess a.toList b.toList
def plB (s : ByteArray) : List ByteArray → Nat → Nat
  | [], i => i
  | x :: r, i => if lt8 x s = true then plB s r (i + 1) else i
theorem plB_drop (s : ByteArray) (l : List ByteArray) (i : Nat) (h : i < l.length) : plB s (l.drop i) i = if lt8 l[i] s = true then plB s (l.drop (i + 1)) (i + 1) else i := by
  rw [List.drop_eq_getElem_cons h, plB]
def withB (l : List ByteArray) (s : ByteArray) : List ByteArray := if l[plB s l 0]? = some s then l else l.take (plB s l 0) ++ [s] ++ l.drop (plB s l 0)
theorem withB_len (l : List ByteArray) (s : ByteArray) : (withB l s).length ≤ l.length + 1 := by
  unfold withB
  split
  · omega
  · simp only [List.length_append, List.length_take, List.length_drop, List.length_cons, List.length_nil]; omega
set_option maxRecDepth 20000 in
theorem rwith_runs {R : Nat → Prop} (A : Option Addr) (l : List ByteArray) (c : Nat) (s : ByteArray) (w : World) (hl : Sl encS w R A l) (hR : ∀ k, R k → k < w.heap.size) (hc : lenOk l.length c) (hsz : l.length ≤ 1000000) (hs : s.size ≤ 9223372036854775807) :
    Runs Tryz.prog 112 #[.slice A l.length c, .string s] w fun v w' => Ext w w' ∧ ∃ A' c', v = .slice A' (withB l s).length c' ∧ lenOk (withB l s).length c' ∧ Sl encS w' (fun k => k < w'.heap.size) A' (withB l s) := by
  refine Runs.of_vc (ρ := []) cx_ok [0, 1, 4, 5, 6, 18, 32] [.v _, .v _] Tryz.func112 rfl rfl rfl (Holds.nil w) ?_
  refine vLoop_upd (σ := Nat) [5, 7, 8, 9, 10, 11, 12, 13, 14, 15, 16, 17, 18, 19, 20] (fun i => [(5, .v (.int .i64 i))]) [] (fun _ => []) (fun i w' => Ext w w' ∧ i ≤ l.length ∧ plB s (l.drop i) i = plB s l 0) (fun i => l.length - i) 0 (fun _ => ⟨rfl, rfl⟩)
    ⟨(by repeat (first | exact trivial | refine And.intro rfl ?_)), (by repeat (first | exact trivial | refine And.intro rfl ?_)), (by repeat (first | exact trivial | refine And.intro rfl ?_)), (by repeat (first | exact trivial | refine And.intro rfl ?_)), Ext.refl w, Nat.zero_le _, rfl⟩ ?_
  rintro i w1 hh1 ⟨x1, hi, hp⟩
  have q1 := x1.size
  by_cases hil : i < l.length
  · obtain ⟨a1, cs1, ha1, hRa, hrow, hs1⟩ := (hl.ext x1).at hil
    obtain ⟨rfl, hs1⟩ := hs1
    have hpd := plB_drop s l i hil
    have hcc : decide ((i : Int) < (l.length : Int)) = true := decide_eq_true (by omega)
    have hgi : l[i]? = some l[i] := List.getElem?_eq_getElem hil
    generalize l[i] = y at *
    refine vyes (gY hcc) ?_
    refine OpT.indexAddr Tryz.underlying28 Tryz.sizeOf9 rfl rfl ha1 (by first | omega | (simp only [lenOk] at *; omega)) ?_; refine Lands.v hh1 ?_
    refine vyes (gY hcc) ?_
    refine OpT.load Tryz.isAgg9 rfl (hrow.cell 0 rfl) ?_; refine Lands.v hh1 ?_
    refine Or.inl (And.intro (fun h => ?_) (fun h => ?_))
    · have hlt : lt8 y s = true := by rw [hcc] at h; show Op.bytesLess _ _ = _; simpa [sel] using h
      rw [hpd, if_pos hlt] at hp
      refine vsd (by simp only [inKind]; omega) ?_
      exact Exists.intro (i + 1) ⟨by omega, esub_over (by repeat (first | exact trivial | refine And.intro rfl ?_)) (by repeat (first | exact trivial | refine And.intro rfl ?_)), hsub_over (by repeat (first | exact trivial | refine And.intro rfl ?_)) (by repeat (first | exact trivial | refine And.intro rfl ?_)), x1, hil, hp⟩
    · have hlt : lt8 y s = false := by rw [hcc] at h; show Op.bytesLess _ _ = _; simpa [sel] using h
      rw [hpd, if_neg (by rw [hlt]; decide)] at hp
      refine vyes (gY hcc) ?_
      refine OpT.indexAddr Tryz.underlying28 Tryz.sizeOf9 rfl rfl ha1 (by first | omega | (simp only [lenOk] at *; omega)) ?_; refine Lands.v hh1 ?_
      refine vyes (gY hcc) ?_
      refine OpT.load Tryz.isAgg9 rfl (hrow.cell 0 rfl) ?_; refine Lands.v hh1 ?_
      refine Or.inl (And.intro (fun h => ?_) (fun h => ?_))
      · have hys : y = s := by rw [hcc] at h; simpa [sel] using h
        have hw : withB l s = l := by unfold withB; rw [← hp, hgi, hys, if_pos rfl]
        rw [hw]
        exact ⟨x1, A, c, rfl, hc, (hl.ext x1).mono fun k hk => by have := hR k hk; omega⟩
      · have hys : ¬ y = s := by rw [hcc] at h; simpa [sel] using h
        have hw : withB l s = l.take i ++ [s] ++ l.drop i := by unfold withB; rw [← hp, hgi, if_neg (by simpa using hys)]
        have hSl := hl.ext x1
        have hlen : (l.take i ++ [s] ++ l.drop i).length = l.length + 1 := by simp only [List.length_append, List.length_take, List.length_drop, List.length_cons, List.length_nil]; omega
        have htk : (l.take i).length = i := by rw [List.length_take]; omega
        refine OpT.slicePre Tryz.underlying28 Tryz.sizeOf9 rfl (j := (i : Int)) rfl (by simp only [lenOk] at *; omega) (m := (l.take i).length) (by rw [htk]; rfl) ?_
        refine Lands.v hh1 ?_
        refine OpT.appendL (E := encS) elS1 Tryz.underlying28 Tryz.underlying28 rfl rfl rfl rfl (l3 := l.take i) (by simp) rfl (OwnE.nil encS w1 w1.heap.size _ R) (Ext.refl w1) (hSl.take i) (fun k hk _ => .inl hk) (fun k hk => by have := (fun k hk => Nat.lt_of_lt_of_le (hR k hk) q1) k hk; omega) x1 (by omega) hh1 (by repeat (first | exact trivial | refine And.intro (by omega) ?_)) (by rw [htk]; omega) fun w6 A6 c6 y6 z6 o6 hh6 => ?_
        refine OpT.buildE (E := encS) (R := R) (vs := [_]) (l := [s]) Tryz.zeroValue9 (.cons rfl (.nil)) Tryz.underlying28 Tryz.sizeOf9 rfl rfl (Reps.cons (⟨rfl, hs⟩) (Reps.nil _ _ _)) rfl rfl hh6 fun w7 g7 e7 x7 z7 o7 hh7 => ?_
        refine OpT.appendO (E := encS) elS1 Tryz.underlying28 Tryz.underlying28 rfl rfl rfl rfl (l3 := l.take i ++ [s]) rfl rfl o6 x7 o7 (by omega) (fun k hk => by have := (fun k hk => Nat.lt_of_lt_of_le (hR k hk) q1) k hk; omega) (y6.trans x7) (by omega) hh7 (by repeat (first | exact trivial | refine And.intro (by omega) ?_)) (by simp only [List.length_append, htk, List.length_cons, List.length_nil]; omega) fun w8 A8 c8 y8 z8 o8 hh8 => ?_
        have hSl8 := hl.ext y8
        refine OpT.slice Tryz.underlying28 Tryz.sizeOf9 rfl (i := (i : Int)) (j := (l.length : Int)) rfl rfl (by simp only [lenOk] at *; omega) ?_
        rw [show ((l.length : Int).toNat - (i : Int).toNat) = (l.drop i).length by rw [List.length_drop]; omega]
        refine Lands.v hh8 ?_
        refine OpT.appendL (E := encS) elS1 Tryz.underlying28 Tryz.underlying28 rfl rfl rfl rfl (l3 := l.take i ++ [s] ++ l.drop i) rfl rfl o8 (Ext.refl w8) (hSl8.cut hc.1 i) (fun k hk _ => .inl hk) (fun k hk => by have := (fun k hk => Nat.lt_of_lt_of_le (hR k hk) q1) k hk; omega) y8 (by omega) hh8 (by repeat (first | exact trivial | refine And.intro (by omega) ?_)) (by rw [hlen]; omega) fun w9 A9 c9 y9 z9 o9 hh9 => ?_
        have q9 := y9.size
        rw [hw]
        exact ⟨y9, A9, c9, rfl, o9.le, o9.sl.mono fun k hk => hk.2⟩
  · obtain rfl : i = l.length := by omega
    have hcc : decide ((l.length : Int) < (l.length : Int)) = false := decide_eq_false (by omega)
    rw [List.drop_length] at hp
    have hw : withB l s = l.take l.length ++ [s] ++ l.drop l.length := by unfold withB; rw [← hp, plB, if_neg (by simp)]
    refine vskip (gN hcc) ?_
    refine vskip (gN hcc) ?_
    refine vskip (gN hcc) ?_
    refine OpT.pickF rfl hcc rfl ?_
    refine Lands.v hh1 ?_
    refine Or.inl (And.intro (fun hx => nomatch (rfl).symm.trans hx) (fun _ => ?_))
    refine vskip (gN hcc) ?_
    refine vskip (gN hcc) ?_
    refine vskip (gN hcc) ?_
    refine OpT.pickF rfl hcc rfl ?_
    refine Lands.v hh1 ?_
    refine Or.inl (And.intro (fun hx => nomatch (rfl).symm.trans hx) (fun _ => ?_))
    have hSl := hl.ext x1
    have hlen : (l.take l.length ++ [s] ++ l.drop l.length).length = l.length + 1 := by simp only [List.length_append, List.length_take, List.length_drop, List.length_cons, List.length_nil]; omega
    have htk : (l.take l.length).length = l.length := by rw [List.length_take]; omega
    refine OpT.slicePre Tryz.underlying28 Tryz.sizeOf9 rfl (j := (l.length : Int)) rfl (by simp only [lenOk] at *; omega) (m := (l.take l.length).length) (by rw [htk]; rfl) ?_
    refine Lands.v hh1 ?_
    refine OpT.appendL (E := encS) elS1 Tryz.underlying28 Tryz.underlying28 rfl rfl rfl rfl (l3 := l.take l.length) (by simp) rfl (OwnE.nil encS w1 w1.heap.size _ R) (Ext.refl w1) (hSl.take l.length) (fun k hk _ => .inl hk) (fun k hk => by have := (fun k hk => Nat.lt_of_lt_of_le (hR k hk) q1) k hk; omega) x1 (by omega) hh1 (by repeat (first | exact trivial | refine And.intro (by omega) ?_)) (by rw [htk]; omega) fun w6 A6 c6 y6 z6 o6 hh6 => ?_
    refine OpT.buildE (E := encS) (R := R) (vs := [_]) (l := [s]) Tryz.zeroValue9 (.cons rfl (.nil)) Tryz.underlying28 Tryz.sizeOf9 rfl rfl (Reps.cons (⟨rfl, hs⟩) (Reps.nil _ _ _)) rfl rfl hh6 fun w7 g7 e7 x7 z7 o7 hh7 => ?_
    refine OpT.appendO (E := encS) elS1 Tryz.underlying28 Tryz.underlying28 rfl rfl rfl rfl (l3 := l.take l.length ++ [s]) rfl rfl o6 x7 o7 (by omega) (fun k hk => by have := (fun k hk => Nat.lt_of_lt_of_le (hR k hk) q1) k hk; omega) (y6.trans x7) (by omega) hh7 (by repeat (first | exact trivial | refine And.intro (by omega) ?_)) (by simp only [List.length_append, htk, List.length_cons, List.length_nil]; omega) fun w8 A8 c8 y8 z8 o8 hh8 => ?_
    have hSl8 := hl.ext y8
    refine OpT.slice Tryz.underlying28 Tryz.sizeOf9 rfl (i := (l.length : Int)) (j := (l.length : Int)) rfl rfl (by simp only [lenOk] at *; omega) ?_
    rw [show ((l.length : Int).toNat - (l.length : Int).toNat) = (l.drop l.length).length by rw [List.length_drop]; omega]
    refine Lands.v hh8 ?_
    refine OpT.appendL (E := encS) elS1 Tryz.underlying28 Tryz.underlying28 rfl rfl rfl rfl (l3 := l.take l.length ++ [s] ++ l.drop l.length) rfl rfl o8 (Ext.refl w8) (hSl8.cut hc.1 l.length) (fun k hk _ => .inl hk) (fun k hk => by have := (fun k hk => Nat.lt_of_lt_of_le (hR k hk) q1) k hk; omega) y8 (by omega) hh8 (by repeat (first | exact trivial | refine And.intro (by omega) ?_)) (by rw [hlen]; omega) fun w9 A9 c9 y9 z9 o9 hh9 => ?_
    have q9 := y9.size
    rw [hw]
    exact ⟨y9, A9, c9, rfl, o9.le, o9.sl.mono fun k hk => hk.2⟩
end Go.Proofs.YtfljbnhhkdaobaaGreat

/-
  The document's names of a term: the walk, and that they are the program's.
-/
namespace Go.Proofs.YtfljbnhhkdaobaaGreat
open Go Go.RowKit Go.Proofs.Bw
set_option linter.unusedVariables false
set_option linter.unusedSimpArgs false
def st1 (s : ByteArray) (l : List ByteArray) : List ByteArray := if s = noS then l else withB l s
mutual
def rnm : T → List ByteArray → List ByteArray
  | .mk _ _ s _ ts, l => rnms ts (st1 s l)
def rnms : List T → List ByteArray → List ByteArray
  | [], l => l
  | t :: r, l => rnms r (rnm t l)
end
theorem rnms_append (a b : List T) (l : List ByteArray) : rnms (a ++ b) l = rnms b (rnms a l) := by
  induction a generalizing l with
  | nil => simp [rnms]
  | cons t r ih => simp only [List.cons_append, rnms, ih]
theorem rnms_take (ts : List T) (i : Nat) (h : i < ts.length) (l : List ByteArray) : rnms (ts.take (i + 1)) l = rnm ts[i] (rnms (ts.take i) l) := by
  rw [take_snoc ts i h, rnms_append]; simp [rnms]
theorem st1_len (s : ByteArray) (l : List ByteArray) : (st1 s l).length ≤ l.length + 1 := by
  unfold st1; split
  · omega
  · exact withB_len l s
theorem rnm_len (t : T) : ∀ l, (rnm t l).length ≤ l.length + size t := by
  refine T.rec (motive_1 := fun t => ∀ l, (rnm t l).length ≤ l.length + size t) (motive_2 := fun ts => ∀ l, (rnms ts l).length ≤ l.length + sizes ts) ?_ ?_ ?_ t
  · intro k n s ls ts ih l
    have := ih (st1 s l); have := st1_len s l
    simp only [rnm, size]; omega
  · intro l; simp [rnms, sizes]
  · intro t r h1 h2 l
    have := h2 (rnm t l); have := h1 l
    simp only [rnms, sizes]; omega
theorem rnms_len (ts : List T) (l : List ByteArray) : (rnms ts l).length ≤ l.length + sizes ts := by
  induction ts generalizing l with
  | nil => simp [rnms, sizes]
  | cons t r ih =>
    have := ih (rnm t l); have := rnm_len t l
    simp only [rnms, sizes]; omega
set_option maxRecDepth 20000 in
theorem rnames_runs (t : T) : ∀ (cs : List Value) (A : Option Addr) (c : Nat) (l : List ByteArray) (w : World) (R : Nat → Prop) (hv : VT w R cs t) (hl : Sl encS w (fun k => k < w.heap.size) A l) (hc : lenOk l.length c) (hsz : l.length + size t ≤ 1000000),
    Runs Tryz.prog 79 #[.slice A l.length c, .agg cs.toArray] w fun v w' => Ext w w' ∧ ∃ A' c', v = .slice A' (rnm t l).length c' ∧ lenOk (rnm t l).length c' ∧ Sl encS w' (fun k => k < w'.heap.size) A' (rnm t l) := by
  induction t using T.ind with
  | h k n s ls ts ih =>
  intro cs A c l w R hv hl hc hsz
  obtain ⟨k', n', s', ls', ts', la, lc, ta, tc, e, rfl, hk, hn, hs, hll, hlt, hL, hT⟩ := hv.inv
  injection e with e1 e2 e3 e4 e5
  subst e1; subst e2; subst e3; subst e4; subst e5
  have hsz' : l.length + (1 + sizes ts) ≤ 1000000 := by simpa only [size] using hsz
  refine Runs.of_vc (ρ := []) cx_ok [0, 1, 3, 4, 5, 8, 17] [.v _, .a [.v (.int .u8 k), .v (.int .i64 n), .v (.string s), .v (.slice la ls.length lc), .v (.slice ta ts.length tc)]] Tryz.func79 rfl rfl rfl (Holds.nil w) ?_
  intro g1 w1 e1 x1 z1 hh1
  have hst := st1_len s l
  refine vJoin_upd (σ := Option Addr × Nat) [0, 9, 10, 11, 12] (fun q => [(0, .v (.slice q.1 (st1 s l).length q.2))]) [] (fun _ => [])
    (fun q w' => Ext w w' ∧ lenOk (st1 s l).length q.2 ∧ Sl encS w' (fun k => k < w'.heap.size) q.1 (st1 s l)) (fun _ => ⟨rfl, rfl⟩) (fun h => ?_) (fun h => ?_) ?_
  · have hne : ¬ s = noS := by simpa [noS] using h
    have hs1 : st1 s l = withB l s := if_neg hne
    refine vcV (rwith_runs A l c s w1 ((hl.ext x1).mono fun k hk => Nat.lt_of_lt_of_le hk x1.size) (fun k hk => hk) hc (by omega) (by omega)) hh1 fun v2 w2 x2 z2 hh2 p2 => ?_
    obtain ⟨A2, c2, rfl, hc2, hl2⟩ := p2
    rw [← hs1] at hc2 hl2 ⊢
    exact Exists.intro ((A2, c2)) ⟨esub_over (by repeat (first | exact trivial | refine And.intro rfl ?_)) (by repeat (first | exact trivial | refine And.intro rfl ?_)), hsub_over (by repeat (first | exact trivial | refine And.intro rfl ?_)) (by repeat (first | exact trivial | refine And.intro rfl ?_)), x1.trans x2, hc2, hl2⟩
  · have hne : s = noS := by simpa [noS] using h
    have hs1 : st1 s l = l := if_pos hne
    rw [hs1]
    exact Exists.intro ((A, c)) ⟨esub_over (by repeat (first | exact trivial | refine And.intro rfl ?_)) (by repeat (first | exact trivial | refine And.intro rfl ?_)), hsub_over (by repeat (first | exact trivial | refine And.intro rfl ?_)) (by repeat (first | exact trivial | refine And.intro rfl ?_)), x1, hc, (hl.ext x1).mono fun k hk => Nat.lt_of_lt_of_le hk x1.size⟩
  rintro ⟨A2, c2⟩ w2 hh2 ⟨x2, hc2, hl2⟩
  simp only at hc2 hl2
  have hrn : rnm (.mk k n s ls ts) l = rnms ts (st1 s l) := rfl
  rw [hrn]
  generalize st1 s l = l1 at *
  refine vLoop_upd (σ := Nat × Option Addr × Nat) [0, 5, 13, 14, 15, 16, 17, 18, 19, 20, 21, 22, 23, 24, 25, 26] (fun q => [(5, .v (.int .i64 q.1)), (0, .v (.slice q.2.1 (rnms (ts.take q.1) l1).length q.2.2))]) [] (fun _ => [])
    (fun q w' => Ext w w' ∧ q.1 ≤ ts.length ∧ lenOk (rnms (ts.take q.1) l1).length q.2.2 ∧ Sl encS w' (fun k => k < w'.heap.size) q.2.1 (rnms (ts.take q.1) l1)) (fun q => ts.length - q.1) (0, A2, c2) (fun _ => ⟨rfl, rfl⟩)
    ⟨(by repeat (first | exact trivial | refine And.intro rfl ?_)), (by repeat (first | exact trivial | refine And.intro rfl ?_)), (by repeat (first | exact trivial | refine And.intro rfl ?_)), (by repeat (first | exact trivial | refine And.intro rfl ?_)), x2, Nat.zero_le _, hc2, hl2⟩ ?_
  rintro ⟨i, A3, c3⟩ w3 hh3 ⟨x3, hi, hc3, hl3⟩
  simp only at hi hc3 hl3
  refine Or.inl (And.intro (fun h => ?_) (fun h => ?_))
  · have hil : i < ts.length := by have := of_decide_eq_true h; simp only at this; omega
    obtain ⟨a1, cs1, ha1, _, hrow, hv1⟩ := (sl_T (hT.ext x3)).at hil
    have hft := rnms_take ts i hil l1
    have hsm := size_mem ts k n s ls i hil
    have hln := rnms_len (ts.take i) l1
    have ihi := ih ts[i] (List.getElem_mem hil)
    simp only [size] at hsm
    generalize ts[i] = x at *
    have hv1 : VT w3 R cs1 x := hv1
    have hv10 := hv1
    obtain ⟨kx, nx, sx, lsx, tsx, lax, lcx, tax, tcx, ex, rfl, hkx, hnx, hsx, hllx, hltx, hLx, hTx⟩ := hv1.inv
    refine OpT.indexAddr Tryz.underlying31 Tryz.sizeOf33 rfl rfl ha1 (by first | omega | (simp only [lenOk] at *; omega)) ?_; refine Lands.v hh3 ?_
    refine OpT.loadA Tryz.isAgg33 (by exact Tryz.sizeOf33) rfl hrow ?_; refine Lands.ret (s := .a [.v (.int .u8 kx), .v (.int .i64 nx), .v (.string sx), .v (.slice lax lsx.length lcx), .v (.slice tax tsx.length tcx)]) rfl rfl hh3 ?_
    refine vcV (ihi _ A3 c3 (rnms (ts.take i) l1) w3 R hv10 hl3 hc3 (by omega)) hh3 fun v4 w4 x4 z4 hh4 p4 => ?_
    obtain ⟨A4, c4, rfl, hc4, hl4⟩ := p4
    rw [← hft] at hc4 hl4 ⊢
    refine vsd (by simp only [inKind]; simp only [lenOk] at *; omega) ?_
    exact Exists.intro ((i + 1, A4, c4)) ⟨by simp only; omega, esub_over (by repeat (first | exact trivial | refine And.intro rfl ?_)) (by repeat (first | exact trivial | refine And.intro rfl ?_)), hsub_over (by repeat (first | exact trivial | refine And.intro rfl ?_)) (by repeat (first | exact trivial | refine And.intro rfl ?_)), x3.trans x4, hil, hc4, hl4⟩
  · obtain rfl : i = ts.length := by have := of_decide_eq_false h; simp only at this; omega
    rw [List.take_length] at hc3 hl3 ⊢
    exact ⟨x3, A3, c3, rfl, hc3, hl3⟩
set_option maxRecDepth 20000 in
theorem rNames0_runs (t : T) (cs : List Value) (w : World) (R : Nat → Prop) (hv : VT w R cs t) (hsz : size t ≤ 1000000) :
    Runs Tryz.prog 46 #[.agg cs.toArray] w fun v w' => Ext w w' ∧ ∃ A' c', v = .slice A' (rnm t []).length c' ∧ lenOk (rnm t []).length c' ∧ Sl encS w' (fun k => k < w'.heap.size) A' (rnm t []) := by
  have hv0 := hv
  obtain ⟨k, n, s, ls, ts, la, lc, ta, tc, e, rfl, hk, hn, hs, hll, hlt, hL, hT⟩ := hv.inv
  refine Runs.of_vc (ρ := []) cx_ok [0, 1, 2] [.a [.v (.int .u8 k), .v (.int .i64 n), .v (.string s), .v (.slice la ls.length lc), .v (.slice ta ts.length tc)]] Tryz.func46 rfl rfl rfl (Holds.nil w) ?_
  intro g1 w1 e1 x1 z1 hh1
  refine vcV (rnames_runs t _ none 0 [] w1 R (hv0.ext x1) (Sl.nil _ _ _ _) (by simp [lenOk]) (by simpa using hsz)) hh1 fun v2 w2 x2 z2 hh2 p2 => ?_
  obtain ⟨A2, c2, rfl, hc2, hl2⟩ := p2
  exact ⟨x1.trans x2, A2, c2, rfl, hc2, hl2⟩
/-! that they are the same -/
theorem lt8_iff (a b : ByteArray) : lt8 a b = true ↔ a.data.toList < b.data.toList := by
  unfold lt8
  rw [ByteArray.toList_eq, ByteArray.toList_eq, Go.Proofs.bytesLess_eq]; simp
theorem ba_ext {a b : ByteArray} (h : a.data.toList = b.data.toList) : a = b := by
  cases a; cases b; simp only [ByteArray.mk.injEq]; exact Array.ext' h
def srtB (l : List ByteArray) : Prop := l.Pairwise fun a b => a.data.toList < b.data.toList
theorem plB_spec (s : ByteArray) : ∀ (l : List ByteArray) (i : Nat), ∃ p, plB s l i = i + p ∧ p ≤ l.length ∧ (∀ x ∈ l.take p, x.data.toList < s.data.toList) ∧ (∀ y, l[p]? = some y → ¬ y.data.toList < s.data.toList)
  | [], i => ⟨0, rfl, by simp, by simp, by simp⟩
  | x :: r, i => by
    rw [plB]
    by_cases h : lt8 x s = true
    · rw [if_pos h]
      obtain ⟨p, h1, h2, h3, h4⟩ := plB_spec s r (i + 1)
      refine ⟨p + 1, by omega, by simpa using h2, ?_, by simpa using h4⟩
      intro y hy
      rw [List.take_succ_cons] at hy
      rcases List.mem_cons.1 hy with rfl | hy
      · exact (lt8_iff _ _).1 h
      · exact h3 y hy
    · rw [if_neg h]
      refine ⟨0, by omega, by simp, by simp, ?_⟩
      intro y hy
      simp at hy
      subst hy
      exact fun hh => h ((lt8_iff _ _).2 hh)
theorem withB_law {l : List ByteArray} (h : srtB l) (s : ByteArray) : srtB (withB l s) ∧ ∀ x, x ∈ withB l s ↔ x ∈ l ∨ x = s := by
  obtain ⟨p, h1, h2, h3, h4⟩ := plB_spec s l 0
  rw [Nat.zero_add] at h1
  unfold withB
  rw [h1]
  by_cases hp : l[p]? = some s
  · rw [if_pos hp]
    refine ⟨h, fun x => ⟨.inl, fun hx => hx.elim id fun hx => hx ▸ List.mem_of_getElem? hp⟩⟩
  · rw [if_neg hp]
    have hd : l = l.take p ++ l.drop p := (List.take_append_drop p l).symm
    have hs := h
    rw [hd] at hs
    obtain ⟨q1, q2, q3⟩ := List.pairwise_append.1 hs
    have h5 : ∀ y ∈ l.drop p, s.data.toList < y.data.toList := by
      intro y hy
      cases hdr : l.drop p with
      | nil => rw [hdr] at hy; cases hy
      | cons u r =>
        have hu : l[p]? = some u := by rw [← List.head?_drop, hdr]; rfl
        have h6 : s.data.toList < u.data.toList := by
          refine bl_lt_of_ne (List.not_lt.1 (h4 u hu)) fun e => hp ?_
          rw [hu, ba_ext e]
        rw [hdr] at hy q2
        rcases List.mem_cons.1 hy with rfl | hy
        · exact h6
        · exact List.lt_trans h6 ((List.pairwise_cons.1 q2).1 y hy)
    refine ⟨?_, fun x => ?_⟩
    · refine List.pairwise_append.2 ⟨List.pairwise_append.2 ⟨q1, List.pairwise_singleton _ _, fun a ha b hb => ?_⟩, q2, fun a ha b hb => ?_⟩
      · rw [List.mem_singleton.1 hb]; exact h3 a ha
      · rcases List.mem_append.1 ha with ha | ha
        · exact q3 a ha b hb
        · rw [List.mem_singleton.1 ha]; exact h5 b hb
    · conv => rhs; rw [hd]
      simp only [List.mem_append, List.mem_singleton]
      constructor
      · rintro ((h | h) | h)
        · exact .inl (.inl h)
        · exact .inr h
        · exact .inl (.inr h)
      · rintro ((h | h) | h)
        · exact .inl (.inl h)
        · exact .inr h
        · exact .inl (.inr h)
theorem st1_law {l : List ByteArray} (h : srtB l) (s : ByteArray) : srtB (st1 s l) ∧ ∀ x, x ∈ st1 s l ↔ x ∈ l ∨ x.data.toList ∈ nm1 s := by
  have hz : s = noS ↔ s.size = 0 := by
    constructor
    · rintro rfl; rfl
    · intro h
      cases s with
      | mk d => have h4 : d.size = 0 := h; unfold noS; congr 1; exact Array.eq_empty_of_size_eq_zero h4
  unfold st1 nm1
  by_cases hs : s = noS
  · rw [if_pos hs, if_pos (hz.1 hs)]
    exact ⟨h, fun x => by simp⟩
  · rw [if_neg hs, if_neg fun h => hs (hz.2 h)]
    obtain ⟨h1, h2⟩ := withB_law h s
    refine ⟨h1, fun x => ?_⟩
    rw [h2, List.mem_singleton]
    exact ⟨fun h => h.imp id fun h => by rw [h], fun h => h.imp id ba_ext⟩
theorem rnm_law (t : T) : ∀ {l : List ByteArray}, srtB l → srtB (rnm t l) ∧ ∀ x, x ∈ rnm t l ↔ x ∈ l ∨ x.data.toList ∈ names t := by
  refine T.rec (motive_1 := fun t => ∀ {l : List ByteArray}, srtB l → srtB (rnm t l) ∧ ∀ x, x ∈ rnm t l ↔ x ∈ l ∨ x.data.toList ∈ names t) (motive_2 := fun ts => ∀ {l : List ByteArray}, srtB l → srtB (rnms ts l) ∧ ∀ x, x ∈ rnms ts l ↔ x ∈ l ∨ x.data.toList ∈ namess ts) ?_ ?_ ?_ t
  · intro k n s ls ts ih l h
    obtain ⟨h1, h2⟩ := st1_law h s
    obtain ⟨h3, h4⟩ := ih h1
    simp only [rnm, names]
    refine ⟨h3, fun x => ?_⟩
    rw [h4, h2, List.mem_append, or_assoc]
  · intro l h; simp only [rnms, namess]; exact ⟨h, fun x => by simp⟩
  · intro t r h1 h2 l h
    obtain ⟨h3, h4⟩ := h1 h
    obtain ⟨h5, h6⟩ := h2 h3
    simp only [rnms, namess]
    refine ⟨h5, fun x => ?_⟩
    rw [h6, h4, List.mem_append, or_assoc]
theorem rnm_nms {t : T} (hm : mayT t = true) : rnm t [] = nms t := by
  obtain ⟨h1, h2⟩ := rnm_law t (l := []) List.Pairwise.nil
  have e : (rnm t []).map (·.data.toList) = nmsT t := by
    unfold nmsT
    rw [if_pos hm]
    refine sorted_ext _ _ (List.pairwise_map.2 h1) (cs_law (names t)).1 fun x => ?_
    rw [show Lib.compact (srt (names t)) = cs (names t) from rfl, (cs_law (names t)).2, List.mem_map]
    constructor
    · rintro ⟨y, hy, rfl⟩
      exact ((h2 y).1 hy).elim (fun h => by cases h) id
    · intro hx
      exact ⟨⟨x.toArray⟩, (h2 _).2 (.inr (by simpa using hx)), by simp⟩
  unfold nms
  rw [← e, List.map_map]
  conv => lhs; rw [← List.map_id (rnm t [])]
  refine List.map_congr_left fun x _ => ?_
  show x = strOf x.data.toList
  exact ba_ext (by simp [strOf])
theorem rNames_runs (t : T) (cs : List Value) (w : World) (R : Nat → Prop) (hv : VT w R cs t) (hm : mayT t = true) :
    Runs Tryz.prog 46 #[.agg cs.toArray] w fun v w' => Ext w w' ∧ ∃ A' c', v = .slice A' (nms t).length c' ∧ lenOk (nms t).length c' ∧ Sl encS w' (fun k => k < w'.heap.size) A' (nms t) := by
  have hd := ((mayT_iff t).1 hm).2.1
  have h := rNames0_runs t cs w R hv (by omega)
  rw [rnm_nms hm] at h
  exact h
end Go.Proofs.YtfljbnhhkdaobaaGreat

/-
  The document's environment: what looks at an info.
-/
namespace Go.Proofs.YtfljbnhhkdaobaaGreat
open Go Go.RowKit Go.Proofs.Bw
set_option linter.unusedVariables false
set_option linter.unusedSimpArgs false
def nmD (s : ByteArray) (x : Inf) : Bool := decide (x.name = s)
set_option maxRecDepth 20000 in
theorem rfind_runs {R : Nat → Prop} (A : Option Addr) (l : List Inf) (c : Nat) (s : ByteArray) (w : World) (hl : Sl encInf w R A l) (hsz : l.length ≤ 1000000) :
    Runs Tryz.prog 130 #[.slice A l.length c, .string s] w fun v w' => v = .int .i64 (ixB (nmD s) l 0) ∧ Ext w w' := by
  refine Runs.of_vc (ρ := []) cx_ok [0, 1, 4, 5, 9, 18] [.v _, .v _] Tryz.func130 rfl rfl rfl (Holds.nil w) ?_
  refine vLoop_upd (σ := Nat) [4, 5, 6, 7, 8, 9, 10, 11, 12, 13, 14, 15, 16, 17, 18, 19] (fun i => [(5, .v (.int .i64 i))]) [] (fun _ => []) (fun i w' => Ext w w' ∧ i ≤ l.length ∧ ixB (nmD s) (l.drop i) i = ixB (nmD s) l 0) (fun i => l.length - i) 0 (fun _ => ⟨rfl, rfl⟩)
    ⟨(by repeat (first | exact trivial | refine And.intro rfl ?_)), (by repeat (first | exact trivial | refine And.intro rfl ?_)), (by repeat (first | exact trivial | refine And.intro rfl ?_)), (by repeat (first | exact trivial | refine And.intro rfl ?_)), Ext.refl w, Nat.zero_le _, rfl⟩ ?_
  rintro i w1 hh1 ⟨x1, hi, hp⟩
  refine Or.inl (And.intro (fun h => ?_) (fun h => ?_))
  · have hil : i < l.length := by have := of_decide_eq_true h; omega
    have hpd := ixB_drop (nmD s) l i hil
    obtain ⟨a1, cs, ha1, hRa, hrow, hv⟩ := (hl.ext x1).at hil
    generalize l[i] = x at *
    have hv : VI w1 R cs x := hv
    obtain ⟨ctx, cvx, rax, rcx, rfl, htyx, hvlx, hrux, hrlx, hokx⟩ := hv; obtain ⟨kxt, nxt, sxt, lsxt, tsxt, laxt, lcxt, taxt, tcxt, etyx, rfl, hkxt, hnxt, hsxt, hllxt, hltxt, hLxt, hTxt⟩ := htyx.inv; obtain ⟨kxv, nxv, sxv, lsxv, tsxv, laxv, lcxv, taxv, tcxv, evlx, rfl, hkxv, hnxv, hsxv, hllxv, hltxv, hLxv, hTxv⟩ := hvlx.inv
    refine OpT.indexAddr Tryz.underlying22 Tryz.sizeOf36 rfl rfl ha1 (by first | omega | (simp only [lenOk] at *; omega)) ?_; refine Lands.v hh1 ?_
    refine OpT.load Tryz.isAgg9 rfl (hrow.cell 1 rfl) ?_; refine Lands.v hh1 ?_
    refine Or.inl (And.intro (fun h => ?_) (fun h => ?_))
    · have hn : nmD s x = true := h
      rw [hpd, if_pos hn] at hp
      rw [← hp]
      exact ⟨rfl, x1⟩
    · have hn : nmD s x = false := h
      rw [hpd, if_neg (by rw [hn]; decide)] at hp
      refine vsd (by simp only [inKind]; omega) ?_
      exact Exists.intro (i + 1) ⟨by omega, esub_over (by repeat (first | exact trivial | refine And.intro rfl ?_)) (by repeat (first | exact trivial | refine And.intro rfl ?_)), hsub_over (by repeat (first | exact trivial | refine And.intro rfl ?_)) (by repeat (first | exact trivial | refine And.intro rfl ?_)), x1, hil, hp⟩
  · obtain rfl : i = l.length := by have := of_decide_eq_false h; omega
    rw [List.drop_length] at hp
    rw [← hp]
    exact ⟨rfl, x1⟩
theorem ixB_find (s : ByteArray) : ∀ (l : List Inf) (i : Nat), (ixB (nmD s) l i < 0 ∧ findI l s = none) ∨ ∃ k, ∃ h : k < l.length, ixB (nmD s) l i = ((i + k : Nat) : Int) ∧ findI l s = some l[k]
  | [], i => .inl ⟨by simp [ixB], rfl⟩
  | x :: r, i => by
    by_cases h : x.name = s
    · refine .inr ⟨0, by simp, ?_, ?_⟩
      · simp [ixB, nmD, h]
      · simp [findI, h]
    · have e1 : ixB (nmD s) (x :: r) i = ixB (nmD s) r (i + 1) := by simp [ixB, nmD, h]
      have e2 : findI (x :: r) s = findI r s := by simp [findI, h]
      rw [e1, e2]
      rcases ixB_find s r (i + 1) with h | ⟨k, hk, h1, h2⟩
      · exact .inl h
      · exact .inr ⟨k + 1, by simp only [List.length_cons]; omega, by rw [h1]; congr 1; omega, by simpa using h2⟩
theorem ixB_neg (s : ByteArray) (l : List Inf) : decide (ixB (nmD s) l 0 < 0) = !(findI l s).isSome := by
  rcases ixB_find s l 0 with ⟨h1, h2⟩ | ⟨k, hk, h1, h2⟩
  · rw [h2]; simp [h1]
  · rw [h1, h2]; simp
theorem findI_nameIn (l : List Inf) (s : ByteArray) : (findI l s).isSome = nameIn l s := by
  unfold findI nameIn; rw [Bool.eq_iff_iff, List.find?_isSome, List.any_eq_true]
theorem lps_get (l : L) (k : Nat) (h : k < 4) : (lps l)[k]'(by simpa [lps] using h) = l.p k := by
  match k, h with
  | 0, _ => rfl
  | 1, _ => rfl
  | 2, _ => rfl
  | 3, _ => rfl
theorem lcell (l : L) (k : Nat) (h : k < 4) : ((l.cells.drop 1).take 4)[k * 1]? = some (.int .i64 (l.p k)) := by
  match k, h with
  | 0, _ => rfl
  | 1, _ => rfl
  | 2, _ => rfl
  | 3, _ => rfl
set_option maxHeartbeats 1000000 in
set_option maxRecDepth 20000 in
theorem rbelow_runs {R : Nat → Prop} (n : Nat) (hn : n ≤ 4) (t : T) : ∀ (cs : List Value) (w : World), VT w R cs t → Runs Tryz.prog 134 #[.agg cs.toArray, .int .i64 n] w fun v w' => v = .bool (belowB n t) ∧ Ext w w' := by
  induction t using T.ind with
  | h k m s ls ts ih =>
  intro cs w hv
  have hv0 := hv
  obtain ⟨k', n', s', ls', ts', la, lc, ta, tc, e, rfl, hk, hm, hs, hll, hlt, hL, hT⟩ := hv.inv
  injection e with e1 e2 e3 e4 e5
  subst e1; subst e2; subst e3; subst e4; subst e5
  refine Runs.of_vc (ρ := []) cx_ok [0, 1, 2, 4, 5, 6, 7, 12, 17, 28, 33, 43] [.a [.v (.int .u8 k), .v (.int .i64 m), .v (.string s), .v (.slice la ls.length lc), .v (.slice ta ts.length tc)], .v _] Tryz.func134 rfl rfl rfl (Holds.nil w) ?_
  intro g1 w1 e1 x1 z1 hh1
  refine vLoop_upd (σ := Nat) [4, 5, 6, 8, 9, 10, 11, 12, 13, 14, 15, 16, 17, 18, 19, 20, 21, 22, 23, 24, 25, 26, 27, 28] (fun i => [(5, .v (.int .i64 i))]) [] (fun _ => []) (fun i w' => Ext w w' ∧ i ≤ ls.length ∧ (ls.take i).all (lvB n) = true) (fun i => ls.length - i) 0 (fun _ => ⟨rfl, rfl⟩)
    ⟨(by repeat (first | exact trivial | refine And.intro rfl ?_)), (by repeat (first | exact trivial | refine And.intro rfl ?_)), (by repeat (first | exact trivial | refine And.intro rfl ?_)), (by repeat (first | exact trivial | refine And.intro rfl ?_)), x1, Nat.zero_le _, rfl⟩ ?_
  rintro i w2 hh2 ⟨x2, hi, hall⟩
  refine Or.inl (And.intro (fun h => ?_) (fun h => ?_))
  · have hil : i < ls.length := by have := of_decide_eq_true h; omega
    have htk := take_snoc ls i hil
    have hmem := List.getElem_mem hil
    obtain ⟨a1, ha1, _, hrow, hwf⟩ := (hL.ext x2).at hil
    generalize ls[i] = y at *
    refine vLoop_upd (σ := Nat) [4, 6, 16, 17, 18, 19, 20, 21, 22, 23, 24, 25, 26, 27, 28] (fun j => [(6, .v (.int .i64 j))]) [] (fun _ => []) (fun j w' => Ext w2 w' ∧ n ≤ j ∧ j ≤ 4 ∧ ((lps y).drop n).any atLeast0 = ((lps y).drop j).any atLeast0) (fun j => 4 - j) n (fun _ => ⟨rfl, rfl⟩)
      ⟨(by repeat (first | exact trivial | refine And.intro rfl ?_)), (by repeat (first | exact trivial | refine And.intro rfl ?_)), (by repeat (first | exact trivial | refine And.intro rfl ?_)), (by repeat (first | exact trivial | refine And.intro rfl ?_)), Ext.refl _, Nat.le_refl _, hn, rfl⟩ ?_
    rintro j w3 hh3 ⟨x3, hj1, hj2, hj⟩
    refine Or.inl (And.intro (fun h => ?_) (fun h => ?_))
    · have hj4 : j < 4 := by have := of_decide_eq_true h; omega
      have hdj : (lps y).drop j = y.p j :: (lps y).drop (j + 1) := by rw [List.drop_eq_getElem_cons (by simpa [lps] using hj4), lps_get y j hj4]
      rw [hdj, List.any_cons] at hj
      refine OpT.indexAddr Tryz.underlying30 Tryz.sizeOf63 rfl rfl ha1 (by first | omega | (simp only [lenOk] at *; omega)) ?_; refine Lands.v hh3 ?_
      refine OpT.indexAddrArr Tryz.underlying61 Tryz.sizeOf3 rfl rfl (by omega) ?_
      refine Lands.v hh3 ?_
      refine OpT.load Tryz.isAgg3 rfl (((hrow.ext x3).sub 1 4 rfl).cell (j * 1) (lcell y j hj4)) ?_
      refine Lands.v hh3 ?_
      refine Or.inl (And.intro (fun h => ?_) (fun h => ?_))
      · have hno : ls.all (lvB n) = false := by
          rw [Bool.eq_false_iff]
          intro hc
          have := List.all_eq_true.1 hc _ hmem
          unfold lvB at this
          rw [hj, show atLeast0 (y.p j) = true from decide_eq_true (by have := of_decide_eq_true h; omega)] at this
          simp at this
        exact ⟨by rw [belowB, hno]; rfl, x2.trans x3⟩
      · rw [show atLeast0 (y.p j) = false from decide_eq_false (by have := of_decide_eq_false h; omega), Bool.false_or] at hj
        refine vsd (by simp only [inKind]; omega) ?_
        exact Exists.intro (j + 1) ⟨by omega, esub_over (by repeat (first | exact trivial | refine And.intro rfl ?_)) (by repeat (first | exact trivial | refine And.intro rfl ?_)), hsub_over (by repeat (first | exact trivial | refine And.intro rfl ?_)) (by repeat (first | exact trivial | refine And.intro rfl ?_)), x3, by omega, hj4, hj⟩
    · have hj4 : 4 ≤ j := by have := of_decide_eq_false h; omega
      rw [show (lps y).drop j = [] from List.drop_eq_nil_of_le (by simpa [lps] using hj4)] at hj
      have hly : lvB n y = true := by unfold lvB; rw [hj]; rfl
      refine vsd (by simp only [inKind]; simp only [lenOk] at *; omega) ?_
      exact Exists.intro (i + 1) ⟨by omega, esub_over (by repeat (first | exact trivial | refine And.intro rfl ?_)) (by repeat (first | exact trivial | refine And.intro rfl ?_)), hsub_over (by repeat (first | exact trivial | refine And.intro rfl ?_)) (by repeat (first | exact trivial | refine And.intro rfl ?_)), x2.trans x3, hil, by rw [htk, List.all_append, hall]; simp [hly]⟩
  · obtain rfl : i = ls.length := by have := of_decide_eq_false h; omega
    rw [List.take_length] at hall
    have hb : belowB n (.mk k m s ls ts) = belowBs n ts := by rw [belowB, hall, Bool.true_and]
    rw [hb]
    refine vLoop_upd (σ := Nat) [4, 7, 29, 30, 31, 32, 33, 34, 35, 36, 37, 38, 39, 40, 41, 42, 43] (fun i => [(7, .v (.int .i64 i))]) [] (fun _ => []) (fun i w' => Ext w w' ∧ i ≤ ts.length ∧ belowBs n (ts.drop i) = belowBs n ts) (fun i => ts.length - i) 0 (fun _ => ⟨rfl, rfl⟩)
      ⟨(by repeat (first | exact trivial | refine And.intro rfl ?_)), (by repeat (first | exact trivial | refine And.intro rfl ?_)), (by repeat (first | exact trivial | refine And.intro rfl ?_)), (by repeat (first | exact trivial | refine And.intro rfl ?_)), x2, Nat.zero_le _, rfl⟩ ?_
    rintro i w3 hh3 ⟨x3, hi, hbs⟩
    refine Or.inl (And.intro (fun h => ?_) (fun h => ?_))
    · have hil : i < ts.length := by have := of_decide_eq_true h; omega
      obtain ⟨a1, cs1, ha1, _, hrow, hv1⟩ := (sl_T (hT.ext x3)).at hil
      have ihi := ih ts[i] (List.getElem_mem hil)
      rw [List.drop_eq_getElem_cons hil, belowBs] at hbs
      generalize ts[i] = x at *
      have hv1 : VT w3 R cs1 x := hv1
      have hv10 := hv1
      obtain ⟨kx, nx, sx, lsx, tsx, lax, lcx, tax, tcx, ex, rfl, hkx, hnx, hsx, hllx, hltx, hLx, hTx⟩ := hv1.inv
      refine OpT.indexAddr Tryz.underlying31 Tryz.sizeOf33 rfl rfl ha1 (by first | omega | (simp only [lenOk] at *; omega)) ?_; refine Lands.v hh3 ?_
      refine OpT.loadA Tryz.isAgg33 (by exact Tryz.sizeOf33) rfl hrow ?_; refine Lands.ret (s := .a [.v (.int .u8 kx), .v (.int .i64 nx), .v (.string sx), .v (.slice lax lsx.length lcx), .v (.slice tax tsx.length tcx)]) rfl rfl hh3 ?_
      refine vcZ (ihi _ w3 hv10) hh3 fun w4 x4 z4 hh4 => ?_
      refine Or.inl (And.intro (fun h => ?_) (fun h => ?_))
      · have hx : belowB n x = false := notT h
        rw [hx, Bool.false_and] at hbs
        rw [← hbs]
        exact ⟨rfl, x3.trans x4⟩
      · have hx : belowB n x = true := notF h
        rw [hx, Bool.true_and] at hbs
        refine vsd (by simp only [inKind]; simp only [lenOk] at *; omega) ?_
        exact Exists.intro (i + 1) ⟨by omega, esub_over (by repeat (first | exact trivial | refine And.intro rfl ?_)) (by repeat (first | exact trivial | refine And.intro rfl ?_)), hsub_over (by repeat (first | exact trivial | refine And.intro rfl ?_)) (by repeat (first | exact trivial | refine And.intro rfl ?_)), x3.trans x4, hil, hbs⟩
    · obtain rfl : i = ts.length := by have := of_decide_eq_false h; omega
      rw [List.drop_length] at hbs
      rw [← hbs]
      exact ⟨rfl, x3⟩
set_option maxRecDepth 20000 in
theorem rterms_runs {R : Nat → Prop} (x : Inf) (cs : List Value) (w : World) (hx : VI w R cs x) (hR : ∀ k, R k → k < w.heap.size) (hsz : x.rules.length ≤ 1000000) :
    Runs Tryz.prog 132 #[.agg cs.toArray] w fun v w' => Ext w w' ∧ ∃ A c, v = .slice A (infT x).length c ∧ OwnE encT w' w.heap.size 33 R A c (infT x) := by
  obtain ⟨ct, cv, ra, rc, rfl, hty, hvl, hru, hrl, hok⟩ := hx; obtain ⟨kt, nt, st, lst, tst, lat, lct, tat, tct, ety, rfl, hkt, hnt, hst, hllt, hltt, hLt, hTt⟩ := hty.inv; obtain ⟨kv, nv, sv, lsv, tsv, lav, lcv, tav, tcv, evl, rfl, hkv, hnv, hsv, hllv, hltv, hLv, hTv⟩ := hvl.inv
  refine Runs.of_vc (ρ := []) cx_ok [0, 1, 2, 3, 4, 15, 25] [.a [.v (.int .u8 x.kind), .v (.string x.name), .v (.int .i64 x.params), .v (.int .u8 kt), .v (.int .i64 nt), .v (.string st), .v (.slice lat lst.length lct), .v (.slice tat tst.length tct), .v (.int .u8 kv), .v (.int .i64 nv), .v (.string sv), .v (.slice lav lsv.length lcv), .v (.slice tav tsv.length tcv), .v (.int .i64 x.height), .v (.string x.block), .v (.string x.of_), .v (.int .i64 x.fixed), .v (.int .i64 x.index), .v (.int .i64 x.no), .v (.int .i64 x.fields), .v (.int .i64 x.motives), .v (.int .i64 x.minors), .v (.slice ra x.rules.length rc), .v (.int .i64 x.ctors), .v (.bool x.record)]] Tryz.func132 rfl rfl rfl (Holds.nil w) ?_
  intro g1 w1 e1 x1 z1 hh1
  refine OpT.buildE (E := encT) (R := R) (vs := [_]) (l := [x.ty]) Tryz.zeroValue33 (.cons rfl (.nil)) Tryz.underlying31 Tryz.sizeOf33 rfl rfl (Reps.cons (hty.ext x1) (Reps.nil _ _ _)) rfl rfl hh1 fun w2 g2 e2 x2 z2 o2 hh2 => ?_
  have y2 := x1.trans x2
  have key : sel (decide (x.kind = 2)) true (decide (x.kind = 3)) = valB x.kind := by unfold valB; cases decide (x.kind = 2) <;> rfl
  refine vJoin_upd (σ := Option Addr × Nat) [3, 16, 17, 18, 19, 20] (fun s => [(3, .v (.slice s.1 ([x.ty] ++ if valB x.kind = true then [x.val] else []).length s.2))]) [] (fun _ => [])
    (fun s w' => Ext w w' ∧ w1.heap.size ≤ w'.heap.size ∧ OwnE encT w' w1.heap.size 33 R s.1 s.2 ([x.ty] ++ if valB x.kind = true then [x.val] else [])) (fun _ => ⟨rfl, rfl⟩) (fun h => ?_) (fun h => ?_) ?_
  · rw [if_pos (key.symm.trans h)]
    refine OpT.buildE (E := encT) (R := R) (vs := [_]) (l := [x.val]) Tryz.zeroValue33 (.cons rfl (.nil)) Tryz.underlying31 Tryz.sizeOf33 rfl rfl (Reps.cons (hvl.ext y2) (Reps.nil _ _ _)) rfl rfl hh2 fun w4 g4 e4 x4 z4 o4 hh4 => ?_
    refine OpT.appendO (E := encT) elT Tryz.underlying31 Tryz.underlying31 rfl rfl rfl rfl (l3 := [x.ty] ++ [x.val]) rfl rfl o2 x4 o4 (by omega) (fun k hk => by have := hR k hk; omega) (y2.trans x4) (by omega) hh4 (by repeat (first | exact trivial | refine And.intro (by omega) ?_)) (by simp) fun w5 A5 c5 y5 z5 o5 hh5 => ?_
    exact Exists.intro ((A5, c5)) ⟨esub_over (by repeat (first | exact trivial | refine And.intro rfl ?_)) (by repeat (first | exact trivial | refine And.intro rfl ?_)), hsub_over (by repeat (first | exact trivial | refine And.intro rfl ?_)) (by repeat (first | exact trivial | refine And.intro rfl ?_)), y5, by omega, o5⟩
  · rw [if_neg (by rw [key.symm.trans h]; decide)]
    exact Exists.intro ((some ⟨g2, 0, none⟩, 1)) ⟨esub_over (by repeat (first | exact trivial | refine And.intro rfl ?_)) (by repeat (first | exact trivial | refine And.intro rfl ?_)), hsub_over (by repeat (first | exact trivial | refine And.intro rfl ?_)) (by repeat (first | exact trivial | refine And.intro rfl ?_)), y2, by omega, o2⟩
  rintro ⟨A5, c5⟩ w5 hh5 ⟨y5, q5, o5⟩
  refine vLoop_upd (σ := Nat × Option Addr × Nat) [3, 4, 21, 22, 23, 24, 25, 26, 27, 28, 29, 30, 31, 32, 33, 34, 35, 36] (fun s => [(4, .v (.int .i64 s.1)), (3, .v (.slice s.2.1 ([x.ty] ++ (if valB x.kind = true then [x.val] else []) ++ (x.rules.take s.1).map (·.b)).length s.2.2))]) [] (fun _ => [])
    (fun s w' => Ext w w' ∧ w1.heap.size ≤ w'.heap.size ∧ s.1 ≤ x.rules.length ∧ OwnE encT w' w1.heap.size 33 R s.2.1 s.2.2 ([x.ty] ++ (if valB x.kind = true then [x.val] else []) ++ (x.rules.take s.1).map (·.b))) (fun s => x.rules.length - s.1) (0, A5, c5) (fun _ => ⟨rfl, rfl⟩)
    ⟨⟨rfl, by simp; rfl, trivial⟩, (by repeat (first | exact trivial | refine And.intro rfl ?_)), (by repeat (first | exact trivial | refine And.intro rfl ?_)), (by repeat (first | exact trivial | refine And.intro rfl ?_)), y5, q5, Nat.zero_le _, by simpa using o5⟩ ?_
  rintro ⟨i, A6, c6⟩ w6 hh6 ⟨y6, q6, hi, o6⟩
  simp only at hi o6
  refine Or.inl (And.intro (fun h => ?_) (fun h => ?_))
  · have hil : i < x.rules.length := by have := of_decide_eq_true h; simp only at this; omega
    obtain ⟨a, cr, ha, _, hrow, hR'⟩ := (hru.ext y6).at hil
    have htk : x.rules.take (i + 1) = x.rules.take i ++ [x.rules[i]] := take_snoc _ _ hil
    generalize x.rules[i] = r at *
    obtain ⟨cb, rfl, hbo, hrf, hrc⟩ := hR'
    have hbo0 := hbo
    obtain ⟨kb, nb, sb, lsb, tsb, lab, lcb, tab, tcb, ebo, rfl, hkb, hnb, hsb, hllb, hltb, hLb, hTb⟩ := hbo.inv
    refine OpT.indexAddr Tryz.underlying34 Tryz.sizeOf84 rfl rfl ha (by first | omega | (simp only [lenOk] at *; omega)) ?_; refine Lands.v hh6 ?_
    refine OpT.loadA Tryz.isAgg33 (by exact Tryz.sizeOf33) rfl (hrow.sub 2 5 rfl) ?_; refine Lands.ret (s := .a [.v (.int .u8 kb), .v (.int .i64 nb), .v (.string sb), .v (.slice lab lsb.length lcb), .v (.slice tab tsb.length tcb)]) rfl rfl hh6 ?_
    refine OpT.buildE (E := encT) (R := R) (vs := [_]) (l := [r.b]) Tryz.zeroValue33 (.cons rfl (.nil)) Tryz.underlying31 Tryz.sizeOf33 rfl rfl (Reps.cons hbo0 (Reps.nil _ _ _)) rfl rfl hh6 fun w9 g9 e9 x9 z9 o9 hh9 => ?_
    have hlen : ([x.ty] ++ (if valB x.kind = true then [x.val] else []) ++ (x.rules.take (i + 1)).map (·.b)).length ≤ 1000002 := by split <;> simp <;> omega
    refine OpT.appendO (E := encT) elT Tryz.underlying31 Tryz.underlying31 rfl rfl rfl rfl (l3 := [x.ty] ++ (if valB x.kind = true then [x.val] else []) ++ (x.rules.take (i + 1)).map (·.b)) (by rw [htk]; simp) rfl o6 x9 o9 (by omega) (fun k hk => by have := hR k hk; omega) (y6.trans x9) (by omega) hh9 (by repeat (first | exact trivial | refine And.intro (by omega) ?_)) (by omega) fun w10 A10 c10 y10 z10 o10 hh10 => ?_
    refine vsd (by simp only [inKind]; omega) ?_
    exact Exists.intro ((i + 1, A10, c10)) ⟨by simp only; omega, esub_over (by repeat (first | exact trivial | refine And.intro rfl ?_)) (by repeat (first | exact trivial | refine And.intro rfl ?_)), hsub_over (by repeat (first | exact trivial | refine And.intro rfl ?_)) (by repeat (first | exact trivial | refine And.intro rfl ?_)), y10, by omega, hil, o10⟩
  · obtain rfl : i = x.rules.length := by have := of_decide_eq_false h; simp only at this; omega
    rw [List.take_length] at o6
    exact ⟨y6, A6, c6, by rw [List.take_length]; rfl, o6.lower (by omega)⟩
end Go.Proofs.YtfljbnhhkdaobaaGreat

/-
  The document's environment: what is wrong with an info.
-/
namespace Go.Proofs.YtfljbnhhkdaobaaGreat
open Go Go.RowKit Go.Proofs.Bw
set_option linter.unusedVariables false
set_option linter.unusedSimpArgs false
set_option maxHeartbeats 1000000 in
set_option maxRecDepth 20000 in
theorem rnumbers_runs {R : Nat → Prop} (x : Inf) (cs : List Value) (w : World) (hx : VI w R cs x) (hR : ∀ k, R k → k < w.heap.size) (hsz : x.rules.length ≤ 1000000 - 7) :
    Runs Tryz.prog 131 #[.agg cs.toArray] w fun v w' => v = .bool (!(infN x).any great) ∧ Ext w w' := by
  obtain ⟨ct, cv, ra, rc, rfl, hty, hvl, hru, hrl, hok⟩ := hx; obtain ⟨kt, nt, st, lst, tst, lat, lct, tat, tct, ety, rfl, hkt, hnt, hst, hllt, hltt, hLt, hTt⟩ := hty.inv; obtain ⟨kv, nv, sv, lsv, tsv, lav, lcv, tav, tcv, evl, rfl, hkv, hnv, hsv, hllv, hltv, hLv, hTv⟩ := hvl.inv
  refine Runs.of_vc (ρ := []) cx_ok [0, 1, 2, 3, 4, 5, 25, 40, 54] [.a [.v (.int .u8 x.kind), .v (.string x.name), .v (.int .i64 x.params), .v (.int .u8 kt), .v (.int .i64 nt), .v (.string st), .v (.slice lat lst.length lct), .v (.slice tat tst.length tct), .v (.int .u8 kv), .v (.int .i64 nv), .v (.string sv), .v (.slice lav lsv.length lcv), .v (.slice tav tsv.length tcv), .v (.int .i64 x.height), .v (.string x.block), .v (.string x.of_), .v (.int .i64 x.fixed), .v (.int .i64 x.index), .v (.int .i64 x.no), .v (.int .i64 x.fields), .v (.int .i64 x.motives), .v (.int .i64 x.minors), .v (.slice ra x.rules.length rc), .v (.int .i64 x.ctors), .v (.bool x.record)]] Tryz.func131 rfl rfl rfl (Holds.nil w) ?_
  intro g1 w1 e1 x1 z1 hh1
  obtain ⟨-, -, -, -, -, -, k1, k2, k3, k4, k5, k6, k7⟩ := hok
  refine OpT.buildE (E := encI) (R := R) (vs := [_, _, _, _, _, _, _]) (l := [x.fixed, x.index, x.no, x.fields, x.motives, x.minors, x.ctors]) Tryz.zeroValue3 (.cons rfl (.cons rfl (.cons rfl (.cons rfl (.cons rfl (.cons rfl (.cons rfl (.nil)))))))) Tryz.underlying149 Tryz.sizeOf3 rfl rfl (Reps.cons (⟨rfl, k1⟩) (Reps.cons (⟨rfl, k2⟩) (Reps.cons (⟨rfl, k3⟩) (Reps.cons (⟨rfl, k4⟩) (Reps.cons (⟨rfl, k5⟩) (Reps.cons (⟨rfl, k6⟩) (Reps.cons (⟨rfl, k7⟩) (Reps.nil _ _ _)))))))) rfl rfl hh1 fun w2 g2 e2 x2 z2 o2 hh2 => ?_
  have y2 := x1.trans x2
  refine vLoop_upd (σ := Nat × Option Addr × Nat) [3, 4, 21, 22, 23, 24, 25, 26, 27, 28, 29, 30, 31, 32, 33, 34, 35, 36] (fun s => [(4, .v (.int .i64 s.1)), (3, .v (.slice s.2.1 ([x.fixed, x.index, x.no, x.fields, x.motives, x.minors, x.ctors] ++ (x.rules.take s.1).map (·.f)).length s.2.2))]) [] (fun _ => [])
    (fun s w' => Ext w w' ∧ w1.heap.size ≤ w'.heap.size ∧ s.1 ≤ x.rules.length ∧ OwnE encI w' w1.heap.size 3 R s.2.1 s.2.2 ([x.fixed, x.index, x.no, x.fields, x.motives, x.minors, x.ctors] ++ (x.rules.take s.1).map (·.f))) (fun s => x.rules.length - s.1) (0, some ⟨g2, 0, none⟩, 7) (fun _ => ⟨rfl, rfl⟩)
    ⟨⟨rfl, rfl, trivial⟩, (by repeat (first | exact trivial | refine And.intro rfl ?_)), (by repeat (first | exact trivial | refine And.intro rfl ?_)), (by repeat (first | exact trivial | refine And.intro rfl ?_)), y2, by omega, Nat.zero_le _, by simpa using o2⟩ ?_
  rintro ⟨i, A6, c6⟩ w6 hh6 ⟨y6, q6, hi, o6⟩
  simp only at hi o6
  refine Or.inl (And.intro (fun h => ?_) (fun h => ?_))
  · have hil : i < x.rules.length := by have := of_decide_eq_true h; simp only at this; omega
    obtain ⟨a, cr, ha, _, hrow, hR'⟩ := (hru.ext y6).at hil
    have htk : x.rules.take (i + 1) = x.rules.take i ++ [x.rules[i]] := take_snoc _ _ hil
    generalize x.rules[i] = r at *
    obtain ⟨cb, rfl, hbo, hrf, hrc⟩ := hR'
    obtain ⟨kb, nb, sb, lsb, tsb, lab, lcb, tab, tcb, ebo, rfl, hkb, hnb, hsb, hllb, hltb, hLb, hTb⟩ := hbo.inv
    refine OpT.indexAddr Tryz.underlying34 Tryz.sizeOf84 rfl rfl ha (by first | omega | (simp only [lenOk] at *; omega)) ?_; refine Lands.v hh6 ?_
    refine OpT.load Tryz.isAgg3 rfl (hrow.cell 1 rfl) ?_; refine Lands.v hh6 ?_
    refine OpT.buildE (E := encI) (R := R) (vs := [_]) (l := [r.f]) Tryz.zeroValue3 (.cons rfl (.nil)) Tryz.underlying149 Tryz.sizeOf3 rfl rfl (Reps.cons (⟨rfl, hrf⟩) (Reps.nil _ _ _)) rfl rfl hh6 fun w9 g9 e9 x9 z9 o9 hh9 => ?_
    have hlen : ([x.fixed, x.index, x.no, x.fields, x.motives, x.minors, x.ctors] ++ (x.rules.take (i + 1)).map (·.f)).length ≤ 1000007 := by simp; omega
    refine OpT.appendO (E := encI) elI8 Tryz.underlying149 Tryz.underlying149 rfl rfl rfl rfl (l3 := [x.fixed, x.index, x.no, x.fields, x.motives, x.minors, x.ctors] ++ (x.rules.take (i + 1)).map (·.f)) (by rw [htk]; simp) rfl o6 x9 o9 (by omega) (fun k hk => by have := hR k hk; omega) (y6.trans x9) (by omega) hh9 (by repeat (first | exact trivial | refine And.intro (by omega) ?_)) (by omega) fun w10 A10 c10 y10 z10 o10 hh10 => ?_
    refine vsd (by simp only [inKind]; omega) ?_
    exact Exists.intro ((i + 1, A10, c10)) ⟨by simp only; omega, esub_over (by repeat (first | exact trivial | refine And.intro rfl ?_)) (by repeat (first | exact trivial | refine And.intro rfl ?_)), hsub_over (by repeat (first | exact trivial | refine And.intro rfl ?_)) (by repeat (first | exact trivial | refine And.intro rfl ?_)), y10, by omega, hil, o10⟩
  · obtain rfl : i = x.rules.length := by have := of_decide_eq_false h; simp only at this; omega
    rw [List.take_length] at o6
    have hN : infN x = [x.fixed, x.index, x.no, x.fields, x.motives, x.minors, x.ctors] ++ x.rules.map (·.f) := rfl
    rw [List.take_length, ← hN]
    rw [← hN] at o6
    have hNl : (infN x).length ≤ 1000000 := by rw [hN]; simp; omega
    generalize infN x = l at *
    refine vLoop_upd (σ := Nat) [2, 5, 37, 38, 39, 40, 41, 42, 43, 44, 45, 46, 47, 48, 49, 50, 51, 52, 53, 54] (fun i => [(5, .v (.int .i64 i))]) [] (fun _ => []) (fun i w' => Ext w6 w' ∧ i ≤ l.length ∧ (l.drop i).any great = l.any great) (fun i => l.length - i) 0 (fun _ => ⟨rfl, rfl⟩)
      ⟨(by repeat (first | exact trivial | refine And.intro rfl ?_)), (by repeat (first | exact trivial | refine And.intro rfl ?_)), (by repeat (first | exact trivial | refine And.intro rfl ?_)), (by repeat (first | exact trivial | refine And.intro rfl ?_)), Ext.refl _, Nat.zero_le _, rfl⟩ ?_
    rintro i w7 hh7 ⟨x7, hi, ha⟩
    refine Or.inl (And.intro (fun h => ?_) (fun h => ?_))
    · have hil : i < l.length := by have := of_decide_eq_true h; omega
      obtain ⟨a1, cs1, ha1, _, hrow, hs1⟩ := (o6.sl.ext x7).at hil
      obtain ⟨rfl, hs1⟩ := hs1
      rw [List.drop_eq_getElem_cons hil, List.any_cons] at ha
      generalize l[i] = n at *
      refine OpT.indexAddr Tryz.underlying149 Tryz.sizeOf3 rfl rfl ha1 (by first | omega | (simp only [lenOk] at *; omega)) ?_; refine Lands.v hh7 ?_
      refine OpT.load Tryz.isAgg3 rfl (hrow.cell 0 rfl) ?_; refine Lands.v hh7 ?_
      have hG : great n = (decide (n < 0) || decide (1000 < n)) := rfl
      by_cases hn : decide (n < 0) = true
      · refine vskip (gF hn) ?_
        refine vskip (gF hn) ?_
        refine vskip (gF hn) ?_
        refine OpT.pickT rfl hn rfl ?_
        refine Lands.v hh7 ?_
        refine Or.inl (And.intro (fun _ => ?_) (fun hx => nomatch (rfl).symm.trans hx))
        rw [hG, hn, Bool.true_or, Bool.true_or] at ha
        rw [← ha]
        exact ⟨rfl, y6.trans x7⟩
      · have hn : decide (n < 0) = false := by simpa using hn
        refine vyes (gT hn) ?_
        refine OpT.indexAddr Tryz.underlying149 Tryz.sizeOf3 rfl rfl ha1 (by first | omega | (simp only [lenOk] at *; omega)) ?_; refine Lands.v hh7 ?_
        refine vyes (gT hn) ?_
        refine OpT.load Tryz.isAgg3 rfl (hrow.cell 0 rfl) ?_; refine Lands.v hh7 ?_
        refine Or.inl (And.intro (fun h => ?_) (fun h => ?_))
        · have h2 : great n = true := by rw [hn] at h; rw [hG, hn]; simpa [sel] using h
          rw [h2, Bool.true_or] at ha
          rw [← ha]
          exact ⟨rfl, y6.trans x7⟩
        · have h2 : great n = false := by rw [hn] at h; rw [hG, hn]; simpa [sel] using h
          rw [h2, Bool.false_or] at ha
          refine vsd (by simp only [inKind]; omega) ?_
          exact Exists.intro (i + 1) ⟨by omega, esub_over (by repeat (first | exact trivial | refine And.intro rfl ?_)) (by repeat (first | exact trivial | refine And.intro rfl ?_)), hsub_over (by repeat (first | exact trivial | refine And.intro rfl ?_)) (by repeat (first | exact trivial | refine And.intro rfl ?_)), x7, hil, ha⟩
    · obtain rfl : i = l.length := by have := of_decide_eq_false h; omega
      rw [List.drop_length] at ha
      rw [← ha]
      exact ⟨rfl, y6.trans x7⟩
theorem ixB_pos (s : ByteArray) (l : List Inf) : decide (0 ≤ ixB (nmD s) l 0) = (findI l s).isSome := by
  rcases ixB_find s l 0 with ⟨h1, h2⟩ | ⟨k, hk, h1, h2⟩
  · rw [h2]; simp only [Option.isSome_none, decide_eq_false_iff_not]; omega
  · rw [h1, h2]; simp
theorem checkB_5' {L xs : List Inf} {i : Nat} {x : Inf} (h : nameB x.name = false ∨ (findI L x.name).isSome = true ∨ nameIn (xs.take i) x.name = true) : checkB L xs i x = 5 := by
  unfold checkB; rw [if_pos h]
set_option maxHeartbeats 2000000 in
set_option maxRecDepth 20000 in
theorem rcheck_runs {R R' : Nat → Prop} (e : Nat) (A B : Option Addr) (c bc : Nat) (l xs : List Inf) (i : Nat) (hi : i < xs.length) (w : World) (b : Box w e [.slice A l.length c]) (hA : Sl encInf w R A l) (hl : Sl encInf w R' B xs) (hR' : ∀ k, R' k → k < w.heap.size) (hB : lenOk xs.length bc) (hsz : xs.length ≤ 1000000) (hsl : l.length ≤ 1000000) (hrl : ∀ x ∈ xs, x.rules.length ≤ 1000) :
    Runs Tryz.prog 101 #[.pointer (some ⟨e, 0, none⟩), .slice B xs.length bc, .int .i64 i] w fun v w' => v = .int .i64 (checkB l xs i xs[i]) ∧ Ext w w' := by
  have hh := Holds.one (g := e) (cs := [.v (.slice A l.length c)]) b rfl
  refine Runs.of_vc (ρ := [e]) cx_ok [0, 1, 2, 6, 7, 8, 9, 10, 11, 12, 13, 40, 53, 61, 67, 83, 91, 95, 106, 117, 139] [.p 0 0, .v _, .v _] Tryz.func101 rfl rfl rfl hh ?_
  obtain ⟨a1, cs, ha1, _, hrow, hv⟩ := hl.at hi
  have hxr := hrl _ (List.getElem_mem hi)
  generalize xs[i] = x at *
  have hvw : VI w R' cs x := hv
  have hv : VI w R' cs x := hv
  obtain ⟨ct, cv, ra, rc, rfl, hty, hvl, hru, hrl, hok⟩ := hv; obtain ⟨kt, nt, st, lst, tst, lat, lct, tat, tct, ety, rfl, hkt, hnt, hst, hllt, hltt, hLt, hTt⟩ := hty.inv; obtain ⟨kv, nv, sv, lsv, tsv, lav, lcv, tav, tcv, evl, rfl, hkv, hnv, hsv, hllv, hltv, hLv, hTv⟩ := hvl.inv
  refine OpT.indexAddr Tryz.underlying22 Tryz.sizeOf36 rfl rfl ha1 (by first | omega | (simp only [lenOk] at *; omega)) ?_; refine Lands.v hh ?_
  refine OpT.loadA Tryz.isAgg36 (by exact Tryz.sizeOf36) rfl hrow ?_; refine Lands.ret (s := .a [.v (.int .u8 x.kind), .v (.string x.name), .v (.int .i64 x.params), .v (.int .u8 kt), .v (.int .i64 nt), .v (.string st), .v (.slice lat lst.length lct), .v (.slice tat tst.length tct), .v (.int .u8 kv), .v (.int .i64 nv), .v (.string sv), .v (.slice lav lsv.length lcv), .v (.slice tav tsv.length tcv), .v (.int .i64 x.height), .v (.string x.block), .v (.string x.of_), .v (.int .i64 x.fixed), .v (.int .i64 x.index), .v (.int .i64 x.no), .v (.int .i64 x.fields), .v (.int .i64 x.motives), .v (.int .i64 x.minors), .v (.slice ra x.rules.length rc), .v (.int .i64 x.ctors), .v (.bool x.record)]) rfl rfl hh ?_
  intro g1 w1 e1 x1 z1 hh1; intro w2 m2 z2 hh2; replace m2 : Upd g1 w1 w2 := m2; have x2 : Ext w w2 := x1.upd m2 (by omega); have q2 := x2.size
  have hn : x.name.size ≤ 9223372036854775807 := hok.2.1
  refine vDrw_mk [2, 11, 20] (.one 0 (.one 1 (.one 2 (.one 3 (.one 4 (.one 5 (.one 6 (.one 7 (.one 8 (.one 9 (.one 10 (.one 11 (.one 12 (.one 13 (.one 14 (.one 15 (.one 16 (.one 17 (.one 18 (.one 19 (.one 20 (.one 21 (.one 22 .nil))))))))))))))))))))))) rfl fun w3 x3 hh3 => ?_
  refine vcZ (rname_runs x.name hn w3) hh3 fun w4 x4 z4 hh4 => ?_
  have y4 := x2.trans (x3.trans x4)
  have q4 := y4.size
  have htl : (xs.take i).length = i := by rw [List.length_take]; omega
  refine Or.inl (Exists.intro (.int .i64 (ixB (nmD x.name) l 0)) (And.intro (fun _ => rfind_runs A l c x.name w4 (hA.ext y4) hsl) (fun w5 x5 hh5 => ?_)))
  have y5 := y4.trans x5
  have q5 := y5.size
  refine Exists.intro (.v (.slice B (xs.take i).length bc)) (And.intro rfl (And.intro (fun w' xx hh _ => OpT.slicePre Tryz.underlying22 Tryz.sizeOf36 rfl rfl (j := (i : Int)) (by simp only [lenOk] at hB; omega) (by rw [List.length_take]; omega) ⟨rfl, rfl⟩) ?_))
  refine Or.inl (Exists.intro (.int .i64 (ixB (nmD x.name) (xs.take i) 0)) (And.intro (fun _ => rfind_runs B (xs.take i) bc x.name w5 ((hl.ext y5).take i) (by omega)) (fun w6 x6 hh6 => ?_)))
  have y6 := y5.trans x6
  have q6 := y6.size
  have ek : sel (sel (!nameB x.name) true (decide (ixB (nmD x.name) l 0 ≥ 0))) true (decide (ixB (nmD x.name) (xs.take i) 0 ≥ 0)) = (!nameB x.name || (findI l x.name).isSome || nameIn (xs.take i) x.name) := by
    rw [show decide (ixB (nmD x.name) l 0 ≥ 0) = (findI l x.name).isSome from ixB_pos _ _, show decide (ixB (nmD x.name) (xs.take i) 0 ≥ 0) = (findI (xs.take i) x.name).isSome from ixB_pos _ _, findI_nameIn (xs.take i)]
    cases nameB x.name <;> cases (findI l x.name).isSome <;> rfl
  refine Or.inl (And.intro (fun h => ?_) (fun h => ?_))
  · have h := ek.symm.trans h
    simp only [Bool.or_eq_true, Bool.not_eq_true', or_assoc] at h
    exact ⟨by rw [checkB_5' h]; rfl, y6⟩
  · have h := ek.symm.trans h
    simp only [Bool.or_eq_false_iff, Bool.not_eq_false'] at h
    have k2 := h
    have hgo : checkB l xs i x = if x.kind < 1 ∨ 6 < x.kind ∨ badNums x = true then 1
        else if x.params < 0 ∨ 4 < x.params then 8
        else if firstB (closedE x.params.toNat) (infT x) ≠ 0 then firstB (closedE x.params.toNat) (infT x)
        else firstB (namesE l (if valB x.kind = true then xs.take i else xs)) (infT x) := by
      unfold checkB; rw [if_neg (by rw [h.1.1, h.1.2, h.2]; simp)]
    rw [hgo]
    have hI : VI w6 R' _ x := hvw.ext y6
    refine Or.inl (Exists.intro (.bool (!badNums x)) (And.intro (fun _ => rnumbers_runs x _ w6 hI (fun k hk => by have := hR' k hk; omega) (by omega)) (fun w7 x7 hh7 => ?_)))
    have y7 := y6.trans x7
    have q7 := y7.size
    have eb : sel (sel (decide (x.kind < 1)) true (decide (x.kind > 6))) true (!!badNums x) = decide (x.kind < 1 ∨ 6 < x.kind ∨ badNums x = true) := by
      by_cases h1 : x.kind < 1 <;> by_cases h2 : 6 < x.kind <;> cases badNums x <;> simp [sel, h1, h2]
    refine Or.inl (And.intro (fun h => ?_) (fun h => ?_))
    · exact ⟨by rw [if_pos (of_decide_eq_true (eb.symm.trans h))]; rfl, y7⟩
    · rw [if_neg (of_decide_eq_false (eb.symm.trans h))]
      refine Or.inl (And.intro (fun h => ?_) (fun h => ?_))
      · have h : x.params < 0 ∨ 4 < x.params := by revert h; unfold sel; cases hq : decide (x.params < 0) <;> simp at hq ⊢ <;> omega
        exact ⟨by rw [if_pos h]; rfl, y7⟩
      · have h : ¬ (x.params < 0 ∨ 4 < x.params) := by revert h; unfold sel; cases hq : decide (x.params < 0) <;> simp at hq ⊢ <;> omega
        rw [if_neg h]
        obtain ⟨p, hp⟩ : ∃ p : Nat, x.params = p := ⟨x.params.toNat, by omega⟩
        have hI := hI.ext x7
        refine vcV (rterms_runs x _ w7 hI (fun k hk => by have := hR' k hk; omega) (by omega)) hh7 fun v8 w8 x8 z8 hh8 p8 => ?_
        obtain ⟨A8, c8, rfl, o8⟩ := p8
        have hl8 := infT_len x (by omega)
        have y8 := y7.trans x8
        have q8 := y8.size
        have hp4 : p ≤ 4 := by omega
        have epn : x.params.toNat = p := by omega
        rw [epn]
        generalize hT : infT x = ts at *
        refine vLoop_upd (σ := Nat) [6, 9, 64, 65, 66, 67, 68, 69, 70, 71, 72, 73, 74, 75, 76, 77, 78, 79, 80, 81, 82, 83, 84, 85, 86, 87, 88, 89, 90, 91] (fun i => [(9, .v (.int .i64 i))]) [] (fun _ => []) (fun j w' => Ext w8 w' ∧ j ≤ ts.length ∧ firstB (closedE p) (ts.drop j) = firstB (closedE p) ts) (fun j => ts.length - j) 0 (fun _ => ⟨rfl, rfl⟩)
          ⟨(by repeat (first | exact trivial | refine And.intro rfl ?_)), (by repeat (first | exact trivial | refine And.intro rfl ?_)), (by repeat (first | exact trivial | refine And.intro rfl ?_)), (by repeat (first | exact trivial | refine And.intro rfl ?_)), Ext.refl _, Nat.zero_le _, rfl⟩ ?_
        rintro j w9 hh9 ⟨x9, hj, hf⟩
        have y9 := y8.trans x9
        refine Or.inl (And.intro (fun h => ?_) (fun h => ?_))
        · have hjl : j < ts.length := by have := of_decide_eq_true h; omega
          rw [firstB_drop _ ts j hjl] at hf
          obtain ⟨a2, cs2, ha2, _, hrow2, hv2⟩ := (o8.sl.ext x9).at hjl
          generalize ts[j] = t at *
          have hv2 : VT w9 _ cs2 t := hv2
          have hv20 := hv2
          obtain ⟨kx, nx, sx, lsx, tsx, lax, lcx, tax, tcx, ex, rfl, hkx, hnx, hsx, hllx, hltx, hLx, hTx⟩ := hv2.inv
          refine OpT.indexAddr Tryz.underlying31 Tryz.sizeOf33 rfl rfl ha2 (by first | omega | (simp only [lenOk] at *; omega)) ?_; refine Lands.v hh9 ?_
          refine OpT.loadA Tryz.isAgg33 (by exact Tryz.sizeOf33) rfl hrow2 ?_; refine Lands.ret (s := .a [.v (.int .u8 kx), .v (.int .i64 nx), .v (.string sx), .v (.slice lax lsx.length lcx), .v (.slice tax tsx.length tcx)]) rfl rfl hh9 ?_
          refine vcZ (rMay_runs t _ w9 _ hv20) hh9 fun w10 x10 z10 hh10 => ?_
          by_cases hm : mayT t = true
          · have gm : (!mayT t) = false := by rw [hm]; rfl
            refine vyes (gT gm) ?_
            refine OpT.indexAddr Tryz.underlying31 Tryz.sizeOf33 rfl rfl ha2 (by first | omega | (simp only [lenOk] at *; omega)) ?_; refine Lands.v hh10 ?_
            refine vyes (gT gm) ?_
            refine OpT.loadA Tryz.isAgg33 (by exact Tryz.sizeOf33) rfl (hrow2.ext x10) ?_; refine Lands.ret (s := .a [.v (.int .u8 kx), .v (.int .i64 nx), .v (.string sx), .v (.slice lax lsx.length lcx), .v (.slice tax tsx.length tcx)]) rfl rfl hh10 ?_
            refine vyes (gT gm) ?_
            refine vcZ (rFree_runs t _ w10 _ (hv20.ext x10) hm) hh10 fun w11 x11 z11 hh11 => ?_
            have y11 := y9.trans (x10.trans x11)
            refine Or.inl (And.intro (fun h => ?_) (fun h => ?_))
            · have h : 0 < free t 0 := by rw [gm] at h; simpa [sel] using h
              have e7 : closedE p t = 7 := by unfold closedE; rw [if_pos (.inr h)]
              rw [e7, if_pos (by decide)] at hf
              rw [← hf, if_pos (by decide)]
              exact ⟨rfl, y11⟩
            · have h : ¬ 0 < free t 0 := by rw [gm] at h; simpa [sel] using h
              have e7 : closedE p t = if belowB p t = false then 8 else 0 := by unfold closedE; rw [if_neg (by rw [hm]; simp; omega)]
              rw [e7] at hf
              refine vDrw_mk [6] (.one 0 (.one 1 (.one 2 (.one 3 (.one 4 (.one 5 (.one 6 (.one 7 .nil)))))))) rfl fun w12 x12 hh12 => ?_
              refine Exists.intro (.v (.pointer (some (a2.add (j * 5))))) (And.intro rfl (And.intro (fun w' xx hh => OpT.indexAddr Tryz.underlying31 Tryz.sizeOf33 rfl rfl ha2 (by simp only [lenOk] at *; omega) ⟨rfl, rfl⟩) ?_))
              refine Exists.intro (.a [.v (.int .u8 kx), .v (.int .i64 nx), .v (.string sx), .v (.slice lax lsx.length lcx), .v (.slice tax tsx.length tcx)]) (And.intro rfl (And.intro (fun w' xx hh => OpT.loadA Tryz.isAgg33 (by exact Tryz.sizeOf33) rfl (hrow2.ext (x10.trans (x11.trans (x12.trans xx)))) ⟨rfl, rfl⟩) ?_))
              have hbr := rbelow_runs p hp4 t _ w12 (hv20.ext (x10.trans (x11.trans x12)))
              rw [← hp] at hbr
              refine vcZ hbr hh12 fun w13 x13 z13 hh13 => ?_
              have y13 := y11.trans (x12.trans x13)
              refine Or.inl (And.intro (fun h => ?_) (fun h => ?_))
              · have h : belowB p t = false := notT h
                rw [if_pos h, if_pos (by decide)] at hf
                rw [← hf, if_pos (by decide)]
                exact ⟨rfl, y13⟩
              · have h : belowB p t = true := notF h
                rw [if_neg (by rw [h]; decide)] at hf
                refine vsd (by simp only [inKind]; omega) ?_
                exact Exists.intro (j + 1) ⟨by omega, esub_over (by repeat (first | exact trivial | refine And.intro rfl ?_)) (by repeat (first | exact trivial | refine And.intro rfl ?_)), hsub_over (by repeat (first | exact trivial | refine And.intro rfl ?_)) (by repeat (first | exact trivial | refine And.intro rfl ?_)), x9.trans (x10.trans (x11.trans (x12.trans x13))), hjl, hf⟩
          · have hm : mayT t = false := by simpa using hm
            have gm : (!mayT t) = true := by rw [hm]; rfl
            refine vskip (gF gm) ?_
            refine vskip (gF gm) ?_
            refine vskip (gF gm) ?_
            refine vskip (gF gm) ?_
            refine OpT.pickT rfl gm rfl ?_
            refine Lands.v hh10 ?_
            refine Or.inl (And.intro (fun _ => ?_) (fun hx => nomatch (rfl).symm.trans hx))
            have e7 : closedE p t = 7 := by unfold closedE; rw [if_pos (.inl hm)]
            rw [e7, if_pos (by decide)] at hf
            rw [← hf, if_pos (by decide)]
            exact ⟨rfl, y9.trans x10⟩
        · obtain rfl : j = ts.length := by have := of_decide_eq_false h; omega
          rw [List.drop_length] at hf
          have hf0 : firstB (closedE p) ts = 0 := hf.symm
          rw [if_neg (by rw [hf0]; decide)]
          have hmay : ∀ t ∈ ts, mayT t = true := fun t ht => by
            have h0 := firstB_zero hf0 t ht
            unfold closedE at h0
            by_cases hm : mayT t = true
            · exact hm
            · rw [if_pos (.inl (by simpa using hm))] at h0; omega
          have hws : (if valB x.kind = true then xs.take i else xs).length ≤ 1000000 := by
            split
            · omega
            · exact hsz
          have hlw : ∀ {wz : World}, Ext w wz → Sl encInf wz R' B (if valB x.kind = true then xs.take i else xs) := fun hx => by
            split
            · exact (hl.ext hx).take i
            · exact hl.ext hx
          have key : sel (decide (x.kind = 2)) true (decide (x.kind = 3)) = valB x.kind := by unfold valB; cases decide (x.kind = 2) <;> rfl
          refine vLoop_upd (σ := Nat) [6, 10, 11, 12, 13, 92, 93, 94, 95, 96, 97, 98, 99, 100, 101, 102, 103, 104, 105, 106, 107, 108, 109, 110, 111, 112, 113, 114, 115, 116, 117, 118, 119, 120, 121, 122, 123, 124, 125, 126, 127, 128, 129, 130, 131, 132, 133, 134, 135, 136, 137, 138, 139] (fun i => [(10, .v (.int .i64 i))]) [] (fun _ => []) (fun j w' => Ext w8 w' ∧ j ≤ ts.length ∧ firstB (namesE l (if valB x.kind = true then xs.take i else xs)) (ts.drop j) = firstB (namesE l (if valB x.kind = true then xs.take i else xs)) ts) (fun j => ts.length - j) 0 (fun _ => ⟨rfl, rfl⟩)
            ⟨(by repeat (first | exact trivial | refine And.intro rfl ?_)), (by repeat (first | exact trivial | refine And.intro rfl ?_)), (by repeat (first | exact trivial | refine And.intro rfl ?_)), (by repeat (first | exact trivial | refine And.intro rfl ?_)), x9, Nat.zero_le _, rfl⟩ ?_
          clear x9 y9 hf
          rintro j w9 hh9 ⟨x9, hj, hf⟩
          have y9 := y8.trans x9
          refine Or.inl (And.intro (fun h => ?_) (fun h => ?_))
          · have hjl : j < ts.length := by have := of_decide_eq_true h; omega
            rw [firstB_drop _ ts j hjl] at hf
            obtain ⟨a2, cs2, ha2, _, hrow2, hv2⟩ := (o8.sl.ext x9).at hjl
            have hm := hmay _ (List.getElem_mem hjl)
            generalize ts[j] = t at *
            have hv2 : VT w9 _ cs2 t := hv2
            have hv20 := hv2
            obtain ⟨kx, nx, sx, lsx, tsx, lax, lcx, tax, tcx, ex, rfl, hkx, hnx, hsx, hllx, hltx, hLx, hTx⟩ := hv2.inv
            refine OpT.indexAddr Tryz.underlying31 Tryz.sizeOf33 rfl rfl ha2 (by first | omega | (simp only [lenOk] at *; omega)) ?_; refine Lands.v hh9 ?_
            refine OpT.loadA Tryz.isAgg33 (by exact Tryz.sizeOf33) rfl hrow2 ?_; refine Lands.ret (s := .a [.v (.int .u8 kx), .v (.int .i64 nx), .v (.string sx), .v (.slice lax lsx.length lcx), .v (.slice tax tsx.length tcx)]) rfl rfl hh9 ?_
            refine vcV (rNames_runs t _ w9 _ hv20 hm) hh9 fun v10 w10 x10 z10 hh10 p10 => ?_
            obtain ⟨A10, c10, rfl, hc10, o10⟩ := p10
            have y10 := y9.trans x10
            have hnE : namesE l (if valB x.kind = true then xs.take i else xs) t = firstB (thereE l (if valB x.kind = true then xs.take i else xs)) (nms t) := rfl
            have hnl := nmsE_len t
            generalize hN : nms t = ns at *
            refine vLoop_upd (σ := Nat) [6, 12, 13, 103, 104, 105, 106, 107, 108, 109, 110, 111, 112, 113, 114, 115, 116, 117, 118, 119, 120, 121, 122, 123, 124, 125, 126, 127, 128, 129, 130, 131, 132, 133, 134, 135, 136, 137, 138, 139] (fun i => [(12, .v (.int .i64 i))]) [] (fun _ => []) (fun k w' => Ext w10 w' ∧ k ≤ ns.length ∧ firstB (thereE l (if valB x.kind = true then xs.take i else xs)) (ns.drop k) = firstB (thereE l (if valB x.kind = true then xs.take i else xs)) ns) (fun k => ns.length - k) 0 (fun _ => ⟨rfl, rfl⟩)
              ⟨(by repeat (first | exact trivial | refine And.intro rfl ?_)), (by repeat (first | exact trivial | refine And.intro rfl ?_)), (by repeat (first | exact trivial | refine And.intro rfl ?_)), (by repeat (first | exact trivial | refine And.intro rfl ?_)), Ext.refl _, Nat.zero_le _, rfl⟩ ?_
            rintro k w11 hh11 ⟨x11, hk, hg⟩
            have y11 := y10.trans x11
            refine Or.inl (And.intro (fun h => ?_) (fun h => ?_))
            · have hkl : k < ns.length := by have := of_decide_eq_true h; omega
              rw [firstB_drop _ ns k hkl] at hg
              obtain ⟨a3, cs3, ha3, _, hrow3, hs3⟩ := (o10.ext x11).at hkl
              obtain ⟨rfl, hs3⟩ := hs3
              generalize ns[k] = s at *
              refine vJoin_upd (σ := Unit) [13, 118, 119, 120] (fun _ => [(13, .v (.slice B (if valB x.kind = true then xs.take i else xs).length bc))]) [] (fun _ => []) (fun _ w' => Ext w11 w') (fun _ => ⟨rfl, rfl⟩) (fun h => ?_) (fun h => ?_) ?_
              · rw [if_pos (key.symm.trans h)]
                refine OpT.slicePre Tryz.underlying22 Tryz.sizeOf36 rfl rfl (j := (i : Int)) (by simp only [lenOk] at hB; omega) (m := (xs.take i).length) (by rw [htl]; omega) ?_
                refine Lands.v hh11 ?_
                exact Exists.intro (()) ⟨esub_over (by repeat (first | exact trivial | refine And.intro rfl ?_)) (by repeat (first | exact trivial | refine And.intro rfl ?_)), hsub_over (by repeat (first | exact trivial | refine And.intro rfl ?_)) (by repeat (first | exact trivial | refine And.intro rfl ?_)), Ext.refl _⟩
              · rw [if_neg (by rw [key.symm.trans h]; decide)]
                exact Exists.intro (()) ⟨esub_over (by repeat (first | exact trivial | refine And.intro rfl ?_)) (by repeat (first | exact trivial | refine And.intro rfl ?_)), hsub_over (by repeat (first | exact trivial | refine And.intro rfl ?_)) (by repeat (first | exact trivial | refine And.intro rfl ?_)), Ext.refl _⟩
              rintro ⟨⟩ w12 hh12 x12
              have y12 := y11.trans x12
              refine vDrw_mk [8, 16] (.one 0 (.one 1 (.one 2 (.one 3 (.one 4 (.one 5 (.one 6 (.one 7 (.one 8 (.one 9 (.one 10 (.one 11 (.one 12 (.one 13 (.one 14 (.one 15 (.one 16 (.one 17 (.one 18 .nil))))))))))))))))))) rfl fun w13 x13 hh13 => ?_
              have y13 := y12.trans x13
              have r13 := hrow3.ext (x12.trans x13)
              refine Exists.intro (.v (.pointer (some (a3.add (k * 1))))) (And.intro rfl (And.intro (fun w' xx hh => OpT.indexAddr Tryz.underlying28 Tryz.sizeOf9 rfl rfl ha3 (by simp only [lenOk] at *; omega) ⟨rfl, rfl⟩) ?_))
              refine Exists.intro (.v (.string s)) (And.intro rfl (And.intro (fun w' xx hh => OpT.load Tryz.isAgg9 rfl ((r13.ext xx).cell 0 rfl) ⟨rfl, rfl⟩) ?_))
              refine vcZ (rfind_runs A l c s w13 (hA.ext y13) hsl) hh13 fun w14 x14 z14 hh14 => ?_
              have y14 := y13.trans x14
              refine Exists.intro (.v (.pointer (some (a3.add (k * 1))))) (And.intro rfl (And.intro (fun w' xx hh _ => OpT.indexAddr Tryz.underlying28 Tryz.sizeOf9 rfl rfl ha3 (by simp only [lenOk] at *; omega) ⟨rfl, rfl⟩) ?_))
              refine Exists.intro (.v (.string s)) (And.intro rfl (And.intro (fun w' xx hh _ => OpT.load Tryz.isAgg9 rfl (((r13.ext x14).ext xx).cell 0 rfl) ⟨rfl, rfl⟩) ?_))
              refine Or.inl (Exists.intro (.int .i64 (ixB (nmD s) (if valB x.kind = true then xs.take i else xs) 0)) (And.intro (fun _ => rfind_runs B _ bc s w14 (hlw y14) hws) (fun w15 x15 hh15 => ?_)))
              have y15 := y14.trans x15
              have eh : sel (decide (ixB (nmD s) l 0 < 0)) (decide (ixB (nmD s) (if valB x.kind = true then xs.take i else xs) 0 < 0)) false = decide ((findI l s).isSome = false ∧ nameIn (if valB x.kind = true then xs.take i else xs) s = false) := by
                rw [ixB_neg, ixB_neg, findI_nameIn (if valB x.kind = true then xs.take i else xs)]
                cases (findI l s).isSome <;> cases nameIn (if valB x.kind = true then xs.take i else xs) s <;> rfl
              refine Or.inl (And.intro (fun h => ?_) (fun h => ?_))
              · have e6 : thereE l (if valB x.kind = true then xs.take i else xs) s = 6 := if_pos (of_decide_eq_true (eh.symm.trans h))
                rw [e6, if_pos (by decide)] at hg
                rw [hnE, ← hg, if_pos (by decide)] at hf
                rw [← hf]
                exact ⟨rfl, y15⟩
              · have e6 : thereE l (if valB x.kind = true then xs.take i else xs) s = 0 := if_neg (of_decide_eq_false (eh.symm.trans h))
                rw [e6, if_neg (by decide)] at hg
                refine vsd (by simp only [inKind]; omega) ?_
                exact Exists.intro (k + 1) ⟨by omega, esub_over (by repeat (first | exact trivial | refine And.intro rfl ?_)) (by repeat (first | exact trivial | refine And.intro rfl ?_)), hsub_over (by repeat (first | exact trivial | refine And.intro rfl ?_)) (by repeat (first | exact trivial | refine And.intro rfl ?_)), x11.trans (x12.trans (x13.trans (x14.trans x15))), hkl, hg⟩
            · obtain rfl : k = ns.length := by have := of_decide_eq_false h; omega
              rw [List.drop_length] at hg
              rw [hnE, ← hg, if_neg (by simp [firstB])] at hf
              refine vsd (by simp only [inKind]; omega) ?_
              exact Exists.intro (j + 1) ⟨by omega, esub_over (by repeat (first | exact trivial | refine And.intro rfl ?_)) (by repeat (first | exact trivial | refine And.intro rfl ?_)), hsub_over (by repeat (first | exact trivial | refine And.intro rfl ?_)) (by repeat (first | exact trivial | refine And.intro rfl ?_)), x9.trans (x10.trans x11), hjl, hf⟩
          · obtain rfl : j = ts.length := by have := of_decide_eq_false h; omega
            rw [List.drop_length] at hf
            rw [← hf]
            exact ⟨rfl, y9⟩
end Go.Proofs.YtfljbnhhkdaobaaGreat

/-
  The document's environment: Height, Find, Add.
-/
namespace Go.Proofs.YtfljbnhhkdaobaaGreat
open Go Go.RowKit Go.Proofs.Bw
set_option linter.unusedVariables false
set_option linter.unusedSimpArgs false
set_option maxRecDepth 20000 in
theorem rHeight_runs {R R' : Nat → Prop} (g : Nat) (A : Option Addr) (c : Nat) (l : List Inf) (t : T) (cs : List Value) (w : World) (b : Box w g [.slice A l.length c]) (hA : Sl encInf w R A l) (hsl : l.length ≤ 1000000) (hts : ∀ x ∈ l, 0 ≤ x.height ∧ x.height ≤ l.length) (hv : VT w R' cs t) (hm : mayT t = true) :
    Runs Tryz.prog 102 #[.pointer (some ⟨g, 0, none⟩), .agg cs.toArray] w fun v w' => v = .int .i64 (heightB l t) ∧ Ext w w' := by
  have hh := Holds.one (g := g) (cs := [.v (.slice A l.length c)]) b rfl
  have hv0 := hv
  obtain ⟨k, n, s, ls, ts, la, lc, ta, tc, e, rfl, hk, hn, hs, hll, hlt, hL, hT⟩ := hv.inv
  refine Runs.of_vc (ρ := [g]) cx_ok [0, 1, 3, 4, 5, 6, 7, 8, 14, 27] [.p 0 0, .a [.v (.int .u8 k), .v (.int .i64 n), .v (.string s), .v (.slice la ls.length lc), .v (.slice ta ts.length tc)]] Tryz.func102 rfl rfl rfl hh ?_
  intro g1 w1 e1 x1 z1 hh1
  refine vcV (rNames_runs t _ w1 R' (hv0.ext x1) hm) hh1 fun v2 w2 x2 z2 hh2 p2 => ?_
  obtain ⟨A2, c2, rfl, hc2, o2⟩ := p2
  have y2 := x1.trans x2
  have hnl := nmsE_len t
  unfold heightB
  generalize nms t = ns at *
  refine vLoop_upd (σ := Nat) [5, 7, 8, 11, 12, 13, 14, 15, 16, 17, 18, 19, 20, 21, 22, 23, 24, 25, 26, 27, 28, 29, 30, 31, 32, 33, 34, 35, 36, 37] (fun i => [(7, .v (.int .i64 i)), (5, .v (.int .i64 ((ns.take i).foldl (fun n s => max n (getI l s).height) 0)))]) [] (fun _ => []) (fun i w' => Ext w2 w' ∧ i ≤ ns.length) (fun i => ns.length - i) 0 (fun _ => ⟨rfl, rfl⟩)
    ⟨(by repeat (first | exact trivial | refine And.intro rfl ?_)), (by repeat (first | exact trivial | refine And.intro rfl ?_)), (by repeat (first | exact trivial | refine And.intro rfl ?_)), (by repeat (first | exact trivial | refine And.intro rfl ?_)), Ext.refl _, Nat.zero_le _⟩ ?_
  rintro i w3 hh3 ⟨x3, hi⟩
  refine Or.inl (And.intro (fun h => ?_) (fun h => ?_))
  · have hil : i < ns.length := by have := of_decide_eq_true h; omega
    obtain ⟨a1, cs1, ha1, _, hrow, hs1⟩ := (o2.ext x3).at hil
    obtain ⟨rfl, hs1⟩ := hs1
    have htk : ns.take (i + 1) = ns.take i ++ [ns[i]] := take_snoc _ _ hil
    generalize ns[i] = s at *
    have hb := heights_le l l.length (by omega) hts (ns.take i) 0 (Int.le_refl _) (by omega)
    have hfo : (ns.take (i + 1)).foldl (fun n s => max n (getI l s).height) 0 = max ((ns.take i).foldl (fun n s => max n (getI l s).height) 0) (getI l s).height := by rw [htk, List.foldl_append]; rfl
    refine vDrw_mk [8] (.one 0 (.one 1 (.one 2 (.one 3 (.one 4 (.one 5 (.one 6 (.one 7 (.one 8 (.one 9 .nil)))))))))) rfl fun w4 x4 hh4 => ?_
    refine Exists.intro (.v (.pointer (some (a1.add (i * 1))))) (And.intro rfl (And.intro (fun w' xx hh => OpT.indexAddr Tryz.underlying28 Tryz.sizeOf9 rfl rfl ha1 (by simp only [lenOk] at *; omega) ⟨rfl, rfl⟩) ?_))
    refine Exists.intro (.v (.string s)) (And.intro rfl (And.intro (fun w' xx hh => OpT.load Tryz.isAgg9 rfl ((hrow.ext (x4.trans xx)).cell 0 rfl) ⟨rfl, rfl⟩) ?_))
    refine vcZ (rfind_runs A l c s w4 (hA.ext (y2.trans (x3.trans x4))) hsl) hh4 fun w5 x5 z5 hh5 => ?_
    have y5 := x3.trans (x4.trans x5)
    rcases ixB_find s l 0 with ⟨f1, f2⟩ | ⟨k, hk, f1, f2⟩
    · have hg : (getI l s).height = 0 := by unfold getI; rw [f2]; rfl
      refine Or.inl (And.intro (fun hx => nomatch ((show decide (ixB (nmD s) l 0 ≥ 0) = false from decide_eq_false (by omega))).symm.trans hx) (fun _ => ?_))
      refine vsd (by simp only [inKind]; omega) ?_
      have hmx : (ns.take i).foldl (fun n s => max n (getI l s).height) 0 = (ns.take (i + 1)).foldl (fun n s => max n (getI l s).height) 0 := by rw [hfo, hg]; omega
      exact Exists.intro (i + 1) ⟨by omega, esub_over ⟨rfl, by rw [← hmx]; rfl, trivial⟩ (by repeat (first | exact trivial | refine And.intro rfl ?_)), hsub_over (by repeat (first | exact trivial | refine And.intro rfl ?_)) (by repeat (first | exact trivial | refine And.intro rfl ?_)), y5, hil⟩
    · have hg : getI l s = l[k] := by unfold getI; rw [f2]; rfl
      rw [Nat.zero_add] at f1
      obtain ⟨a2, cs2, ha2, _, hrow2, hv2⟩ := (hA.ext (y2.trans y5)).at hk
      have hh0 := hts _ (List.getElem_mem hk)
      generalize l[k] = X at *
      have hv2 : VI w5 R cs2 X := hv2
      obtain ⟨ctY, cvY, raY, rcY, rfl, htyY, hvlY, hruY, hrlY, hokY⟩ := hv2; obtain ⟨kYt, nYt, sYt, lsYt, tsYt, laYt, lcYt, taYt, tcYt, etyY, rfl, hkYt, hnYt, hsYt, hllYt, hltYt, hLYt, hTYt⟩ := htyY.inv; obtain ⟨kYv, nYv, sYv, lsYv, tsYv, laYv, lcYv, taYv, tcYv, evlY, rfl, hkYv, hnYv, hsYv, hllYv, hltYv, hLYv, hTYv⟩ := hvlY.inv
      rw [f1]
      refine Or.inl (And.intro (fun _ => ?_) (fun hx => nomatch ((show decide ((k : Int) ≥ 0) = true from decide_eq_true (by omega))).symm.trans hx))
      refine OpT.indexAddr Tryz.underlying22 Tryz.sizeOf36 rfl rfl ha2 (by first | omega | (simp only [lenOk] at *; omega)) ?_; refine Lands.v hh5 ?_
      refine OpT.load Tryz.isAgg3 rfl (hrow2.cell 13 rfl) ?_; refine Lands.v hh5 ?_
      refine vsd (by simp only [inKind]; omega) ?_
      have hmx : (if X.height > (ns.take i).foldl (fun n s => max n (getI l s).height) 0 then X.height else (ns.take i).foldl (fun n s => max n (getI l s).height) 0) = (ns.take (i + 1)).foldl (fun n s => max n (getI l s).height) 0 := by rw [hfo, hg]; split <;> omega
      exact Exists.intro (i + 1) ⟨by omega, esub_over ⟨rfl, by rw [← hmx]; rfl, trivial⟩ (by repeat (first | exact trivial | refine And.intro rfl ?_)), hsub_over (by repeat (first | exact trivial | refine And.intro rfl ?_)) (by repeat (first | exact trivial | refine And.intro rfl ?_)), y5, hil⟩
  · obtain rfl : i = ns.length := by have := of_decide_eq_false h; omega
    exact ⟨by rw [List.take_length]; rfl, y2.trans x3⟩
theorem getI_none {l : List Inf} {s : ByteArray} (h : findI l s = none) : getI l s = noI := by unfold getI; rw [h]; rfl
set_option maxRecDepth 20000 in
theorem rFind_runs {R : Nat → Prop} (g : Nat) (A : Option Addr) (c : Nat) (l : List Inf) (s : ByteArray) (w : World) (b : Box w g [.slice A l.length c]) (hA : Sl encInf w R A l) (hsl : l.length ≤ 1000000) :
    Runs Tryz.prog 104 #[.pointer (some ⟨g, 0, none⟩), .string s] w fun v w' => Ext w w' ∧ ∃ cs : List Value, v = .tuple #[.agg cs.toArray, .bool (findI l s).isSome] ∧ VI w' R cs (getI l s) := by
  have hh := Holds.one (g := g) (cs := [.v (.slice A l.length c)]) b rfl
  refine Runs.of_vc (ρ := [g]) cx_ok [0, 1, 4, 5, 6, 14] [.p 0 0, .v _] Tryz.func104 rfl rfl rfl hh ?_
  intro g1 w1 e1 x1 z1 hh1
  refine vcZ (rfind_runs A l c s w1 (hA.ext x1) hsl) hh1 fun w2 x2 z2 hh2 => ?_
  have y2 := x1.trans x2
  rcases ixB_find s l 0 with ⟨f1, f2⟩ | ⟨k, hk, f1, f2⟩
  · refine Or.inl (And.intro (fun _ => ?_) (fun hx => nomatch ((show decide (ixB (nmD s) l 0 < 0) = true from decide_eq_true f1)).symm.trans hx))
    intro w3 m3 z3 hh3
    replace m3 : Upd g1 w2 w3 := m3
    rw [f2, getI_none f2]
    exact ⟨y2.upd m3 (by omega), noIc, rfl, noI_rep _ _⟩
  · have hg : getI l s = l[k] := by unfold getI; rw [f2]; rfl
    rw [Nat.zero_add] at f1
    obtain ⟨a2, cs2, ha2, _, hrow2, hv2⟩ := hA.at hk
    rw [hg, f2]
    generalize l[k] = X at *
    have hv2 : VI w R cs2 X := hv2
    have hv20 := hv2
    obtain ⟨ctY, cvY, raY, rcY, rfl, htyY, hvlY, hruY, hrlY, hokY⟩ := hv2; obtain ⟨kYt, nYt, sYt, lsYt, tsYt, laYt, lcYt, taYt, tcYt, etyY, rfl, hkYt, hnYt, hsYt, hllYt, hltYt, hLYt, hTYt⟩ := htyY.inv; obtain ⟨kYv, nYv, sYv, lsYv, tsYv, laYv, lcYv, taYv, tcYv, evlY, rfl, hkYv, hnYv, hsYv, hllYv, hltYv, hLYv, hTYv⟩ := hvlY.inv
    rw [f1]
    refine Or.inl (And.intro (fun hx => nomatch ((show decide ((k : Int) < 0) = false from decide_eq_false (by omega))).symm.trans hx) (fun _ => ?_))
    refine OpT.indexAddr Tryz.underlying22 Tryz.sizeOf36 rfl rfl ha2 (by first | omega | (simp only [lenOk] at *; omega)) ?_; refine Lands.v hh2 ?_
    refine OpT.loadA Tryz.isAgg36 (by exact Tryz.sizeOf36) rfl (hrow2.ext y2) ?_; refine Lands.ret (s := .a [.v (.int .u8 X.kind), .v (.string X.name), .v (.int .i64 X.params), .v (.int .u8 kYt), .v (.int .i64 nYt), .v (.string sYt), .v (.slice laYt lsYt.length lcYt), .v (.slice taYt tsYt.length tcYt), .v (.int .u8 kYv), .v (.int .i64 nYv), .v (.string sYv), .v (.slice laYv lsYv.length lcYv), .v (.slice taYv tsYv.length tcYv), .v (.int .i64 X.height), .v (.string X.block), .v (.string X.of_), .v (.int .i64 X.fixed), .v (.int .i64 X.index), .v (.int .i64 X.no), .v (.int .i64 X.fields), .v (.int .i64 X.motives), .v (.int .i64 X.minors), .v (.slice raY X.rules.length rcY), .v (.int .i64 X.ctors), .v (.bool X.record)]) rfl rfl hh2 ?_
    intro w3 m3 z3 hh3
    replace m3 : Upd g1 w2 w3 := m3
    have y3 := y2.upd m3 (by omega)
    exact ⟨y3, _, rfl, encInf.ext hv20 y3⟩
def rmine (g : Nat) (A : Option Addr) : Nat → Prop := fun k => k = g ∨ ownOf A k
structure RA (w : World) (M : Nat → Prop) (lo g : Nat) (A : Option Addr) (c : Nat) (l : List Inf) : Prop where
  box : Box w g [.slice A l.length c]
  ix : IX w (fun k => M k ∨ k = g) lo A c l
  lo_ : lo ≤ g
  ne : ¬ ownOf A g
  hts : ∀ x ∈ l, 0 ≤ x.height ∧ x.height ≤ l.length
  few : l.length ≤ 4096
section
variable {w w' : World} {M M' : Nat → Prop} {lo g c : Nat} {A : Option Addr} {l : List Inf}
theorem RA.lt (h : RA w M lo g A c l) : ∀ k, rmine g A k → lo ≤ k ∧ k < w.heap.size := by
  rintro k (rfl | hk)
  · exact ⟨h.lo_, h.box.lt⟩
  · exact h.ix.own k hk
theorem RA.mod {S : Nat → Prop} (h : RA w M lo g A c l) (hm : Bw.Mod S w w') (hS : ∀ k, k < w.heap.size → S k → M k) (hd : ∀ k, M k → ¬ rmine g A k) (hM : ∀ k, k < w.heap.size → M' k → M k) : RA w' M' lo g A c l :=
  ⟨h.box.mod hm fun hs => hd g (hS g h.box.lt hs) (.inl rfl), h.ix.mod hm (fun k hk hs => .inl (hS k hk hs)) (fun k hk ho => hk.elim (fun hk => hd k hk (.inr ho)) fun hk => h.ne (hk ▸ ho)) (fun k hk hs => hs.imp (hM k hk) id), h.lo_, h.ne, h.hts, h.few⟩
theorem RA.ext (h : RA w M lo g A c l) (hm : Ext w w') : RA w' M lo g A c l :=
  ⟨h.box.ext hm, by
    obtain ⟨css, h1, h2⟩ := h.ix
    have := hm.size
    exact ⟨css, h1.mod hm fun _ _ h => h, (h2.mod hm fun k _ h => h).mono fun k hk => ⟨⟨by have := hk.1.1; omega, hk.1.2⟩, hk.2⟩⟩, h.lo_, h.ne, h.hts, h.few⟩
theorem RA.sl (h : RA w M lo g A c l) : Sl encInf w (fun k => k < w.heap.size) A l := h.ix.sl
end
theorem checks_fst {l xs : List Inf} (h : addE l xs = 0) : l.length + xs.length ≤ 4096 := by
  unfold addE at h
  by_cases hq : 4096 < l.length + xs.length
  · rw [if_pos hq] at h; omega
  · omega
theorem checkB_may {l xs : List Inf} {i : Nat} {x : Inf} (h : checkB l xs i x = 0) : ∀ t ∈ infT x, mayT t = true := by
  unfold checkB at h
  split at h
  · omega
  · split at h
    · omega
    · split at h
      · omega
      · split at h
        · rename_i h1; exact absurd h h1
        · rename_i h1
          intro t ht
          have h0 := firstB_zero (Classical.not_not.1 h1) t ht
          unfold closedE at h0
          by_cases hm : mayT t = true
          · exact hm
          · rw [if_pos (.inl (by simpa using hm))] at h0; omega
theorem mem_val {x : Inf} (h : valB x.kind = true) : x.val ∈ infT x := by unfold infT; rw [if_pos h]; simp
set_option maxHeartbeats 2000000 in
set_option maxRecDepth 20000 in
theorem rAdd_runs {M R' : Nat → Prop} {lo : Nat} (g : Nat) (A B : Option Addr) (c bc : Nat) (l xs : List Inf) (w : World) (hE : RA w M lo g A c l) (hM : ∀ k, M k → k < w.heap.size) (hd : ∀ k, M k → ¬ rmine g A k) (hl : Sl encInf w R' B xs) (hR' : ∀ k, R' k → k < w.heap.size ∧ ¬ M k ∧ ¬ rmine g A k) (hB : lenOk xs.length bc) (hsz : xs.length ≤ 1000000) (hrl : ∀ x ∈ xs, x.rules.length ≤ 1000) :
    Runs Tryz.prog 59 #[.pointer (some ⟨g, 0, none⟩), .slice B xs.length bc] w fun v w' => v = .int .i64 (addE l xs) ∧ Bw.Mod (rmine g A) w w' ∧
      ∃ A2 c2, RA w' M lo g A2 c2 (addL l xs) ∧ (∀ k, ownOf A2 k → ownOf A k ∨ w.heap.size ≤ k) := by
  have hh := Holds.one (g := g) (cs := [.v (.slice A l.length c)]) hE.box rfl
  have hfew := hE.few
  have hR'w : ∀ k, R' k → k < w.heap.size := fun k hk => (hR' k hk).1
  have hno : ∀ q w', Ext w w' → q = addE l xs → q ≠ 0 → Value.int .i64 q = .int .i64 (addE l xs) ∧ Bw.Mod (rmine g A) w w' ∧
      ∃ A2 c2, RA w' M lo g A2 c2 (addL l xs) ∧ (∀ k, ownOf A2 k → ownOf A k ∨ w.heap.size ≤ k) := by
    intro q w' hx hq h0
    subst hq
    refine ⟨rfl, Mod.mono hx fun _ h => h.elim, A, c, ?_, fun k h => .inl h⟩
    unfold addL; rw [if_neg h0]; exact hE.ext hx
  refine Runs.of_vc (ρ := [g]) cx_ok [0, 1, 4, 5, 6, 7, 8, 17, 21, 29, 34, 44, 58] [.p 0 0, .v _] Tryz.func59 rfl rfl rfl hh ?_
  refine vsd (by simp only [inKind]; omega) ?_
  refine Or.inl (And.intro (fun h => ?_) (fun h => ?_))
  · have h := of_decide_eq_true h
    exact hno 4 w (Ext.refl _) (by unfold addE; rw [if_pos (by omega)]) (by decide)
  · have h := of_decide_eq_false h
    have hch : addE l xs = checksB l xs xs 0 := by unfold addE; rw [if_neg (by omega)]
    have hxl : l.length + xs.length ≤ 4096 := by omega
    refine vLoop_upd (σ := Nat) [4, 5, 6, 18, 19, 20, 21, 22, 23, 24, 25, 26, 27, 28, 29, 30] (fun i => [(5, .v (.int .i64 i))]) [] (fun _ => []) (fun i w' => Ext w w' ∧ i ≤ xs.length ∧ checksB l xs xs 0 = checksB l xs (xs.drop i) i) (fun i => xs.length - i) 0 (fun _ => ⟨rfl, rfl⟩)
      ⟨(by repeat (first | exact trivial | refine And.intro rfl ?_)), (by repeat (first | exact trivial | refine And.intro rfl ?_)), (by repeat (first | exact trivial | refine And.intro rfl ?_)), (by repeat (first | exact trivial | refine And.intro rfl ?_)), Ext.refl _, Nat.zero_le _, rfl⟩ ?_
    rintro i w1 hh1 ⟨x1, hi, hx⟩
    refine Or.inl (And.intro (fun h => ?_) (fun h => ?_))
    · have hil : i < xs.length := by have := of_decide_eq_true h; omega
      rw [checksB_drop l xs i hil] at hx
      have q1 := x1.size
      refine vcZ (rcheck_runs g A B c bc l xs i hil w1 (hE.box.ext x1) (hE.sl.ext x1) (hl.ext x1) (fun k hk => by have := hR'w k hk; omega) hB hsz (by omega) hrl) hh1 fun w2 x2 z2 hh2 => ?_
      refine Or.inl (And.intro (fun h => ?_) (fun h => ?_))
      · have h : checkB l xs i xs[i] ≠ 0 := by simpa using h
        rw [if_pos h] at hx
        exact hno _ _ (x1.trans x2) (by rw [hch, hx]) h
      · have h : ¬ checkB l xs i xs[i] ≠ 0 := by simpa using h
        rw [if_neg h] at hx
        refine vsd (by simp only [inKind]; omega) ?_
        exact Exists.intro (i + 1) ⟨by omega, esub_over (by repeat (first | exact trivial | refine And.intro rfl ?_)) (by repeat (first | exact trivial | refine And.intro rfl ?_)), hsub_over (by repeat (first | exact trivial | refine And.intro rfl ?_)) (by repeat (first | exact trivial | refine And.intro rfl ?_)), x1.trans x2, hil, hx⟩
    · obtain rfl : i = xs.length := by have := of_decide_eq_false h; omega
      rw [List.drop_length] at hx
      have h0 : addE l xs = 0 := by rw [hch, hx]; rfl
      rw [h0] at hno ⊢
      have hck := checks_ok xs 0 (by rw [← hch]; exact h0)
      have hadd : addL l xs = addAll l xs := by unfold addL; rw [if_pos h0]
      rw [hadd]
      refine vLoop_upd (σ := Nat × Option Addr × Nat) [7, 8, 31, 32, 33, 34, 35, 36, 37, 38, 39, 40, 41, 42, 43, 44, 45, 46, 47, 48, 49, 50, 51, 52, 53, 54, 55, 56, 57, 58, 59, 60, 61, 62, 63, 64, 65, 66, 67, 68, 69, 70] (fun s => [(7, .v (.int .i64 s.1))]) [0] (fun s => [(0, [.v (.slice s.2.1 (addAll l (xs.take s.1)).length s.2.2)])])
        (fun s w' => s.1 ≤ xs.length ∧ Bw.Mod (rmine g A) w w' ∧ RA w' M lo g s.2.1 s.2.2 (addAll l (xs.take s.1)) ∧ (∀ k, ownOf s.2.1 k → ownOf A k ∨ w.heap.size ≤ k)) (fun s => xs.length - s.1) (0, A, c) (fun _ => ⟨rfl, rfl⟩)
        ⟨(by repeat (first | exact trivial | refine And.intro rfl ?_)), (by repeat (first | exact trivial | refine And.intro rfl ?_)), (by repeat (first | exact trivial | refine And.intro rfl ?_)), (by repeat (first | exact trivial | refine And.intro rfl ?_)), Nat.zero_le _, Mod.mono x1 fun _ h => h.elim, hE.ext x1, fun k h => .inl h⟩ ?_
      rintro ⟨i, A1, c1⟩ w2 hh2 ⟨hi, M2, hE2, r3⟩
      simp only at hi hE2 r3
      refine Or.inl (And.intro (fun h => ?_) (fun h => ?_))
      · have hil : i < xs.length := by have := of_decide_eq_true h; simp only at this; omega
        have hl2 := hl.mod M2 fun k hk => (hR' k hk).2.2
        obtain ⟨a1, cs, ha1, _, hrow, hv⟩ := hl2.at hil
        have hxr := hrl _ (List.getElem_mem hil)
        have htk : xs.take (i + 1) = xs.take i ++ [xs[i]] := take_snoc _ _ hil
        have hck1 := hck i hil
        generalize xs[i] = x at *
        have hvw : VI w2 R' cs x := hv
        have hv : VI w2 R' cs x := hv
        have hL : (addAll l (xs.take i)).length = l.length + i := by rw [addAll_len, List.length_take]; omega
        have hnext : addAll l (xs.take (i + 1)) = addAll l (xs.take i) ++ [addOne (addAll l (xs.take i)) x] := by rw [htk, addAll_snoc]
        generalize hLL : addAll l (xs.take i) = L1 at *
        obtain ⟨ct, cv, ra, rc, rfl, hty, hvl, hru, hrl, hok⟩ := hv; obtain ⟨kt, nt, st, lst, tst, lat, lct, tat, tct, ety, rfl, hkt, hnt, hst, hllt, hltt, hLt, hTt⟩ := hty.inv; obtain ⟨kv, nv, sv, lsv, tsv, lav, lcv, tav, tcv, evl, rfl, hkv, hnv, hsv, hllv, hltv, hLv, hTv⟩ := hvl.inv
        have q2 := M2.size
        refine OpT.indexAddr Tryz.underlying22 Tryz.sizeOf36 rfl rfl ha1 (by first | omega | (simp only [lenOk] at *; omega)) ?_; refine Lands.v hh2 ?_
        refine OpT.loadA Tryz.isAgg36 (by exact Tryz.sizeOf36) rfl hrow ?_; refine Lands.ret (s := .a [.v (.int .u8 x.kind), .v (.string x.name), .v (.int .i64 x.params), .v (.int .u8 kt), .v (.int .i64 nt), .v (.string st), .v (.slice lat lst.length lct), .v (.slice tat tst.length tct), .v (.int .u8 kv), .v (.int .i64 nv), .v (.string sv), .v (.slice lav lsv.length lcv), .v (.slice tav tsv.length tcv), .v (.int .i64 x.height), .v (.string x.block), .v (.string x.of_), .v (.int .i64 x.fixed), .v (.int .i64 x.index), .v (.int .i64 x.no), .v (.int .i64 x.fields), .v (.int .i64 x.motives), .v (.int .i64 x.minors), .v (.slice ra x.rules.length rc), .v (.int .i64 x.ctors), .v (.bool x.record)]) rfl rfl hh2 ?_
        intro g3 w3 e3 x3 z3 hh3; intro w4 m4 z4 hh4; replace m4 : Upd g3 w3 w4 := m4; have x4 : Ext w2 w4 := x3.upd m4 (by omega); have q4 := x4.size
        intro w5 m5 z5 hh5; replace m5 : Upd g3 w4 w5 := m5; have x5 : Ext w2 w5 := x4.upd m5 (by omega)
        have hh5' := heightB_le L1 x.val hE2.hts
        refine vJoin_upd (σ := Unit) [45, 46, 47, 48, 49, 50] (fun _ => []) [1] (fun _ => [(1, [.v (.int .u8 (setH x (heightI L1 x)).kind), .v (.string (setH x (heightI L1 x)).name), .v (.int .i64 (setH x (heightI L1 x)).params), .v (.int .u8 kt), .v (.int .i64 nt), .v (.string st), .v (.slice lat lst.length lct), .v (.slice tat tst.length tct), .v (.int .u8 kv), .v (.int .i64 nv), .v (.string sv), .v (.slice lav lsv.length lcv), .v (.slice tav tsv.length tcv), .v (.int .i64 (setH x (heightI L1 x)).height), .v (.string (setH x (heightI L1 x)).block), .v (.string (setH x (heightI L1 x)).of_), .v (.int .i64 (setH x (heightI L1 x)).fixed), .v (.int .i64 (setH x (heightI L1 x)).index), .v (.int .i64 (setH x (heightI L1 x)).no), .v (.int .i64 (setH x (heightI L1 x)).fields), .v (.int .i64 (setH x (heightI L1 x)).motives), .v (.int .i64 (setH x (heightI L1 x)).minors), .v (.slice ra (setH x (heightI L1 x)).rules.length rc), .v (.int .i64 (setH x (heightI L1 x)).ctors), .v (.bool (setH x (heightI L1 x)).record)])]) (fun _ w' => Ext w2 w' ∧ w5.heap.size ≤ w'.heap.size) (fun _ => ⟨rfl, rfl⟩) (fun h => ?_) (fun h => ?_) ?_
        · have hk : x.kind = 2 := of_decide_eq_true h
          have hhi : heightI L1 x = 1 + heightB L1 x.val := by unfold heightI; rw [if_pos hk]
          have hmv : mayT x.val = true := checkB_may hck1 _ (mem_val (by unfold valB; rw [hk]; rfl))
          refine vcZ (rHeight_runs g A1 c1 L1 x.val _ w5 (hE2.box.ext x5) (hE2.sl.ext x5) (by have := hE2.few; omega) hE2.hts (hvl.ext x5) hmv) hh5 fun w6 x6 z6 hh6 => ?_
          refine vsd (by simp only [inKind]; omega) ?_
          intro w7 m7 z7 hh7
          replace m7 : Upd g3 w6 w7 := m7
          have x7 : Ext w2 w7 := (x5.trans x6).upd m7 (by omega)
          rw [hhi]
          exact Exists.intro (()) ⟨esub_over (by repeat (first | exact trivial | refine And.intro rfl ?_)) (by repeat (first | exact trivial | refine And.intro rfl ?_)), hsub_over (by repeat (first | exact trivial | refine And.intro rfl ?_)) (by repeat (first | exact trivial | refine And.intro rfl ?_)), x7, by omega⟩
        · have hk : ¬ x.kind = 2 := of_decide_eq_false h
          have hhi : heightI L1 x = 0 := by unfold heightI; rw [if_neg hk]
          rw [hhi]
          exact Exists.intro (()) ⟨esub_over (by repeat (first | exact trivial | refine And.intro rfl ?_)) (by repeat (first | exact trivial | refine And.intro rfl ?_)), hsub_over (by repeat (first | exact trivial | refine And.intro rfl ?_)) (by repeat (first | exact trivial | refine And.intro rfl ?_)), x5, Nat.le_refl _⟩
        rintro ⟨⟩ w8 hh8 ⟨x8, q8⟩
        have key : sel (!decide (x.kind = 2)) (!decide (x.kind = 3)) false = !valB x.kind := by unfold valB; cases decide (x.kind = 2) <;> cases decide (x.kind = 3) <;> rfl
        refine vJoin_upd (σ := List Value) [59, 60] (fun _ => []) [1] (fun s => [(1, [.v (.int .u8 (setH x (heightI L1 x)).kind), .v (.string (setH x (heightI L1 x)).name), .v (.int .i64 (setH x (heightI L1 x)).params), .v (.int .u8 kt), .v (.int .i64 nt), .v (.string st), .v (.slice lat lst.length lct), .v (.slice tat tst.length tct), .v (s.getD 0 undef), .v (s.getD 1 undef), .v (s.getD 2 undef), .v (s.getD 3 undef), .v (s.getD 4 undef), .v (.int .i64 (setH x (heightI L1 x)).height), .v (.string (setH x (heightI L1 x)).block), .v (.string (setH x (heightI L1 x)).of_), .v (.int .i64 (setH x (heightI L1 x)).fixed), .v (.int .i64 (setH x (heightI L1 x)).index), .v (.int .i64 (setH x (heightI L1 x)).no), .v (.int .i64 (setH x (heightI L1 x)).fields), .v (.int .i64 (setH x (heightI L1 x)).motives), .v (.int .i64 (setH x (heightI L1 x)).minors), .v (.slice ra (setH x (heightI L1 x)).rules.length rc), .v (.int .i64 (setH x (heightI L1 x)).ctors), .v (.bool (setH x (heightI L1 x)).record)])]) (fun s w' => Ext w2 w' ∧ w8.heap.size ≤ w'.heap.size ∧ VT w' R' [s.getD 0 undef, s.getD 1 undef, s.getD 2 undef, s.getD 3 undef, s.getD 4 undef] (valI x)) (fun _ => ⟨rfl, rfl⟩) (fun h => ?_) (fun h => ?_) ?_
        · have hvi : valI x = tZ := by unfold valI; rw [if_neg (by have := key.symm.trans h; simpa using this)]
          rw [hvi]
          intro w10 m10 z10 hh10
          replace m10 : Upd g3 w8 w10 := m10
          have x10 : Ext w2 w10 := x8.upd m10 (by omega)
          exact Exists.intro (noTc) ⟨esub_over (by repeat (first | exact trivial | refine And.intro rfl ?_)) (by repeat (first | exact trivial | refine And.intro rfl ?_)), hsub_over (by repeat (first | exact trivial | refine And.intro rfl ?_)) (by repeat (first | exact trivial | refine And.intro rfl ?_)), x10, by omega, tZ_rep _ _⟩
        · have hvi : valI x = x.val := by unfold valI; rw [if_pos (by have := key.symm.trans h; simpa using this)]
          rw [hvi]
          exact Exists.intro ([.int .u8 kv, .int .i64 nv, .string sv, .slice lav lsv.length lcv, .slice tav tsv.length tcv]) ⟨esub_over (by repeat (first | exact trivial | refine And.intro rfl ?_)) (by repeat (first | exact trivial | refine And.intro rfl ?_)), hsub_over (by repeat (first | exact trivial | refine And.intro rfl ?_)) (by repeat (first | exact trivial | refine And.intro rfl ?_)), x8, Nat.le_refl _, hvl.ext x8⟩
        rintro vs w11 hh11 ⟨x11, q11, hval⟩
        have hlt2 := hE2.lt
        obtain ⟨ok1, ok2, ok3, ok4, ok5⟩ := hok
        have hhI : 0 ≤ heightI L1 x ∧ heightI L1 x ≤ L1.length + 1 := by unfold heightI; split <;> omega
        have hok' : (addOne L1 x).ok := ⟨ok1, ok2, ok3, by show i64ok (heightI L1 x); simp only [i64ok]; omega, ok5⟩
        have hcs : VI w11 R' ((addOne L1 x).cells [.int .u8 kt, .int .i64 nt, .string st, .slice lat lst.length lct, .slice tat tst.length tct] [vs.getD 0 undef, vs.getD 1 undef, vs.getD 2 undef, vs.getD 3 undef, vs.getD 4 undef] ra rc) (addOne L1 x) :=
          ⟨_, _, ra, rc, rfl, hty.ext x11, hval, hru.ext x11, hrl, hok'⟩
        have hHS : outR (fun k => ownOf A1 k ∨ w11.heap.size ≤ k) [g, g3] := ⟨fun h => h.elim hE2.ne (by have := hE2.box.lt; have := x11.size; omega), fun h => h.elim (fun h => by have := hlt2 _ (.inr h); omega) (by omega), trivial⟩
        have q11' := x11.size
        refine vDrwM_mk (fun k => ownOf A1 k ∨ w11.heap.size ≤ k) (outR.get hHS) [6, 7, 10] (.one 0 (.one 1 (.one 2 (.one 3 (.one 4 (.one 5 (.one 6 (.one 7 (.one 8 (.one 9 (.one 10 .nil))))))))))) rfl fun w13 x13 q13 hh13 => ?_
        have hv13 := encInf.ext hcs x13
        refine OpT.buildE (E := encInf) (R := R') (vs := [_]) (l := [addOne L1 x]) Tryz.zeroValue36 (.cons rfl (.nil)) Tryz.underlying22 Tryz.sizeOf36 rfl rfl (Reps.cons hv13 (Reps.nil _ _ _)) rfl rfl hh13 fun w14 g14 e14 x14 z14 o14 hh14 => ?_
        refine And.intro (x14.mono fun _ h => h.elim) ?_
        have y14 : Ext w2 w14 := x11.trans (x13.trans x14)
        have q14 := y14.size
        have hA1 : ∀ k, ownOf A1 k → ownOf A k ∨ w.heap.size ≤ k := r3
        have hM1 : ∀ k, M k → ¬ ownOf A1 k := fun k hk ho => (hA1 k ho).elim (fun h => hd k hk (.inr h)) fun h => by have := hM k hk; omega
        have hR1 : ∀ k, R' k → ¬ (M k ∨ k = g) ∧ ¬ ownOf A1 k := fun k hk => ⟨fun h => h.elim (hR' k hk).2.1 fun h => (hR' k hk).2.2 (.inl h), fun ho => (hA1 k ho).elim (fun h => (hR' k hk).2.2 (.inr h)) fun h => by have := hR'w k hk; omega⟩
        have hgw : g < w.heap.size := hE.box.lt
        refine OpT.appendI elInf Tryz.underlying22 Tryz.underlying22 rfl rfl rfl rfl hnext.symm (n' := (addAll l (xs.take (i + 1))).length) rfl ((hE2.ext y14).ix) o14.sl (fun k hk hks => ?_) (by have := hE2.lo_; have := hE2.box.lt; omega) (fun k hk => ?_) hh14 (outR.get (ρ := [g, g3]) ⟨hE2.ne, fun ho => ?_, trivial⟩) (by rw [hnext, List.length_append]; simp; omega) fun w15 A15 c15 m15 z15 hI15 f15 hh15 => ?_
        · rcases hk.1 with h | h
          · exact hR1 k h
          · exact ⟨fun hm => hm.elim (fun hm => by have := hM k hm; omega) fun hm => by omega, fun ho => by have := hlt2 k (.inr ho); omega⟩
        · rcases hk with h | h
          · have := hM k h; omega
          · omega
        · have := hlt2 _ (.inr ho); omega
        refine And.intro (m15.mono fun k h => .inl h) ?_
        intro w16 m16 z16 hh16
        replace m16 : Upd g w15 w16 := m16
        refine vsd (by simp only [inKind]; omega) ?_
        have hfl : (addAll l (xs.take (i + 1))).length = L1.length + 1 := by rw [hnext, List.length_append]; rfl
        have hbx : Box w16 g [.slice A15 (addAll l (xs.take (i + 1))).length c15] := hh16.box 0 _ rfl
        have M16 : Bw.Mod (rmine g A1) w2 w16 := (Mod.mono y14 fun _ h => h.elim).trans ((m15.mono fun k h => .inr h).trans (m16.mono fun k h => .inl h))
        have hM15 : ∀ k, (M k ∨ k = g) → ¬ ownOf A15 k := fun k hk ho => (f15 k ho).elim (fun h => hk.elim (fun hk => hM1 k hk h) fun hk => hE2.ne (hk ▸ h)) fun h => hk.elim (fun hk => by have := hM k hk; omega) fun hk => by omega
        have hbig : RA w16 M lo g A15 c15 (addAll l (xs.take (i + 1))) := by
          refine ⟨hbx, hI15.mod (S := fun k => k = g) m16 (fun k _ h => .inr h) hM15 (fun k _ h => h), hE2.lo_, hM15 g (.inr rfl), fun y hy => ?_, by omega⟩
          rw [hfl]
          rw [hnext] at hy
          rcases List.mem_append.1 hy with h | h
          · have := hE2.hts y h; omega
          · rw [List.mem_singleton] at h; subst h
            have : (addOne L1 x).height = heightI L1 x := rfl
            omega
        have hMM : Bw.Mod (rmine g A) w w16 := M2.trans' M16 fun k hk hs => hs.elim .inl fun h => (r3 k h).elim .inr fun h => by omega
        exact Exists.intro ((i + 1, A15, c15)) ⟨by simp only; omega, esub_over (by repeat (first | exact trivial | refine And.intro rfl ?_)) (by repeat (first | exact trivial | refine And.intro rfl ?_)), hsub_over (by repeat (first | exact trivial | refine And.intro rfl ?_)) (by repeat (first | exact trivial | refine And.intro rfl ?_)), hil, hMM, hbig, fun k h => (f15 k h).elim (r3 k) fun h => .inr (by omega)⟩
      · obtain rfl : i = xs.length := by have := of_decide_eq_false h; simp only at this; omega
        rw [List.take_length] at hE2
        exact ⟨rfl, M2, A1, c1, hE2, r3⟩
end Go.Proofs.YtfljbnhhkdaobaaGreat
