/-
  The document's names and free variables of a term.
-/
import Derived.Test.YtfljbnhhkdaobaaGreatA8
namespace Go.Proofs.YtfljbnhhkdaobaaGreat
open Go Go.RowKit Go.Proofs.Bw
set_option linter.unusedVariables false
set_option linter.unusedSimpArgs false
theorem gY {b : Bool} (h : b = true) : (true && b) = true := by rw [h]; rfl
theorem gN {b : Bool} (h : b = false) : (true && b) = false := by rw [h]; rfl
end Go.Proofs.YtfljbnhhkdaobaaGreat

/-
  The document's names of a term.
-/
namespace Go.Proofs.YtfljbnhhkdaobaaGreat
open Go Go.RowKit Go.Proofs.Bw
set_option linter.unusedVariables false
set_option linter.unusedSimpArgs false
def lt8 (a b : ByteArray) : Bool := Op.bytesLess a.toList b.toList
def plB (s : ByteArray) : List ByteArray → Nat → Nat
  | [], i => i
  | x :: r, i => if lt8 x s = true then plB s r (i + 1) else i
theorem plB_drop (s : ByteArray) (l : List ByteArray) (i : Nat) (h : i < l.length) : plB s (l.drop i) i = if lt8 l[i] s = true then plB s (l.drop (i + 1)) (i + 1) else i := by
  rw [List.drop_eq_getElem_cons h, plB]
def withB (l : List ByteArray) (s : ByteArray) : List ByteArray := if l[plB s l 0]? = some s then l else l.take (plB s l 0) ++ [s] ++ l.drop (plB s l 0)
theorem withB_len (l : List ByteArray) (s : ByteArray) : (withB l s).length ≤ l.length + 1 := by
  unfold withB
  split
  · omega
  · simp only [List.length_append, List.length_take, List.length_drop, List.length_cons, List.length_nil]; omega
set_option maxRecDepth 20000 in
theorem rwith_runs {R : Nat → Prop} (A : Option Addr) (l : List ByteArray) (c : Nat) (s : ByteArray) (w : World) (hl : Sl encS w R A l) (hR : ∀ k, R k → k < w.heap.size) (hc : lenOk l.length c) (hsz : l.length ≤ 1000000) (hs : s.size ≤ 9223372036854775807) :
    Runs Tryz.prog 112 #[.slice A l.length c, .string s] w fun v w' => Ext w w' ∧ ∃ A' c', v = .slice A' (withB l s).length c' ∧ lenOk (withB l s).length c' ∧ Sl encS w' (fun k => k < w'.heap.size) A' (withB l s) := by
  refine Runs.of_vc (ρ := []) cx_ok [0, 1, 4, 5, 6, 18, 32] [.v _, .v _] Tryz.func112 rfl rfl rfl (Holds.nil w) ?_
  refine vLoop_upd (σ := Nat) [5, 7, 8, 9, 10, 11, 12, 13, 14, 15, 16, 17, 18, 19, 20] (fun i => [(5, .v (.int .i64 i))]) [] (fun _ => []) (fun i w' => Ext w w' ∧ i ≤ l.length ∧ plB s (l.drop i) i = plB s l 0) (fun i => l.length - i) 0 (fun _ => ⟨rfl, rfl⟩)
    ⟨(by repeat (first | exact trivial | refine And.intro rfl ?_)), (by repeat (first | exact trivial | refine And.intro rfl ?_)), (by repeat (first | exact trivial | refine And.intro rfl ?_)), (by repeat (first | exact trivial | refine And.intro rfl ?_)), Ext.refl w, Nat.zero_le _, rfl⟩ ?_
  rintro i w1 hh1 ⟨x1, hi, hp⟩
  have q1 := x1.size
  by_cases hil : i < l.length
  · obtain ⟨a1, cs1, ha1, hRa, hrow, hs1⟩ := (hl.ext x1).at hil
    obtain ⟨rfl, hs1⟩ := hs1
    have hpd := plB_drop s l i hil
    have hcc : decide ((i : Int) < (l.length : Int)) = true := decide_eq_true (by omega)
    have hgi : l[i]? = some l[i] := List.getElem?_eq_getElem hil
    generalize l[i] = y at *
    refine vyes (gY hcc) ?_
    refine OpT.indexAddr Tryz.underlying28 Tryz.sizeOf9 rfl rfl ha1 (by first | omega | (simp only [lenOk] at *; omega)) ?_; refine Lands.v hh1 ?_
    refine vyes (gY hcc) ?_
    refine OpT.load Tryz.isAgg9 rfl (hrow.cell 0 rfl) ?_; refine Lands.v hh1 ?_
    refine Or.inl (And.intro (fun h => ?_) (fun h => ?_))
    · have hlt : lt8 y s = true := by rw [hcc] at h; show Op.bytesLess _ _ = _; simpa [sel] using h
      rw [hpd, if_pos hlt] at hp
      refine vsd (by simp only [inKind]; omega) ?_
      exact Exists.intro (i + 1) ⟨by omega, esub_over (by repeat (first | exact trivial | refine And.intro rfl ?_)) (by repeat (first | exact trivial | refine And.intro rfl ?_)), hsub_over (by repeat (first | exact trivial | refine And.intro rfl ?_)) (by repeat (first | exact trivial | refine And.intro rfl ?_)), x1, hil, hp⟩
    · have hlt : lt8 y s = false := by rw [hcc] at h; show Op.bytesLess _ _ = _; simpa [sel] using h
      rw [hpd, if_neg (by rw [hlt]; decide)] at hp
      refine vyes (gY hcc) ?_
      refine OpT.indexAddr Tryz.underlying28 Tryz.sizeOf9 rfl rfl ha1 (by first | omega | (simp only [lenOk] at *; omega)) ?_; refine Lands.v hh1 ?_
      refine vyes (gY hcc) ?_
      refine OpT.load Tryz.isAgg9 rfl (hrow.cell 0 rfl) ?_; refine Lands.v hh1 ?_
      refine Or.inl (And.intro (fun h => ?_) (fun h => ?_))
      · have hys : y = s := by rw [hcc] at h; simpa [sel] using h
        have hw : withB l s = l := by unfold withB; rw [← hp, hgi, hys, if_pos rfl]
        rw [hw]
        exact ⟨x1, A, c, rfl, hc, (hl.ext x1).mono fun k hk => by have := hR k hk; omega⟩
      · have hys : ¬ y = s := by rw [hcc] at h; simpa [sel] using h
        have hw : withB l s = l.take i ++ [s] ++ l.drop i := by unfold withB; rw [← hp, hgi, if_neg (by simpa using hys)]
        have hSl := hl.ext x1
        have hlen : (l.take i ++ [s] ++ l.drop i).length = l.length + 1 := by simp only [List.length_append, List.length_take, List.length_drop, List.length_cons, List.length_nil]; omega
        have htk : (l.take i).length = i := by rw [List.length_take]; omega
        refine OpT.slicePre Tryz.underlying28 Tryz.sizeOf9 rfl (j := (i : Int)) rfl (by simp only [lenOk] at *; omega) (m := (l.take i).length) (by rw [htk]; rfl) ?_
        refine Lands.v hh1 ?_
        refine OpT.appendL (E := encS) elS1 Tryz.underlying28 Tryz.underlying28 rfl rfl rfl rfl (l3 := l.take i) (by simp) rfl (OwnE.nil encS w1 w1.heap.size _ R) (Ext.refl w1) (hSl.take i) (fun k hk _ => .inl hk) (fun k hk => by have := (fun k hk => Nat.lt_of_lt_of_le (hR k hk) q1) k hk; omega) x1 (by omega) hh1 (by repeat (first | exact trivial | refine And.intro (by omega) ?_)) (by rw [htk]; omega) fun w6 A6 c6 y6 z6 o6 hh6 => ?_
        refine OpT.buildE (E := encS) (R := R) (vs := [_]) (l := [s]) Tryz.zeroValue9 (.cons rfl (.nil)) Tryz.underlying28 Tryz.sizeOf9 rfl rfl (Reps.cons (⟨rfl, hs⟩) (Reps.nil _ _ _)) rfl rfl hh6 fun w7 g7 e7 x7 z7 o7 hh7 => ?_
        refine OpT.appendO (E := encS) elS1 Tryz.underlying28 Tryz.underlying28 rfl rfl rfl rfl (l3 := l.take i ++ [s]) rfl rfl o6 x7 o7 (by omega) (fun k hk => by have := (fun k hk => Nat.lt_of_lt_of_le (hR k hk) q1) k hk; omega) (y6.trans x7) (by omega) hh7 (by repeat (first | exact trivial | refine And.intro (by omega) ?_)) (by simp only [List.length_append, htk, List.length_cons, List.length_nil]; omega) fun w8 A8 c8 y8 z8 o8 hh8 => ?_
        have hSl8 := hl.ext y8
        refine OpT.slice Tryz.underlying28 Tryz.sizeOf9 rfl (i := (i : Int)) (j := (l.length : Int)) rfl rfl (by simp only [lenOk] at *; omega) ?_
        rw [show ((l.length : Int).toNat - (i : Int).toNat) = (l.drop i).length by rw [List.length_drop]; omega]
        refine Lands.v hh8 ?_
        refine OpT.appendL (E := encS) elS1 Tryz.underlying28 Tryz.underlying28 rfl rfl rfl rfl (l3 := l.take i ++ [s] ++ l.drop i) rfl rfl o8 (Ext.refl w8) (hSl8.cut hc.1 i) (fun k hk _ => .inl hk) (fun k hk => by have := (fun k hk => Nat.lt_of_lt_of_le (hR k hk) q1) k hk; omega) y8 (by omega) hh8 (by repeat (first | exact trivial | refine And.intro (by omega) ?_)) (by rw [hlen]; omega) fun w9 A9 c9 y9 z9 o9 hh9 => ?_
        have q9 := y9.size
        rw [hw]
        exact ⟨y9, A9, c9, rfl, o9.le, o9.sl.mono fun k hk => hk.2⟩
  · obtain rfl : i = l.length := by omega
    have hcc : decide ((l.length : Int) < (l.length : Int)) = false := decide_eq_false (by omega)
    rw [List.drop_length] at hp
    have hw : withB l s = l.take l.length ++ [s] ++ l.drop l.length := by unfold withB; rw [← hp, plB, if_neg (by simp)]
    refine vskip (gN hcc) ?_
    refine vskip (gN hcc) ?_
    refine vskip (gN hcc) ?_
    refine OpT.pickF rfl hcc rfl ?_
    refine Lands.v hh1 ?_
    refine Or.inl (And.intro (fun hx => nomatch (rfl).symm.trans hx) (fun _ => ?_))
    refine vskip (gN hcc) ?_
    refine vskip (gN hcc) ?_
    refine vskip (gN hcc) ?_
    refine OpT.pickF rfl hcc rfl ?_
    refine Lands.v hh1 ?_
    refine Or.inl (And.intro (fun hx => nomatch (rfl).symm.trans hx) (fun _ => ?_))
    have hSl := hl.ext x1
    have hlen : (l.take l.length ++ [s] ++ l.drop l.length).length = l.length + 1 := by simp only [List.length_append, List.length_take, List.length_drop, List.length_cons, List.length_nil]; omega
    have htk : (l.take l.length).length = l.length := by rw [List.length_take]; omega
    refine OpT.slicePre Tryz.underlying28 Tryz.sizeOf9 rfl (j := (l.length : Int)) rfl (by simp only [lenOk] at *; omega) (m := (l.take l.length).length) (by rw [htk]; rfl) ?_
    refine Lands.v hh1 ?_
    refine OpT.appendL (E := encS) elS1 Tryz.underlying28 Tryz.underlying28 rfl rfl rfl rfl (l3 := l.take l.length) (by simp) rfl (OwnE.nil encS w1 w1.heap.size _ R) (Ext.refl w1) (hSl.take l.length) (fun k hk _ => .inl hk) (fun k hk => by have := (fun k hk => Nat.lt_of_lt_of_le (hR k hk) q1) k hk; omega) x1 (by omega) hh1 (by repeat (first | exact trivial | refine And.intro (by omega) ?_)) (by rw [htk]; omega) fun w6 A6 c6 y6 z6 o6 hh6 => ?_
    refine OpT.buildE (E := encS) (R := R) (vs := [_]) (l := [s]) Tryz.zeroValue9 (.cons rfl (.nil)) Tryz.underlying28 Tryz.sizeOf9 rfl rfl (Reps.cons (⟨rfl, hs⟩) (Reps.nil _ _ _)) rfl rfl hh6 fun w7 g7 e7 x7 z7 o7 hh7 => ?_
    refine OpT.appendO (E := encS) elS1 Tryz.underlying28 Tryz.underlying28 rfl rfl rfl rfl (l3 := l.take l.length ++ [s]) rfl rfl o6 x7 o7 (by omega) (fun k hk => by have := (fun k hk => Nat.lt_of_lt_of_le (hR k hk) q1) k hk; omega) (y6.trans x7) (by omega) hh7 (by repeat (first | exact trivial | refine And.intro (by omega) ?_)) (by simp only [List.length_append, htk, List.length_cons, List.length_nil]; omega) fun w8 A8 c8 y8 z8 o8 hh8 => ?_
    have hSl8 := hl.ext y8
    refine OpT.slice Tryz.underlying28 Tryz.sizeOf9 rfl (i := (l.length : Int)) (j := (l.length : Int)) rfl rfl (by simp only [lenOk] at *; omega) ?_
    rw [show ((l.length : Int).toNat - (l.length : Int).toNat) = (l.drop l.length).length by rw [List.length_drop]; omega]
    refine Lands.v hh8 ?_
    refine OpT.appendL (E := encS) elS1 Tryz.underlying28 Tryz.underlying28 rfl rfl rfl rfl (l3 := l.take l.length ++ [s] ++ l.drop l.length) rfl rfl o8 (Ext.refl w8) (hSl8.cut hc.1 l.length) (fun k hk _ => .inl hk) (fun k hk => by have := (fun k hk => Nat.lt_of_lt_of_le (hR k hk) q1) k hk; omega) y8 (by omega) hh8 (by repeat (first | exact trivial | refine And.intro (by omega) ?_)) (by rw [hlen]; omega) fun w9 A9 c9 y9 z9 o9 hh9 => ?_
    have q9 := y9.size
    rw [hw]
    exact ⟨y9, A9, c9, rfl, o9.le, o9.sl.mono fun k hk => hk.2⟩
end Go.Proofs.YtfljbnhhkdaobaaGreat

/-
  The document's names of a term: the walk, and that they are the program's.
-/
namespace Go.Proofs.YtfljbnhhkdaobaaGreat
open Go Go.RowKit Go.Proofs.Bw
set_option linter.unusedVariables false
set_option linter.unusedSimpArgs false
def st1 (s : ByteArray) (l : List ByteArray) : List ByteArray := if s = noS then l else withB l s
mutual
def rnm : T → List ByteArray → List ByteArray
  | .mk _ _ s _ ts, l => rnms ts (st1 s l)
def rnms : List T → List ByteArray → List ByteArray
  | [], l => l
  | t :: r, l => rnms r (rnm t l)
end
theorem rnms_append (a b : List T) (l : List ByteArray) : rnms (a ++ b) l = rnms b (rnms a l) := by
  induction a generalizing l with
  | nil => simp [rnms]
  | cons t r ih => simp only [List.cons_append, rnms, ih]
theorem rnms_take (ts : List T) (i : Nat) (h : i < ts.length) (l : List ByteArray) : rnms (ts.take (i + 1)) l = rnm ts[i] (rnms (ts.take i) l) := by
  rw [take_snoc ts i h, rnms_append]; simp [rnms]
theorem st1_len (s : ByteArray) (l : List ByteArray) : (st1 s l).length ≤ l.length + 1 := by
  unfold st1; split
  · omega
  · exact withB_len l s
theorem rnm_len (t : T) : ∀ l, (rnm t l).length ≤ l.length + size t := by
  refine T.rec (motive_1 := fun t => ∀ l, (rnm t l).length ≤ l.length + size t) (motive_2 := fun ts => ∀ l, (rnms ts l).length ≤ l.length + sizes ts) ?_ ?_ ?_ t
  · intro k n s ls ts ih l
    have := ih (st1 s l); have := st1_len s l
    simp only [rnm, size]; omega
  · intro l; simp [rnms, sizes]
  · intro t r h1 h2 l
    have := h2 (rnm t l); have := h1 l
    simp only [rnms, sizes]; omega
theorem rnms_len (ts : List T) (l : List ByteArray) : (rnms ts l).length ≤ l.length + sizes ts := by
  induction ts generalizing l with
  | nil => simp [rnms, sizes]
  | cons t r ih =>
    have := ih (rnm t l); have := rnm_len t l
    simp only [rnms, sizes]; omega
set_option maxRecDepth 20000 in
theorem rnames_runs (t : T) : ∀ (cs : List Value) (A : Option Addr) (c : Nat) (l : List ByteArray) (w : World) (R : Nat → Prop) (hv : VT w R cs t) (hl : Sl encS w (fun k => k < w.heap.size) A l) (hc : lenOk l.length c) (hsz : l.length + size t ≤ 1000000),
    Runs Tryz.prog 79 #[.slice A l.length c, .agg cs.toArray] w fun v w' => Ext w w' ∧ ∃ A' c', v = .slice A' (rnm t l).length c' ∧ lenOk (rnm t l).length c' ∧ Sl encS w' (fun k => k < w'.heap.size) A' (rnm t l) := by
  induction t using T.ind with
  | h k n s ls ts ih =>
  intro cs A c l w R hv hl hc hsz
  obtain ⟨k', n', s', ls', ts', la, lc, ta, tc, e, rfl, hk, hn, hs, hll, hlt, hL, hT⟩ := hv.inv
  injection e with e1 e2 e3 e4 e5
  subst e1; subst e2; subst e3; subst e4; subst e5
  have hsz' : l.length + (1 + sizes ts) ≤ 1000000 := by simpa only [size] using hsz
  refine Runs.of_vc (ρ := []) cx_ok [0, 1, 3, 4, 5, 8, 17] [.v _, .a [.v (.int .u8 k), .v (.int .i64 n), .v (.string s), .v (.slice la ls.length lc), .v (.slice ta ts.length tc)]] Tryz.func79 rfl rfl rfl (Holds.nil w) ?_
  intro g1 w1 e1 x1 z1 hh1
  have hst := st1_len s l
  refine vJoin_upd (σ := Option Addr × Nat) [0, 9, 10, 11, 12] (fun q => [(0, .v (.slice q.1 (st1 s l).length q.2))]) [] (fun _ => [])
    (fun q w' => Ext w w' ∧ lenOk (st1 s l).length q.2 ∧ Sl encS w' (fun k => k < w'.heap.size) q.1 (st1 s l)) (fun _ => ⟨rfl, rfl⟩) (fun h => ?_) (fun h => ?_) ?_
  · have hne : ¬ s = noS := by simpa [noS] using h
    have hs1 : st1 s l = withB l s := if_neg hne
    refine vcV (rwith_runs A l c s w1 ((hl.ext x1).mono fun k hk => Nat.lt_of_lt_of_le hk x1.size) (fun k hk => hk) hc (by omega) (by omega)) hh1 fun v2 w2 x2 z2 hh2 p2 => ?_
    obtain ⟨A2, c2, rfl, hc2, hl2⟩ := p2
    rw [← hs1] at hc2 hl2 ⊢
    exact Exists.intro ((A2, c2)) ⟨esub_over (by repeat (first | exact trivial | refine And.intro rfl ?_)) (by repeat (first | exact trivial | refine And.intro rfl ?_)), hsub_over (by repeat (first | exact trivial | refine And.intro rfl ?_)) (by repeat (first | exact trivial | refine And.intro rfl ?_)), x1.trans x2, hc2, hl2⟩
  · have hne : s = noS := by simpa [noS] using h
    have hs1 : st1 s l = l := if_pos hne
    rw [hs1]
    exact Exists.intro ((A, c)) ⟨esub_over (by repeat (first | exact trivial | refine And.intro rfl ?_)) (by repeat (first | exact trivial | refine And.intro rfl ?_)), hsub_over (by repeat (first | exact trivial | refine And.intro rfl ?_)) (by repeat (first | exact trivial | refine And.intro rfl ?_)), x1, hc, (hl.ext x1).mono fun k hk => Nat.lt_of_lt_of_le hk x1.size⟩
  rintro ⟨A2, c2⟩ w2 hh2 ⟨x2, hc2, hl2⟩
  simp only at hc2 hl2
  have hrn : rnm (.mk k n s ls ts) l = rnms ts (st1 s l) := rfl
  rw [hrn]
  generalize st1 s l = l1 at *
  refine vLoop_upd (σ := Nat × Option Addr × Nat) [0, 5, 13, 14, 15, 16, 17, 18, 19, 20, 21, 22, 23, 24, 25, 26] (fun q => [(5, .v (.int .i64 q.1)), (0, .v (.slice q.2.1 (rnms (ts.take q.1) l1).length q.2.2))]) [] (fun _ => [])
    (fun q w' => Ext w w' ∧ q.1 ≤ ts.length ∧ lenOk (rnms (ts.take q.1) l1).length q.2.2 ∧ Sl encS w' (fun k => k < w'.heap.size) q.2.1 (rnms (ts.take q.1) l1)) (fun q => ts.length - q.1) (0, A2, c2) (fun _ => ⟨rfl, rfl⟩)
    ⟨(by repeat (first | exact trivial | refine And.intro rfl ?_)), (by repeat (first | exact trivial | refine And.intro rfl ?_)), (by repeat (first | exact trivial | refine And.intro rfl ?_)), (by repeat (first | exact trivial | refine And.intro rfl ?_)), x2, Nat.zero_le _, hc2, hl2⟩ ?_
  rintro ⟨i, A3, c3⟩ w3 hh3 ⟨x3, hi, hc3, hl3⟩
  simp only at hi hc3 hl3
  refine Or.inl (And.intro (fun h => ?_) (fun h => ?_))
  · have hil : i < ts.length := by have := of_decide_eq_true h; simp only at this; omega
    obtain ⟨a1, cs1, ha1, _, hrow, hv1⟩ := (sl_T (hT.ext x3)).at hil
    have hft := rnms_take ts i hil l1
    have hsm := size_mem ts k n s ls i hil
    have hln := rnms_len (ts.take i) l1
    have ihi := ih ts[i] (List.getElem_mem hil)
    simp only [size] at hsm
    generalize ts[i] = x at *
    have hv1 : VT w3 R cs1 x := hv1
    have hv10 := hv1
    obtain ⟨kx, nx, sx, lsx, tsx, lax, lcx, tax, tcx, ex, rfl, hkx, hnx, hsx, hllx, hltx, hLx, hTx⟩ := hv1.inv
    refine OpT.indexAddr Tryz.underlying31 Tryz.sizeOf33 rfl rfl ha1 (by first | omega | (simp only [lenOk] at *; omega)) ?_; refine Lands.v hh3 ?_
    refine OpT.loadA Tryz.isAgg33 (by exact Tryz.sizeOf33) rfl hrow ?_; refine Lands.ret (s := .a [.v (.int .u8 kx), .v (.int .i64 nx), .v (.string sx), .v (.slice lax lsx.length lcx), .v (.slice tax tsx.length tcx)]) rfl rfl hh3 ?_
    refine vcV (ihi _ A3 c3 (rnms (ts.take i) l1) w3 R hv10 hl3 hc3 (by omega)) hh3 fun v4 w4 x4 z4 hh4 p4 => ?_
    obtain ⟨A4, c4, rfl, hc4, hl4⟩ := p4
    rw [← hft] at hc4 hl4 ⊢
    refine vsd (by simp only [inKind]; simp only [lenOk] at *; omega) ?_
    exact Exists.intro ((i + 1, A4, c4)) ⟨by simp only; omega, esub_over (by repeat (first | exact trivial | refine And.intro rfl ?_)) (by repeat (first | exact trivial | refine And.intro rfl ?_)), hsub_over (by repeat (first | exact trivial | refine And.intro rfl ?_)) (by repeat (first | exact trivial | refine And.intro rfl ?_)), x3.trans x4, hil, hc4, hl4⟩
  · obtain rfl : i = ts.length := by have := of_decide_eq_false h; simp only at this; omega
    rw [List.take_length] at hc3 hl3 ⊢
    exact ⟨x3, A3, c3, rfl, hc3, hl3⟩
set_option maxRecDepth 20000 in
theorem rNames0_runs (t : T) (cs : List Value) (w : World) (R : Nat → Prop) (hv : VT w R cs t) (hsz : size t ≤ 1000000) :
    Runs Tryz.prog 46 #[.agg cs.toArray] w fun v w' => Ext w w' ∧ ∃ A' c', v = .slice A' (rnm t []).length c' ∧ lenOk (rnm t []).length c' ∧ Sl encS w' (fun k => k < w'.heap.size) A' (rnm t []) := by
  have hv0 := hv
  obtain ⟨k, n, s, ls, ts, la, lc, ta, tc, e, rfl, hk, hn, hs, hll, hlt, hL, hT⟩ := hv.inv
  refine Runs.of_vc (ρ := []) cx_ok [0, 1, 2] [.a [.v (.int .u8 k), .v (.int .i64 n), .v (.string s), .v (.slice la ls.length lc), .v (.slice ta ts.length tc)]] Tryz.func46 rfl rfl rfl (Holds.nil w) ?_
  intro g1 w1 e1 x1 z1 hh1
  refine vcV (rnames_runs t _ none 0 [] w1 R (hv0.ext x1) (Sl.nil _ _ _ _) (by simp [lenOk]) (by simpa using hsz)) hh1 fun v2 w2 x2 z2 hh2 p2 => ?_
  obtain ⟨A2, c2, rfl, hc2, hl2⟩ := p2
  exact ⟨x1.trans x2, A2, c2, rfl, hc2, hl2⟩
/-! that they are the same -/
theorem lt8_iff (a b : ByteArray) : lt8 a b = true ↔ a.data.toList < b.data.toList := by
  unfold lt8
  rw [ByteArray.toList_eq, ByteArray.toList_eq, Go.Proofs.bytesLess_eq]; simp
theorem ba_ext {a b : ByteArray} (h : a.data.toList = b.data.toList) : a = b := by
  cases a; cases b; simp only [ByteArray.mk.injEq]; exact Array.ext' h
def srtB (l : List ByteArray) : Prop := l.Pairwise fun a b => a.data.toList < b.data.toList
theorem plB_spec (s : ByteArray) : ∀ (l : List ByteArray) (i : Nat), ∃ p, plB s l i = i + p ∧ p ≤ l.length ∧ (∀ x ∈ l.take p, x.data.toList < s.data.toList) ∧ (∀ y, l[p]? = some y → ¬ y.data.toList < s.data.toList)
  | [], i => ⟨0, rfl, by simp, by simp, by simp⟩
  | x :: r, i => by
    rw [plB]
    by_cases h : lt8 x s = true
    · rw [if_pos h]
      obtain ⟨p, h1, h2, h3, h4⟩ := plB_spec s r (i + 1)
      refine ⟨p + 1, by omega, by simpa using h2, ?_, by simpa using h4⟩
      intro y hy
      rw [List.take_succ_cons] at hy
      rcases List.mem_cons.1 hy with rfl | hy
      · exact (lt8_iff _ _).1 h
      · exact h3 y hy
    · rw [if_neg h]
      refine ⟨0, by omega, by simp, by simp, ?_⟩
      intro y hy
      simp at hy
      subst hy
      exact fun hh => h ((lt8_iff _ _).2 hh)
theorem withB_law {l : List ByteArray} (h : srtB l) (s : ByteArray) : srtB (withB l s) ∧ ∀ x, x ∈ withB l s ↔ x ∈ l ∨ x = s := by
  obtain ⟨p, h1, h2, h3, h4⟩ := plB_spec s l 0
  rw [Nat.zero_add] at h1
  unfold withB
  rw [h1]
  by_cases hp : l[p]? = some s
  · rw [if_pos hp]
    refine ⟨h, fun x => ⟨.inl, fun hx => hx.elim id fun hx => hx ▸ List.mem_of_getElem? hp⟩⟩
  · rw [if_neg hp]
    have hd : l = l.take p ++ l.drop p := (List.take_append_drop p l).symm
    have hs := h
    rw [hd] at hs
    obtain ⟨q1, q2, q3⟩ := List.pairwise_append.1 hs
    have h5 : ∀ y ∈ l.drop p, s.data.toList < y.data.toList := by
      intro y hy
      cases hdr : l.drop p with
      | nil => rw [hdr] at hy; cases hy
      | cons u r =>
        have hu : l[p]? = some u := by rw [← List.head?_drop, hdr]; rfl
        have h6 : s.data.toList < u.data.toList := by
          refine bl_lt_of_ne (List.not_lt.1 (h4 u hu)) fun e => hp ?_
          rw [hu, ba_ext e]
        rw [hdr] at hy q2
        rcases List.mem_cons.1 hy with rfl | hy
        · exact h6
        · exact List.lt_trans h6 ((List.pairwise_cons.1 q2).1 y hy)
    refine ⟨?_, fun x => ?_⟩
    · refine List.pairwise_append.2 ⟨List.pairwise_append.2 ⟨q1, List.pairwise_singleton _ _, fun a ha b hb => ?_⟩, q2, fun a ha b hb => ?_⟩
      · rw [List.mem_singleton.1 hb]; exact h3 a ha
      · rcases List.mem_append.1 ha with ha | ha
        · exact q3 a ha b hb
        · rw [List.mem_singleton.1 ha]; exact h5 b hb
    · conv => rhs; rw [hd]
      simp only [List.mem_append, List.mem_singleton]
      constructor
      · rintro ((h | h) | h)
        · exact .inl (.inl h)
        · exact .inr h
        · exact .inl (.inr h)
      · rintro ((h | h) | h)
        · exact .inl (.inl h)
        · exact .inr h
        · exact .inl (.inr h)
theorem st1_law {l : List ByteArray} (h : srtB l) (s : ByteArray) : srtB (st1 s l) ∧ ∀ x, x ∈ st1 s l ↔ x ∈ l ∨ x.data.toList ∈ nm1 s := by
  have hz : s = noS ↔ s.size = 0 := by
    constructor
    · rintro rfl; rfl
    · intro h
      cases s with
      | mk d => have h4 : d.size = 0 := h; unfold noS; congr 1; exact Array.eq_empty_of_size_eq_zero h4
  unfold st1 nm1
  by_cases hs : s = noS
  · rw [if_pos hs, if_pos (hz.1 hs)]
    exact ⟨h, fun x => by simp⟩
  · rw [if_neg hs, if_neg fun h => hs (hz.2 h)]
    obtain ⟨h1, h2⟩ := withB_law h s
    refine ⟨h1, fun x => ?_⟩
    rw [h2, List.mem_singleton]
    exact ⟨fun h => h.imp id fun h => by rw [h], fun h => h.imp id ba_ext⟩
theorem rnm_law (t : T) : ∀ {l : List ByteArray}, srtB l → srtB (rnm t l) ∧ ∀ x, x ∈ rnm t l ↔ x ∈ l ∨ x.data.toList ∈ names t := by
  refine T.rec (motive_1 := fun t => ∀ {l : List ByteArray}, srtB l → srtB (rnm t l) ∧ ∀ x, x ∈ rnm t l ↔ x ∈ l ∨ x.data.toList ∈ names t) (motive_2 := fun ts => ∀ {l : List ByteArray}, srtB l → srtB (rnms ts l) ∧ ∀ x, x ∈ rnms ts l ↔ x ∈ l ∨ x.data.toList ∈ namess ts) ?_ ?_ ?_ t
  · intro k n s ls ts ih l h
    obtain ⟨h1, h2⟩ := st1_law h s
    obtain ⟨h3, h4⟩ := ih h1
    simp only [rnm, names]
    refine ⟨h3, fun x => ?_⟩
    rw [h4, h2, List.mem_append, or_assoc]
  · intro l h; simp only [rnms, namess]; exact ⟨h, fun x => by simp⟩
  · intro t r h1 h2 l h
    obtain ⟨h3, h4⟩ := h1 h
    obtain ⟨h5, h6⟩ := h2 h3
    simp only [rnms, namess]
    refine ⟨h5, fun x => ?_⟩
    rw [h6, h4, List.mem_append, or_assoc]
end Go.Proofs.YtfljbnhhkdaobaaGreat

/-
  The sample: how its terms are made.
-/
namespace Go.Proofs.YtfljbnhhkdaobaaGreat
open Go Go.RowKit Go.Proofs.Bw
set_option linter.unusedVariables false
set_option linter.unusedSimpArgs false
def nw (R : Nat → Prop) (w w' : World) : Nat → Prop := fun k => R k ∨ (w.heap.size ≤ k ∧ k < w'.heap.size)
def VX (lo : Nat) (w : World) (cs : List Value) (t : T) : Prop := VT w (fun k => lo ≤ k ∧ k < w.heap.size) cs t
theorem VX.ext {lo : Nat} {w w' : World} {cs : List Value} {t : T} (h : VX lo w cs t) (x : Ext w w') : VX lo w' cs t := (VT.ext h x).mono fun k hk => ⟨hk.1, Nat.lt_of_lt_of_le hk.2 x.size⟩
theorem VT.vx {lo : Nat} {w : World} {R : Nat → Prop} {cs : List Value} {t : T} (h : VT w R cs t) (hr : ∀ k, R k → lo ≤ k) : VX lo w cs t := h.small.mono fun k hk => ⟨hr k hk.1, hk.2⟩
def levN (n : Int) : L := { lZero with c := n }
def levU : L := { lZero with p0 := 0 }
def tSo (l : L) : T := .mk 1 0 noS [l] []
def tCo (s : ByteArray) (ls : List L) : T := .mk 3 0 s ls []
def tLm (a b : T) : T := .mk 5 0 noS [] [a, b]
def tPi (a b : T) : T := .mk 6 0 noS [] [a, b]
def tPr (s : ByteArray) (n : Int) (a : T) : T := .mk 8 n s [] [a]
theorem levN_wf {n : Int} (h : i64ok n) : (levN n).wf := by simp [levN, lZero, L.wf, i64ok] at *; exact h
theorem levU_wf : levU.wf := by simp [levU, lZero, L.wf, i64ok]
set_option maxRecDepth 20000 in
theorem Lev_runs (n : Int) (w : World) : Runs Tryz.prog 36 #[.int .i64 n] w fun v w' => v = .agg (levN n).cells.toArray ∧ Ext w w' := by
  refine Runs.of_vc (ρ := []) cx_ok [0, 2, 3] [.v _] Tryz.func36 rfl rfl rfl (Holds.nil w) ?_
  intro g1 w1 e1 x1 z1 hh1
  refine (rZero_runs w1).mono ?_
  rintro _ w2 ⟨rfl, x2⟩
  have hh2 := hh1.ext x2
  have z2 := x2.size
  refine Lands.ret (s := .a [.v (.int .i64 lZero.c), .v (.int .i64 lZero.p0), .v (.int .i64 lZero.p1), .v (.int .i64 lZero.p2), .v (.int .i64 lZero.p3)]) rfl rfl hh2 ?_
  intro g3 w3 e3 x3 z3 hh3; intro w4 m4 z4 hh4; replace m4 : Upd g3 w3 w4 := m4; have x4 : Ext w2 w4 := x3.upd m4 (by omega); have q4 := x4.size
  intro w5 m5 z5 hh5
  replace m5 : Upd g3 w4 w5 := m5
  intro w6 m6 z6 hh6
  replace m6 : Upd g1 w5 w6 := m6
  exact ⟨rfl, ((x1.trans (x2.trans x4)).upd m5 (by omega)).upd m6 (by omega)⟩
set_option maxRecDepth 20000 in
theorem U_runs (w : World) : Runs Tryz.prog 115 #[] w fun v w' => v = .agg levU.cells.toArray ∧ Ext w w' := by
  refine Runs.of_vc cx_ok [0, 1] [] Tryz.func115 rfl rfl rfl (Holds.nil _) ?_
  intro g1 w1 e1 x1 z1 hh1
  refine (rZero_runs w1).mono ?_
  rintro _ w2 ⟨rfl, x2⟩
  have hh2 := hh1.ext x2
  have z2 := x2.size
  refine Lands.ret (s := .a [.v (.int .i64 lZero.c), .v (.int .i64 lZero.p0), .v (.int .i64 lZero.p1), .v (.int .i64 lZero.p2), .v (.int .i64 lZero.p3)]) rfl rfl hh2 ?_
  intro g3 w3 e3 x3 z3 hh3; intro w4 m4 z4 hh4; replace m4 : Upd g3 w3 w4 := m4; have x4 : Ext w2 w4 := x3.upd m4 (by omega); have q4 := x4.size
  refine OpT.indexAddrArr Tryz.underlying61 Tryz.sizeOf3 rfl rfl (by simp) ?_
  refine Lands.ret (s := .p 1 1) rfl rfl hh4 ?_
  intro w5 m5 z5 hh5
  replace m5 : Upd g3 w4 w5 := m5
  intro w6 m6 z6 hh6
  replace m6 : Upd g1 w5 w6 := m6
  exact ⟨rfl, ((x1.trans (x2.trans x4)).upd m5 (by omega)).upd m6 (by omega)⟩
set_option maxRecDepth 20000 in
theorem V_r (R : Nat → Prop) (n : Int) (hn : i64ok n) (w : World) : Runs Tryz.prog 67 #[.int .i64 n] w fun v w' => Ext w w' ∧ ∃ cs : List Value, v = .agg cs.toArray ∧ VT w' R cs (tV n) := by
  refine Runs.of_vc (ρ := []) cx_ok [0, 2] [.v _] Tryz.func67 rfl rfl rfl (Holds.nil w) ?_
  intro g1 w1 e1 x1 z1 hh1
  intro w2 m2 z2 hh2
  replace m2 : Upd g1 w1 w2 := m2
  exact ⟨x1.upd m2 (by omega), _, rfl, VT.intro (by omega) hn (by decide) (by simp [lenOk]) (by simp [lenOk]) (SlL.nil _ _ _) (SlT.nil _ _ _)⟩
set_option maxRecDepth 20000 in
theorem Co_r {R : Nat → Prop} (s : ByteArray) (hs : s.size ≤ 9223372036854775807) (A : Option Addr) (ls : List L) (c : Nat) (hlen : lenOk ls.length c) (w : World) (hl : Sl encL w R A ls) : Runs Tryz.prog 35 #[.string s, .slice A ls.length c] w fun v w' => Ext w w' ∧ ∃ cs : List Value, v = .agg cs.toArray ∧ VT w' R cs (tCo s ls) := by
  refine Runs.of_vc (ρ := []) cx_ok [0, 1, 4] [.v _, .v _] Tryz.func35 rfl rfl rfl (Holds.nil w) ?_
  intro g1 w1 e1 x1 z1 hh1
  intro w2 m2 z2 hh2
  replace m2 : Upd g1 w1 w2 := m2
  have y2 := x1.upd m2 (by omega)
  exact ⟨y2, _, rfl, VT.intro (by omega) (by simp [i64ok]) hs hlen (by simp [lenOk]) (L_sl (hl.ext y2)) (SlT.nil _ _ _)⟩
theorem Co0_r (R : Nat → Prop) (s : ByteArray) (hs : s.size ≤ 9223372036854775807) (w : World) : Runs Tryz.prog 35 #[.string s, .slice none 0 0] w fun v w' => Ext w w' ∧ ∃ cs : List Value, v = .agg cs.toArray ∧ VT w' R cs (tCo s []) :=
  Co_r (R := R) s hs none [] 0 (by simp [lenOk]) w (Sl.nil _ _ _ _)
set_option maxRecDepth 20000 in
theorem So_r (R : Nat → Prop) (l : L) (hl : l.wf) (w : World) : Runs Tryz.prog 114 #[.agg l.cells.toArray] w fun v w' => Ext w w' ∧ ∃ cs : List Value, v = .agg cs.toArray ∧ VT w' (nw R w w') cs (tSo l) := by
  refine Runs.of_vc (ρ := []) cx_ok [0, 1, 2] [.a [.v (.int .i64 l.c), .v (.int .i64 l.p0), .v (.int .i64 l.p1), .v (.int .i64 l.p2), .v (.int .i64 l.p3)]] Tryz.func114 rfl rfl rfl (Holds.nil w) ?_
  intro g1 w1 e1 x1 z1 hh1
  intro g2 w2 e2 x2 z2 hh2
  refine OpT.buildE (E := encL) (R := (fun _ => False)) (vs := [_]) (l := [l]) Tryz.zeroValue63 (.cons rfl (.nil)) Tryz.underlying30 Tryz.sizeOf63 rfl rfl (Reps.cons (⟨rfl, hl⟩) (Reps.nil _ _ _)) rfl rfl hh2 fun w3 g3 e3 x3 z3 o3 hh3 => ?_
  intro w4 m4 z4 hh4
  replace m4 : Upd g2 w3 w4 := m4
  have y4 := (x1.trans (x2.trans x3)).upd m4 (by omega)
  have o4 := o3.upd m4 (by omega) (fun h => h)
  exact ⟨y4, _, rfl, VT.intro (by omega) (by simp [i64ok]) (by decide) (by simp [lenOk]) (by simp [lenOk]) (L_sl (o4.sl.mono fun k hk => .inr ⟨by rcases hk.1 with h | h; exact h.elim; omega, hk.2⟩)) (SlT.nil _ _ _)⟩
set_option maxRecDepth 20000 in
theorem L_r {R : Nat → Prop} (a b : T) (ca cb : List Value) (w : World) (ha : VT w R ca a) (hb : VT w R cb b) (hR : ∀ k, R k → k < w.heap.size) : Runs Tryz.prog 116 #[.agg ca.toArray, .agg cb.toArray] w fun v w' => Ext w w' ∧ ∃ cs : List Value, v = .agg cs.toArray ∧ VT w' (nw R w w') cs (tLm a b) := by
  have ha0 := ha
  have hb0 := hb
  obtain ⟨ka, na, sa, lsa, tsa, laa, lca, taa, tca, ea, rfl, hka, hna, hsa, hlla, hlta, hLa, hTa⟩ := ha.inv
  obtain ⟨kb, nb, sb, lsb, tsb, lab, lcb, tab, tcb, eb, rfl, hkb, hnb, hsb, hllb, hltb, hLb, hTb⟩ := hb.inv
  refine Runs.of_vc (ρ := []) cx_ok [0, 1, 2, 3, 4] [.a [.v (.int .u8 ka), .v (.int .i64 na), .v (.string sa), .v (.slice laa lsa.length lca), .v (.slice taa tsa.length tca)], .a [.v (.int .u8 kb), .v (.int .i64 nb), .v (.string sb), .v (.slice lab lsb.length lcb), .v (.slice tab tsb.length tcb)]] Tryz.func116 rfl rfl rfl (Holds.nil w) ?_
  intro g1 w1 e1 x1 z1 hh1
  intro g2 w2 e2 x2 z2 hh2
  intro g3 w3 e3 x3 z3 hh3
  have y3 := x1.trans (x2.trans x3)
  refine OpT.buildE (E := encT) (R := R) (vs := [_, _]) (l := [a, b]) Tryz.zeroValue33 (.cons rfl (.cons rfl (.nil))) Tryz.underlying31 Tryz.sizeOf33 rfl rfl (Reps.cons (VT.ext ha0 y3) (Reps.cons (VT.ext hb0 y3) (Reps.nil _ _ _))) rfl rfl hh3 fun w4 g4 e4 x4 z4 o4 hh4 => ?_
  intro w5 m5 z5 hh5
  replace m5 : Upd g3 w4 w5 := m5
  have y5 := (y3.trans x4).upd m5 (by omega)
  have o5 := o4.upd m5 (by omega) (fun h => by have := hR _ h; omega)
  exact ⟨y5, _, rfl, VT.intro (by omega) (by simp [i64ok]) (by decide) (by simp [lenOk]) (by simp [lenOk]) (SlL.nil _ _ _) (T_sl (o5.sl.mono fun k hk => hk.1.imp id fun h => ⟨by have := y3.size; omega, hk.2⟩))⟩
set_option maxRecDepth 20000 in
theorem P_r {R : Nat → Prop} (a b : T) (ca cb : List Value) (w : World) (ha : VT w R ca a) (hb : VT w R cb b) (hR : ∀ k, R k → k < w.heap.size) : Runs Tryz.prog 113 #[.agg ca.toArray, .agg cb.toArray] w fun v w' => Ext w w' ∧ ∃ cs : List Value, v = .agg cs.toArray ∧ VT w' (nw R w w') cs (tPi a b) := by
  have ha0 := ha
  have hb0 := hb
  obtain ⟨ka, na, sa, lsa, tsa, laa, lca, taa, tca, ea, rfl, hka, hna, hsa, hlla, hlta, hLa, hTa⟩ := ha.inv
  obtain ⟨kb, nb, sb, lsb, tsb, lab, lcb, tab, tcb, eb, rfl, hkb, hnb, hsb, hllb, hltb, hLb, hTb⟩ := hb.inv
  refine Runs.of_vc (ρ := []) cx_ok [0, 1, 2, 3, 4] [.a [.v (.int .u8 ka), .v (.int .i64 na), .v (.string sa), .v (.slice laa lsa.length lca), .v (.slice taa tsa.length tca)], .a [.v (.int .u8 kb), .v (.int .i64 nb), .v (.string sb), .v (.slice lab lsb.length lcb), .v (.slice tab tsb.length tcb)]] Tryz.func113 rfl rfl rfl (Holds.nil w) ?_
  intro g1 w1 e1 x1 z1 hh1
  intro g2 w2 e2 x2 z2 hh2
  intro g3 w3 e3 x3 z3 hh3
  have y3 := x1.trans (x2.trans x3)
  refine OpT.buildE (E := encT) (R := R) (vs := [_, _]) (l := [a, b]) Tryz.zeroValue33 (.cons rfl (.cons rfl (.nil))) Tryz.underlying31 Tryz.sizeOf33 rfl rfl (Reps.cons (VT.ext ha0 y3) (Reps.cons (VT.ext hb0 y3) (Reps.nil _ _ _))) rfl rfl hh3 fun w4 g4 e4 x4 z4 o4 hh4 => ?_
  intro w5 m5 z5 hh5
  replace m5 : Upd g3 w4 w5 := m5
  have y5 := (y3.trans x4).upd m5 (by omega)
  have o5 := o4.upd m5 (by omega) (fun h => by have := hR _ h; omega)
  exact ⟨y5, _, rfl, VT.intro (by omega) (by simp [i64ok]) (by decide) (by simp [lenOk]) (by simp [lenOk]) (SlL.nil _ _ _) (T_sl (o5.sl.mono fun k hk => hk.1.imp id fun h => ⟨by have := y3.size; omega, hk.2⟩))⟩
set_option maxRecDepth 20000 in
theorem App_r {R : Nat → Prop} (a b : T) (ca cb : List Value) (w : World) (ha : VT w R ca a) (hb : VT w R cb b) (hR : ∀ k, R k → k < w.heap.size) : Runs Tryz.prog 106 #[.agg ca.toArray, .agg cb.toArray] w fun v w' => Ext w w' ∧ ∃ cs : List Value, v = .agg cs.toArray ∧ VT w' (nw R w w') cs (tA a b) := by
  have ha0 := ha
  have hb0 := hb
  obtain ⟨ka, na, sa, lsa, tsa, laa, lca, taa, tca, ea, rfl, hka, hna, hsa, hlla, hlta, hLa, hTa⟩ := ha.inv
  obtain ⟨kb, nb, sb, lsb, tsb, lab, lcb, tab, tcb, eb, rfl, hkb, hnb, hsb, hllb, hltb, hLb, hTb⟩ := hb.inv
  refine Runs.of_vc (ρ := []) cx_ok [0, 1, 2, 3, 4] [.a [.v (.int .u8 ka), .v (.int .i64 na), .v (.string sa), .v (.slice laa lsa.length lca), .v (.slice taa tsa.length tca)], .a [.v (.int .u8 kb), .v (.int .i64 nb), .v (.string sb), .v (.slice lab lsb.length lcb), .v (.slice tab tsb.length tcb)]] Tryz.func106 rfl rfl rfl (Holds.nil w) ?_
  intro g1 w1 e1 x1 z1 hh1
  intro g2 w2 e2 x2 z2 hh2
  intro g3 w3 e3 x3 z3 hh3
  have y3 := x1.trans (x2.trans x3)
  refine OpT.buildE (E := encT) (R := R) (vs := [_, _]) (l := [a, b]) Tryz.zeroValue33 (.cons rfl (.cons rfl (.nil))) Tryz.underlying31 Tryz.sizeOf33 rfl rfl (Reps.cons (VT.ext ha0 y3) (Reps.cons (VT.ext hb0 y3) (Reps.nil _ _ _))) rfl rfl hh3 fun w4 g4 e4 x4 z4 o4 hh4 => ?_
  intro w5 m5 z5 hh5
  replace m5 : Upd g3 w4 w5 := m5
  have y5 := (y3.trans x4).upd m5 (by omega)
  have o5 := o4.upd m5 (by omega) (fun h => by have := hR _ h; omega)
  exact ⟨y5, _, rfl, VT.intro (by omega) (by simp [i64ok]) (by decide) (by simp [lenOk]) (by simp [lenOk]) (SlL.nil _ _ _) (T_sl (o5.sl.mono fun k hk => hk.1.imp id fun h => ⟨by have := y3.size; omega, hk.2⟩))⟩
structure TC where
  k : Int
  n : Int
  s : ByteArray
  la : Option Addr
  ln : Nat
  lc : Nat
  ta : Option Addr
  tn : Nat
  tc : Nat
def TC.cells (q : TC) : List Value := [.int .u8 q.k, .int .i64 q.n, .string q.s, .slice q.la q.ln q.lc, .slice q.ta q.tn q.tc]
theorem nw.lt {R : Nat → Prop} {w w' : World} (hR : ∀ k, R k → k < w.heap.size) (x : Ext w w') : ∀ k, nw R w w' k → k < w'.heap.size := fun k hk => hk.elim (fun h => Nat.lt_of_lt_of_le (hR k h) x.size) fun h => h.2
set_option maxRecDepth 20000 in
theorem Apply_r {R : Nat → Prop} (f : T) (cf : List Value) (A : Option Addr) (l : List T) (c : Nat) (w : World) (hf : VT w R cf f) (hl : Sl encT w R A l) (hR : ∀ k, R k → k < w.heap.size) (hc : lenOk l.length c) : Runs Tryz.prog 70 #[.agg cf.toArray, .slice A l.length c] w fun v w' => Ext w w' ∧ ∃ cs : List Value, v = .agg cs.toArray ∧ VT w' (nw R w w') cs (apT f l) := by
  have hf0 := hf
  obtain ⟨kf, nf, sf, lsf, tsf, laf, lcf, taf, tcf, ef, rfl, hkf, hnf, hsf, hllf, hltf, hLf, hTf⟩ := hf.inv
  refine Runs.of_vc (ρ := []) cx_ok [0, 1, 2, 4, 5, 9] [.a [.v (.int .u8 kf), .v (.int .i64 nf), .v (.string sf), .v (.slice laf lsf.length lcf), .v (.slice taf tsf.length tcf)], .v _] Tryz.func70 rfl rfl rfl (Holds.nil w) ?_
  intro g1 w1 e1 x1 z1 hh1
  intro g2 w2 e2 x2 z2 hh2
  refine vLoop_upd (σ := Nat × TC) [5, 6, 7, 8, 9, 10, 11, 12, 13, 14, 15, 16, 17] (fun s => [(5, .v (.int .i64 s.1))]) [0] (fun s => [(0, [.v (.int .u8 s.2.k), .v (.int .i64 s.2.n), .v (.string s.2.s), .v (.slice s.2.la s.2.ln s.2.lc), .v (.slice s.2.ta s.2.tn s.2.tc)])]) (fun s w' => Ext w w' ∧ w2.heap.size ≤ w'.heap.size ∧ s.1 ≤ l.length ∧ VT w' (fun k => R k ∨ (w2.heap.size ≤ k ∧ k < w'.heap.size)) s.2.cells (apT f (l.take s.1))) (fun s => l.length - s.1) (0, ⟨kf, nf, sf, laf, lsf.length, lcf, taf, tsf.length, tcf⟩) (fun _ => ⟨rfl, rfl⟩)
    ⟨(by repeat (first | exact trivial | refine And.intro rfl ?_)), (by repeat (first | exact trivial | refine And.intro rfl ?_)), (by repeat (first | exact trivial | refine And.intro rfl ?_)), (by repeat (first | exact trivial | refine And.intro rfl ?_)), x1.trans x2, Nat.le_refl _, Nat.zero_le _, (hf0.ext (x1.trans x2)).mono fun k hk => .inl hk⟩ ?_
  rintro ⟨i, q⟩ w3 hh3 ⟨x3, q3, hi, hq⟩
  simp only at hi hq
  refine Or.inl (And.intro (fun h => ?_) (fun h => ?_))
  · have hil : i < l.length := by have := of_decide_eq_true h; simp only at this; omega
    obtain ⟨a1, cs1, ha1, _, hrow, hv1⟩ := (hl.ext x3).at hil
    have hap := apT_succ f l i hil
    generalize l[i] = u at *
    have hv1 : VT w3 R cs1 u := hv1
    have hv10 := hv1
    obtain ⟨ku, nu, su, lsu, tsu, lau, lcu, tau, tcu, eu, rfl, hku, hnu, hsu, hllu, hltu, hLu, hTu⟩ := hv1.inv
    refine vDrw_mk [5, 6] (.one 0 (.one 1 (.one 2 (.one 3 (.one 4 (.one 5 (.one 6 .nil))))))) rfl fun w4 x4 hh4 => ?_
    refine Exists.intro (.v (.pointer (some (a1.add (i * 5))))) (And.intro rfl (And.intro (fun w' xx hh => OpT.indexAddr Tryz.underlying31 Tryz.sizeOf33 rfl rfl ha1 (by simp only [lenOk] at *; omega) ⟨rfl, rfl⟩) ?_))
    refine Exists.intro (.a [.v (.int .u8 ku), .v (.int .i64 nu), .v (.string su), .v (.slice lau lsu.length lcu), .v (.slice tau tsu.length tcu)]) (And.intro rfl (And.intro (fun w' xx hh => OpT.loadA Tryz.isAgg33 (by exact Tryz.sizeOf33) rfl (hrow.ext (x4.trans xx)) ⟨rfl, rfl⟩) ?_))
    have q4 := x4.size
    refine (App_r (R := fun k => R k ∨ (w2.heap.size ≤ k ∧ k < w3.heap.size)) _ u q.cells _ w4 (hq.ext x4) ((hv10.ext x4).mono fun k hk => .inl hk) (fun k hk => by rcases hk with h | h; have := hR k h; omega; omega)).mono ?_
    rintro _ w5 ⟨x5, cs5, rfl, hv5⟩
    have hh5 := hh4.ext x5
    have z5 := x5.size
    rw [← hap] at hv5
    have hv50 := hv5
    obtain ⟨kr, nr, sr, lsr, tsr, lar, lcr, tar, tcr, er, rfl, hkr, hnr, hsr, hllr, hltr, hLr, hTr⟩ := hv5.inv
    refine Lands.ret (s := .a [.v (.int .u8 kr), .v (.int .i64 nr), .v (.string sr), .v (.slice lar lsr.length lcr), .v (.slice tar tsr.length tcr)]) rfl rfl hh5 ?_
    intro w6 m6 z6 hh6
    replace m6 : Upd g1 w5 w6 := m6
    refine vsd (by simp only [inKind]; simp only [lenOk] at *; omega) ?_
    have hv6 := hv50.mod (S := fun k => k = g1) m6 fun k hk e => by
      have e : k = g1 := e
      rcases hk with (h | h) | h
      · have := hR k h; omega
      · omega
      · omega
    have hv7 := hv6.mono (R' := fun k => R k ∨ (w2.heap.size ≤ k ∧ k < w6.heap.size)) fun k hk => by
      rcases hk with (h | h) | h
      · exact .inl h
      · exact .inr (by omega)
      · exact .inr (by omega)
    exact Exists.intro ((i + 1, ⟨kr, nr, sr, lar, lsr.length, lcr, tar, tsr.length, tcr⟩)) ⟨by simp only; omega, esub_over (by repeat (first | exact trivial | refine And.intro rfl ?_)) (by repeat (first | exact trivial | refine And.intro rfl ?_)), hsub_over (by repeat (first | exact trivial | refine And.intro rfl ?_)) (by repeat (first | exact trivial | refine And.intro rfl ?_)), (x3.trans (x4.trans x5)).upd m6 (by omega), by omega, hil, hv7⟩
  · obtain rfl : i = l.length := by have := of_decide_eq_false h; simp only at this; omega
    rw [List.take_length] at hq
    intro w4 m4 z4 hh4
    replace m4 : Upd g2 w3 w4 := m4
    have hq4 := hq.mod (S := fun k => k = g2) m4 fun k hk e => by
      have e : k = g2 := e
      rcases hk with h | h
      · have := hR k h; omega
      · omega
    exact ⟨x3.upd m4 (by omega), q.cells, rfl, hq4.mono fun k hk => hk.imp id fun h => by omega⟩
set_option maxRecDepth 20000 in
theorem A_r {R : Nat → Prop} (f : T) (cf : List Value) (A : Option Addr) (l : List T) (c : Nat) (w : World) (hf : VT w R cf f) (hl : Sl encT w R A l) (hR : ∀ k, R k → k < w.heap.size) (hc : lenOk l.length c) : Runs Tryz.prog 38 #[.agg cf.toArray, .slice A l.length c] w fun v w' => Ext w w' ∧ ∃ cs : List Value, v = .agg cs.toArray ∧ VT w' (nw R w w') cs (apT f l) := by
  have hf0 := hf
  obtain ⟨kf, nf, sf, lsf, tsf, laf, lcf, taf, tcf, ef, rfl, hkf, hnf, hsf, hllf, hltf, hLf, hTf⟩ := hf.inv
  refine Runs.of_vc (ρ := []) cx_ok [0, 1, 2, 4] [.a [.v (.int .u8 kf), .v (.int .i64 nf), .v (.string sf), .v (.slice laf lsf.length lcf), .v (.slice taf tsf.length tcf)], .v _] Tryz.func38 rfl rfl rfl (Holds.nil w) ?_
  intro g1 w1 e1 x1 z1 hh1
  intro g2 w2 e2 x2 z2 hh2
  have y2 := x1.trans x2
  refine (Apply_r f _ A l c w2 (hf0.ext y2) (hl.ext y2) (fun k hk => by have := hR k hk; omega) hc).mono ?_
  rintro _ w3 ⟨x3, cs3, rfl, hv3⟩
  have hh3 := hh2.ext x3
  have z3 := x3.size
  have hv30 := hv3
  obtain ⟨kr, nr, sr, lsr, tsr, lar, lcr, tar, tcr, er, rfl, hkr, hnr, hsr, hllr, hltr, hLr, hTr⟩ := hv3.inv
  refine Lands.ret (s := .a [.v (.int .u8 kr), .v (.int .i64 nr), .v (.string sr), .v (.slice lar lsr.length lcr), .v (.slice tar tsr.length tcr)]) rfl rfl hh3 ?_
  intro w4 m4 z4 hh4
  replace m4 : Upd g2 w3 w4 := m4
  have hq4 := hv30.mod (S := fun k => k = g2) m4 fun k hk e => by
    have e : k = g2 := e
    rcases hk with h | h
    · have := hR k h; omega
    · omega
  exact ⟨(y2.trans x3).upd m4 (by omega), _, rfl, hq4.mono fun k hk => hk.imp id fun h => by omega⟩
end Go.Proofs.YtfljbnhhkdaobaaGreat

/-
  Regions in any order: what is made by each operation, told by descriptions.
-/
namespace Go.Proofs.YtfljbnhhkdaobaaGreat
open Go Go.RowKit Go.Proofs.Bw
set_option linter.unusedVariables false
set_option linter.unusedSimpArgs false
theorem vDrA {C : Cx} {S : Nat → Prop} {m n : Nat} {live : List Nat} {ops : List Oper} {ch : List Nat} {K : KC} {ord : OT} {pre : List Nat} {R : List RE} {e : SEnv} {ρ : List Nat} {H : Heap} {w : World} (ah : List Nat) (h : aheadGo [] ops = ah) (k : vDr C S m n live ops ah ch K ord pre R e ρ H w) : vDr C S m n live ops (aheadGo [] ops) ch K ord pre R e ρ H w := by subst h; exact k
inductive DV where
  | T (t : T)
  | L (l : L)
  | ST (l : List T)
  | SL (l : List L)
  | A
  | RU (r : Rl)
  | IN (i : Inf)
  | SR (l : List Rl)
  | SI (m : Nat) (l : List Inf)
  | X
  | Q (p : (Nat → Prop) → Value → World → Prop) (h : ∀ R R' v w w', (∀ k, R k → R' k) → Ext w w' → p R v w → p R' v w')
def rdS (B R : Nat → Prop) (w : World) : Nat → Prop := fun k => (B k ∨ R k) ∧ k < w.heap.size
def DV.rep (B : Nat → Prop) : DV → (Nat → Prop) → Value → World → Prop
  | .T t, R, v, w => ∃ cs : List Value, v = .agg cs.toArray ∧ VT w (rdS B R w) cs t
  | .L l, _, v, _ => v = .agg l.cells.toArray ∧ l.wf
  | .ST l, R, v, w => ∃ A c, v = .slice A l.length c ∧ lenOk l.length c ∧ Sl encT w (rdS B R w) A l
  | .SL l, R, v, w => ∃ A c, v = .slice A l.length c ∧ lenOk l.length c ∧ Sl encL w (rdS B R w) A l
  | .A, R, v, w => ∃ g, v = .pointer (some ⟨g, 0, none⟩) ∧ R g ∧ Box w g [.int .u8 0, .int .i64 0, .string noS, .slice none 0 0, .slice none 0 0]
  | .RU r, R, v, w => ∃ cs : List Value, v = .agg cs.toArray ∧ VR w (rdS B R w) cs r
  | .IN i, R, v, w => ∃ cs : List Value, v = .agg cs.toArray ∧ VI w (rdS B R w) cs i
  | .SR l, R, v, w => ∃ A c, v = .slice A l.length c ∧ lenOk l.length c ∧ Sl encR w (rdS B R w) A l
  | .SI m l, R, v, w => ∃ A lo, v = .slice A l.length l.length ∧ m ≤ lo ∧ OwnE encInf w lo 36 (fun k => (B k ∨ R k) ∧ k < lo) A l.length l
  | .X, _, _, _ => True
  | .Q p _, R, v, w => p R v w
section
variable {B R R' : Nat → Prop} {w w' : World} {v : Value}
theorem rdS.mono (hr : ∀ k, R k → R' k) (x : Ext w w') : ∀ k, rdS B R w k → rdS B R' w' k := fun k hk => ⟨hk.1.imp id (hr k), Nat.lt_of_lt_of_le hk.2 x.size⟩
theorem DV.mono (d : DV) (hr : ∀ k, R k → R' k) (x : Ext w w') (h : d.rep B R v w) : d.rep B R' v w' := by
  cases d with
  | T t => obtain ⟨cs, h1, h2⟩ := h; exact ⟨cs, h1, (h2.ext x).mono (rdS.mono hr x)⟩
  | L l => exact h
  | ST l => obtain ⟨A, c, h1, h2, h3⟩ := h; exact ⟨A, c, h1, h2, (h3.ext x).mono (rdS.mono hr x)⟩
  | SL l => obtain ⟨A, c, h1, h2, h3⟩ := h; exact ⟨A, c, h1, h2, (h3.ext x).mono (rdS.mono hr x)⟩
  | A => obtain ⟨g, h1, h2, h3⟩ := h; exact ⟨g, h1, hr g h2, h3.ext x⟩
  | RU r => obtain ⟨cs, h1, h2⟩ := h; exact ⟨cs, h1, encR.mono (VR.ext h2 x) (rdS.mono hr x)⟩
  | IN r => obtain ⟨cs, h1, h2⟩ := h; exact ⟨cs, h1, encInf.mono (VI.ext h2 x) (rdS.mono hr x)⟩
  | SR l => obtain ⟨A, c, h1, h2, h3⟩ := h; exact ⟨A, c, h1, h2, (h3.ext x).mono (rdS.mono hr x)⟩
  | SI m l => obtain ⟨A, lo, h1, h2, h3⟩ := h; exact ⟨A, lo, h1, h2, (h3.ext x).mono fun k hk => ⟨hk.1.imp id (hr k), hk.2⟩⟩
  | X => trivial
  | Q p hp => exact hp _ _ _ _ _ hr x h
end
def DVs (B : Nat → Prop) (ds : List DV) (i : Nat) : (Nat → Prop) → Value → World → Prop := (ds.getD i .X).rep B
theorem vFlow_mk {C : Cx} {n : Nat} {live : List Nat} {ops : List Oper} {K : KC} {e : SEnv} {ρ : List Nat} {H : Heap} {w : World} (z : Nat) (B : Nat → Prop) (ds : List DV) (h : flowB ops n z = true) (k : ∀ w', Ext w w' → w.heap.size ≤ w'.heap.size → Holds ρ H w' → flAll C n live ops K (DVs B ds) e ρ H w' z 0 ops) : vDrw C n live ops K e ρ H w :=
  .inr ⟨z, DVs B ds, h, fun i R R' v w w' hr x hp => DV.mono _ hr x hp, fun w' x hh => k w' x x.size hh⟩
theorem flCall {ρ : List Nat} {H : Heap} {w : World} {f : Nat} {args : Array Value} {q q' : Value → World → Prop} (h : Runs Tryz.prog f args w fun v w' => Ext w w' ∧ q v w') (hH : Holds ρ H w) (hk : ∀ v w', Ext w w' → q v w' → q' v w') : Runs Tryz.prog f args w (Lands ρ fun s ρ' _ w' => Ext w w' ∧ q' (conc ρ' s) w') :=
  h.mono fun v w' ⟨x, hq⟩ => Lands.stay (s := .v v) rfl (hH.ext x) ⟨x, hk v w' x hq⟩
section
variable {B R1 R2 : Nat → Prop} {w : World} {v1 v2 : Value}
theorem nw_rd {w' : World} (x : Ext w w') (hr : ∀ k, R1 k → R2 k) (hn : ∀ k, w.heap.size ≤ k → k < w'.heap.size → R2 k) : ∀ k, nw (rdS B R1 w) w w' k → rdS B R2 w' k := fun k hk => by
  have := x.size
  rcases hk with h | h
  · exact ⟨h.1.imp id (hr k), by have := h.2; omega⟩
  · exact ⟨.inr (hn k h.1 h.2), h.2⟩
theorem P_d {a b : T} (h1 : (DV.T a).rep B R1 v1 w) (h2 : (DV.T b).rep B R2 v2 w) : Runs Tryz.prog 113 #[v1, v2] w fun v w' => Ext w w' ∧ (DV.T (tPi a b)).rep B (fun k => R1 k ∨ (R2 k ∨ (w.heap.size ≤ k ∧ k < w'.heap.size))) v w' := by
  obtain ⟨ca, rfl, k1⟩ := h1
  obtain ⟨cb, rfl, k2⟩ := h2
  exact (P_r (R := rdS B (fun k => R1 k ∨ R2 k) w) a b ca cb w (k1.mono fun k hk => ⟨hk.1.imp id .inl, hk.2⟩) (k2.mono fun k hk => ⟨hk.1.imp id .inr, hk.2⟩) (fun k hk => hk.2)).mono fun v w' ⟨x, cs, h1, h2⟩ => ⟨x, cs, h1, h2.mono (nw_rd x (fun k h => h.elim .inl fun h => .inr (.inl h)) fun k h1 h2 => .inr (.inr ⟨h1, h2⟩))⟩
theorem L_d {a b : T} (h1 : (DV.T a).rep B R1 v1 w) (h2 : (DV.T b).rep B R2 v2 w) : Runs Tryz.prog 116 #[v1, v2] w fun v w' => Ext w w' ∧ (DV.T (tLm a b)).rep B (fun k => R1 k ∨ (R2 k ∨ (w.heap.size ≤ k ∧ k < w'.heap.size))) v w' := by
  obtain ⟨ca, rfl, k1⟩ := h1
  obtain ⟨cb, rfl, k2⟩ := h2
  exact (L_r (R := rdS B (fun k => R1 k ∨ R2 k) w) a b ca cb w (k1.mono fun k hk => ⟨hk.1.imp id .inl, hk.2⟩) (k2.mono fun k hk => ⟨hk.1.imp id .inr, hk.2⟩) (fun k hk => hk.2)).mono fun v w' ⟨x, cs, h1, h2⟩ => ⟨x, cs, h1, h2.mono (nw_rd x (fun k h => h.elim .inl fun h => .inr (.inl h)) fun k h1 h2 => .inr (.inr ⟨h1, h2⟩))⟩
theorem So_d {l : L} (h : (DV.L l).rep B R1 v1 w) : Runs Tryz.prog 114 #[v1] w fun v w' => Ext w w' ∧ (DV.T (tSo l)).rep B (fun k => R1 k ∨ (w.heap.size ≤ k ∧ k < w'.heap.size)) v w' := by
  obtain ⟨rfl, hw⟩ := h
  exact (So_r (fun _ => False) l hw w).mono fun v w' ⟨x, cs, h1, h2⟩ => ⟨x, cs, h1, h2.mono fun k hk => hk.elim (fun h => h.elim) fun h => ⟨.inr (.inr h), h.2⟩⟩
theorem U_d : Runs Tryz.prog 115 #[] w fun v w' => Ext w w' ∧ (DV.L levU).rep B (fun k => w.heap.size ≤ k ∧ k < w'.heap.size) v w' :=
  (U_runs w).mono fun v w' ⟨h, x⟩ => ⟨x, h, levU_wf⟩
theorem V_d (n : Int) (hn : i64ok n) : Runs Tryz.prog 67 #[.int .i64 n] w fun v w' => Ext w w' ∧ (DV.T (tV n)).rep B (fun k => w.heap.size ≤ k ∧ k < w'.heap.size) v w' :=
  (V_r (rdS B (fun k => False) w) n hn w).mono fun v w' ⟨x, cs, h1, h2⟩ => ⟨x, cs, h1, h2.mono (rdS.mono (fun _ h => h.elim) x)⟩
theorem Co0_d (s : ByteArray) (hs : s.size ≤ 9223372036854775807) : Runs Tryz.prog 35 #[.string s, .slice none 0 0] w fun v w' => Ext w w' ∧ (DV.T (tCo s [])).rep B (fun k => w.heap.size ≤ k ∧ k < w'.heap.size) v w' :=
  (Co0_r (rdS B (fun k => False) w) s hs w).mono fun v w' ⟨x, cs, h1, h2⟩ => ⟨x, cs, h1, h2.mono (rdS.mono (fun _ h => h.elim) x)⟩
theorem Co_d (s : ByteArray) (hs : s.size ≤ 9223372036854775807) {l : List L} (h : (DV.SL l).rep B R1 v1 w) : Runs Tryz.prog 35 #[.string s, v1] w fun v w' => Ext w w' ∧ (DV.T (tCo s l)).rep B (fun k => R1 k ∨ (w.heap.size ≤ k ∧ k < w'.heap.size)) v w' := by
  obtain ⟨A, c, rfl, hc, hl⟩ := h
  exact (Co_r s hs A l c hc w hl).mono fun v w' ⟨x, cs, h1, h2⟩ => ⟨x, cs, h1, h2.mono (rdS.mono (fun _ h => .inl h) x)⟩
theorem A_d {f : T} {l : List T} (h1 : (DV.T f).rep B R1 v1 w) (h2 : (DV.ST l).rep B R2 v2 w) : Runs Tryz.prog 38 #[v1, v2] w fun v w' => Ext w w' ∧ (DV.T (apT f l)).rep B (fun k => R1 k ∨ (R2 k ∨ (w.heap.size ≤ k ∧ k < w'.heap.size))) v w' := by
  obtain ⟨cf, rfl, k1⟩ := h1
  obtain ⟨A, c, rfl, hc, k2⟩ := h2
  exact (A_r (R := rdS B (fun k => R1 k ∨ R2 k) w) f cf A l c w (k1.mono fun k hk => ⟨hk.1.imp id .inl, hk.2⟩) (k2.mono fun k hk => ⟨hk.1.imp id .inr, hk.2⟩) (fun k hk => hk.2) hc).mono fun v w' ⟨x, cs, h1, h2⟩ => ⟨x, cs, h1, h2.mono (nw_rd x (fun k h => h.elim .inl fun h => .inr (.inl h)) fun k h1 h2 => .inr (.inr ⟨h1, h2⟩))⟩
theorem flLoad {lo : Nat} {P w' : World} {cs : List Value} {t : T} {R : Nat → Prop} (h : VX lo P cs t) (x : Ext P w') : (DV.T t).rep (fun k => lo ≤ k ∧ k < P.heap.size) R (.agg cs.toArray) w' :=
  ⟨cs, rfl, (VT.ext h x).mono fun k hk => ⟨.inl hk, Nat.lt_of_lt_of_le hk.2 x.size⟩⟩
theorem flCum_own {ops : List Oper} {Os : Nat → Nat → Prop} {A g : Nat} (h0 : (aheadGo [] ops).getD A 0 = 0) (h : flCum ops Os A g) : Os A g := by
  obtain ⟨q, hq, ho⟩ := h
  rcases hq with rfl | hq
  · exact ho
  · unfold ahB at hq; rw [h0] at hq; simp at hq
theorem flCum_no {ops : List Oper} {Os : Nat → Nat → Prop} {s A g : Nat} (hne : s ≠ A) (h : ahB (aheadGo [] ops) s A = false) (hd : ∀ i j, i ≠ j → ∀ k, Os i k → ¬ Os j k) (hg : Os A g) : ¬ flCum ops Os s g := by
  rintro ⟨q, hq, ho⟩
  by_cases hqA : q = A
  · subst hqA
    rcases hq with hq | hq
    · exact hne hq.symm
    · rw [h] at hq; cases hq
  · exact hd q A hqA g ho hg
theorem flStored {lo g : Nat} {B C : Nat → Prop} {w w' : World} {cs : List Value} {t : T} (h : VT w (rdS B C w) cs t) (m : Upd g w w') (no : ¬ C g) (nb : ¬ B g) (hB : ∀ k, B k → lo ≤ k) (hC : ∀ k, C k → lo ≤ k) : VX lo w' cs t :=
  (h.mod (S := fun k => k = g) m fun k hk e => by
    have e : k = g := e
    subst e
    exact hk.1.elim nb no).mono fun k hk => ⟨hk.1.elim (hB k) (hC k), Nat.lt_of_lt_of_le hk.2 m.size⟩
end
end Go.Proofs.YtfljbnhhkdaobaaGreat

/-
  The sample: the terms that stand for numbers and fields.
-/
namespace Go.Proofs.YtfljbnhhkdaobaaGreat
open Go Go.RowKit Go.Proofs.Bw
set_option linter.unusedVariables false
set_option linter.unusedSimpArgs false
def sN : ByteArray := ⟨#[78]⟩
def sN_zero : ByteArray := ⟨#[78, 46, 122, 101, 114, 111]⟩
def sN_succ : ByteArray := ⟨#[78, 46, 115, 117, 99, 99]⟩
def sPair : ByteArray := ⟨#[80, 97, 105, 114]⟩
def tN : T := tCo sN []
def tY : T := tSo (levN 0)
def tNum : Nat → T
  | 0 => tCo sN_zero []
  | n + 1 => apT (tCo sN_succ []) [tNum n]
set_option maxRecDepth 20000 in
theorem N_r (w : World) : Runs Tryz.prog 68 #[] w fun v w' => Ext w w' ∧ ∃ cs : List Value, v = .agg cs.toArray ∧ VT w' (fun _ => False) cs tN := by
  refine Runs.of_vc cx_ok [0] [] Tryz.func68 rfl rfl rfl (Holds.nil _) ?_
  intro g1 w1 e1 x1 z1 hh1
  refine (Co0_r (fun _ => False) sN (by decide) w1).mono ?_
  rintro _ w2 ⟨x2, cs2, rfl, hv2⟩
  have hh2 := hh1.ext x2
  have z2 := x2.size
  have hv20 := hv2
  obtain ⟨kr, nr, sr, lsr, tsr, lar, lcr, tar, tcr, er, rfl, hkr, hnr, hsr, hllr, hltr, hLr, hTr⟩ := hv2.inv
  refine Lands.ret (s := .a [.v (.int .u8 kr), .v (.int .i64 nr), .v (.string sr), .v (.slice lar lsr.length lcr), .v (.slice tar tsr.length tcr)]) rfl rfl hh2 ?_
  intro w3 m3 z3 hh3
  replace m3 : Upd g1 w2 w3 := m3
  exact ⟨(x1.trans x2).upd m3 (by omega), _, rfl, hv20.mod (S := fun k => k = g1) m3 fun k hk e => hk⟩
set_option maxRecDepth 20000 in
theorem Type0_r (w : World) : Runs Tryz.prog 117 #[] w fun v w' => Ext w w' ∧ ∃ cs : List Value, v = .agg cs.toArray ∧ VT w' (fun k => w.heap.size ≤ k ∧ k < w'.heap.size) cs tY := by
  refine Runs.of_vc cx_ok [0] [] Tryz.func117 rfl rfl rfl (Holds.nil _) ?_
  intro g1 w1 e1 x1 z1 hh1
  refine (Lev_runs 0 w1).mono ?_
  rintro _ w2 ⟨rfl, x2⟩
  have hh2 := hh1.ext x2
  have z2 := x2.size
  refine Lands.ret (s := .a [.v (.int .i64 (levN 0).c), .v (.int .i64 (levN 0).p0), .v (.int .i64 (levN 0).p1), .v (.int .i64 (levN 0).p2), .v (.int .i64 (levN 0).p3)]) rfl rfl hh2 ?_
  refine (So_r (fun _ => False) (levN 0) (levN_wf (by simp [i64ok])) w2).mono ?_
  rintro _ w3 ⟨x3, cs3, rfl, hv3⟩
  have hh3 := hh2.ext x3
  have z3 := x3.size
  have hv30 := hv3
  obtain ⟨kr, nr, sr, lsr, tsr, lar, lcr, tar, tcr, er, rfl, hkr, hnr, hsr, hllr, hltr, hLr, hTr⟩ := hv3.inv
  refine Lands.ret (s := .a [.v (.int .u8 kr), .v (.int .i64 nr), .v (.string sr), .v (.slice lar lsr.length lcr), .v (.slice tar tsr.length tcr)]) rfl rfl hh3 ?_
  intro w4 m4 z4 hh4
  replace m4 : Upd g1 w3 w4 := m4
  have hq := hv30.mod (S := fun k => k = g1) m4 fun k hk e => by
    have e : k = g1 := e
    rcases hk with h | h
    · exact h
    · omega
  exact ⟨(x1.trans (x2.trans x3)).upd m4 (by omega), _, rfl, hq.mono fun k hk => hk.elim (fun h => h.elim) fun h => by omega⟩
set_option maxRecDepth 20000 in
theorem field_r (n : Int) (hn : i64ok n) (w : World) : Runs Tryz.prog 118 #[.int .i64 n] w fun v w' => Ext w w' ∧ ∃ cs : List Value, v = .agg cs.toArray ∧ VT w' (fun k => w.heap.size ≤ k ∧ k < w'.heap.size) cs (tPr sPair n (tV 0)) := by
  refine Runs.of_vc (ρ := []) cx_ok [0, 2] [.v _] Tryz.func118 rfl rfl rfl (Holds.nil w) ?_
  intro g1 w1 e1 x1 z1 hh1
  refine (V_r (fun _ => False) 0 (by simp [i64ok]) w1).mono ?_
  rintro _ w2 ⟨x2, cs2, rfl, hv2⟩
  have hh2 := hh1.ext x2
  have z2 := x2.size
  have hv20 := hv2
  obtain ⟨kr, nr, sr, lsr, tsr, lar, lcr, tar, tcr, er, rfl, hkr, hnr, hsr, hllr, hltr, hLr, hTr⟩ := hv2.inv
  refine Lands.ret (s := .a [.v (.int .u8 kr), .v (.int .i64 nr), .v (.string sr), .v (.slice lar lsr.length lcr), .v (.slice tar tsr.length tcr)]) rfl rfl hh2 ?_
  refine OpT.buildE (E := encT) (R := (fun _ => False)) (vs := [_]) (l := [tV 0]) Tryz.zeroValue33 (.cons rfl (.nil)) Tryz.underlying31 Tryz.sizeOf33 rfl rfl (Reps.cons hv20 (Reps.nil _ _ _)) rfl rfl hh2 fun w3 g3 e3 x3 z3 o3 hh3 => ?_
  intro w4 m4 z4 hh4
  replace m4 : Upd g1 w3 w4 := m4
  have y4 := (x1.trans (x2.trans x3)).upd m4 (by omega)
  have o4 := o3.upd m4 (by omega) (fun h => h)
  exact ⟨y4, _, rfl, VT.intro (by omega) hn (by decide) (by simp [lenOk]) (by simp [lenOk]) (SlL.nil _ _ _) (T_sl (o4.sl.mono fun k hk => ⟨by rcases hk.1 with h | h; exact h.elim; omega, hk.2⟩))⟩
set_option maxRecDepth 20000 in
theorem Num_r (n : Nat) (hn : n ≤ 1000000) (w : World) : Runs Tryz.prog 37 #[.int .i64 n] w fun v w' => Ext w w' ∧ ∃ cs : List Value, v = .agg cs.toArray ∧ VT w' (fun k => w.heap.size ≤ k ∧ k < w'.heap.size) cs (tNum n) := by
  refine Runs.of_vc (ρ := []) cx_ok [0, 2, 3, 4, 8] [.v _] Tryz.func37 rfl rfl rfl (Holds.nil w) ?_
  intro g1 w1 e1 x1 z1 hh1
  refine (Co0_r (fun _ => False) sN_zero (by decide) w1).mono ?_
  rintro _ w2 ⟨x2, cs2, rfl, hv2⟩
  have hh2 := hh1.ext x2
  have z2 := x2.size
  have hv20 := hv2
  obtain ⟨kz, nz, sz, lsz, tsz, laz, lcz, taz, tcz, ez, rfl, hkz, hnz, hsz, hllz, hltz, hLz, hTz⟩ := hv2.inv
  refine Lands.ret (s := .a [.v (.int .u8 kz), .v (.int .i64 nz), .v (.string sz), .v (.slice laz lsz.length lcz), .v (.slice taz tsz.length tcz)]) rfl rfl hh2 ?_
  intro g3 w3 e3 x3 z3 hh3; intro w4 m4 z4 hh4; replace m4 : Upd g3 w3 w4 := m4; have x4 : Ext w2 w4 := x3.upd m4 (by omega); have q4 := x4.size
  have y4 : Ext w w4 := x1.trans (x2.trans x4)
  refine vLoop_upd (σ := Nat × TC) [4, 6, 7, 8, 9, 10, 11, 12, 13, 14] (fun s => [(4, .v (.int .i64 s.1))]) [1] (fun s => [(1, [.v (.int .u8 s.2.k), .v (.int .i64 s.2.n), .v (.string s.2.s), .v (.slice s.2.la s.2.ln s.2.lc), .v (.slice s.2.ta s.2.tn s.2.tc)])]) (fun s w' => Ext w w' ∧ w4.heap.size ≤ w'.heap.size ∧ s.1 ≤ n ∧ VT w' (fun k => w4.heap.size ≤ k ∧ k < w'.heap.size) s.2.cells (tNum s.1)) (fun s => n - s.1) (0, ⟨kz, nz, sz, laz, lsz.length, lcz, taz, tsz.length, tcz⟩) (fun _ => ⟨rfl, rfl⟩)
    ⟨(by repeat (first | exact trivial | refine And.intro rfl ?_)), (by repeat (first | exact trivial | refine And.intro rfl ?_)), (by repeat (first | exact trivial | refine And.intro rfl ?_)), (by repeat (first | exact trivial | refine And.intro rfl ?_)), y4, Nat.le_refl _, Nat.zero_le _, (VT.ext hv20 x4).mono fun k hk => hk.elim⟩ ?_
  rintro ⟨i, q⟩ w5 hh5 ⟨x5, q5, hi, hq⟩
  simp only at hi hq
  refine Or.inl (And.intro (fun h => ?_) (fun h => ?_))
  · have hil : i < n := by have := of_decide_eq_true h; simp only at this; omega
    have hx5 : VX w4.heap.size w5 q.cells (tNum i) := hq
    refine vFlow_mk 4 (fun k => w4.heap.size ≤ k ∧ k < w5.heap.size) [.T (tCo sN_succ []), .T (tNum i), .ST [tNum i], .T (tNum (i + 1))] rfl fun w6 x6 z6 hh6 => ?_
    refine And.intro (fun vs Rs w2 x hh hR_ => flCall (Co0_d sN_succ (by decide)) hh fun v w3 _ q => q) ?_
    refine And.intro (fun vs Rs w2 x hh hR_ => ⟨Ext.refl _, flLoad hx5 (x6.trans x)⟩) ?_
    refine And.intro (fun vs Rs w2 x hh hR_ h1 => by
      obtain ⟨c1, e1, k1_⟩ := h1
      refine OpT.buildE (E := encT) (R := rdS (fun k => w4.heap.size ≤ k ∧ k < w5.heap.size) (fun k => Rs 1 k) w2) (vs := [vs 1]) (css := [c1]) (l := [tNum i]) Tryz.zeroValue33 (.cons rfl (.nil)) Tryz.underlying31 Tryz.sizeOf33 rfl (by simp [e1, Value.cells]) (Reps.cons k1_ (Reps.nil _ _ _)) rfl rfl hh fun w3 g e x3 z3 o3 hh3 => ?_
      exact ⟨x3, _, _, rfl, by simp [lenOk], o3.sl.mono fun k hk => ⟨hk.1.elim (fun h => h.1.imp id fun h => .inl h) (fun h => .inr (.inr ⟨h, hk.2⟩)), hk.2⟩⟩) ?_
    refine And.intro (fun vs Rs w2 x hh hR_ h1 h2 => flCall (A_d h1 h2) hh fun v w3 _ q => q) ?_
    intro vs Os w7 x7 hh7 hp hO hd
    have q7 := x7.size
    have hs7 : (DV.T (tNum (i + 1))).rep _ _ _ _ := hp 3 (by omega)
    obtain ⟨cs7, es7, h7⟩ := hs7
    have h7x := h7
    obtain ⟨kr, nr, sr, lsr, tsr, lar, lcr, tar, tcr, er, rfl, hkr, hnr, hsr, hllr, hltr, hLr, hTr⟩ := h7.inv
    refine Exists.intro [] (Exists.intro _ (Exists.intro [.v (vs 0), .v (vs 1), .v (vs 2), .a [.v (.int .u8 kr), .v (.int .i64 nr), .v (.string sr), .v (.slice lar lsr.length lcr), .v (.slice tar tsr.length tcr)]] ⟨hh7, rfl, by rw [show (List.range 4).map vs = [vs 0, vs 1, vs 2, vs 3] from rfl, es7]; rfl, ?_⟩))
    intro w8 m8 z8 hh8
    replace m8 : Upd g3 w7 w8 := m8
    refine vsd (by simp only [inKind]; omega) ?_
    have hv8 := (h7x.mod (S := fun k => k = g3) m8 fun k hk e => by
      have e : k = g3 := e
      subst e
      rcases hk.1 with h | ⟨j, _, h⟩
      · omega
      · have := hO _ _ h; omega).mono (R' := fun k => w4.heap.size ≤ k ∧ k < w8.heap.size) fun k hk => by
      have := m8.size
      rcases hk.1 with h | ⟨j, _, h⟩
      · have := hk.2; omega
      · have := hO _ _ h; omega
    exact Exists.intro ((i + 1, ⟨kr, nr, sr, lar, lsr.length, lcr, tar, tsr.length, tcr⟩)) ⟨by simp only; omega, esub_over (by repeat (first | exact trivial | refine And.intro rfl ?_)) (by repeat (first | exact trivial | refine And.intro rfl ?_)), hsub_over (by repeat (first | exact trivial | refine And.intro rfl ?_)) (by repeat (first | exact trivial | refine And.intro rfl ?_)), (x5.trans (x6.trans x7)).upd m8 (by omega), by omega, hil, hv8⟩
  · obtain rfl : i = n := by have := of_decide_eq_false h; simp only at this; omega
    intro w6 m6 z6 hh6
    replace m6 : Upd g1 w5 w6 := m6
    have hq6 := hq.mod (S := fun k => k = g1) m6 fun k hk e => by
      have e : k = g1 := e
      omega
    exact ⟨x5.upd m6 (by omega), q.cells, rfl, hq6.mono fun k hk => by omega⟩
section
variable {B : Nat → Prop} {w : World}
theorem N_d : Runs Tryz.prog 68 #[] w fun v w' => Ext w w' ∧ (DV.T tN).rep B (fun k => w.heap.size ≤ k ∧ k < w'.heap.size) v w' :=
  (N_r w).mono fun v w' ⟨x, cs, h1, h2⟩ => ⟨x, cs, h1, h2.mono fun k h => h.elim⟩
theorem Type0_d : Runs Tryz.prog 117 #[] w fun v w' => Ext w w' ∧ (DV.T tY).rep B (fun k => w.heap.size ≤ k ∧ k < w'.heap.size) v w' :=
  (Type0_r w).mono fun v w' ⟨x, cs, h1, h2⟩ => ⟨x, cs, h1, h2.mono fun k h => ⟨.inr h, h.2⟩⟩
theorem Num_d (n : Nat) (hn : n ≤ 1000000) : Runs Tryz.prog 37 #[.int .i64 n] w fun v w' => Ext w w' ∧ (DV.T (tNum n)).rep B (fun k => w.heap.size ≤ k ∧ k < w'.heap.size) v w' :=
  (Num_r n hn w).mono fun v w' ⟨x, cs, h1, h2⟩ => ⟨x, cs, h1, h2.mono fun k h => ⟨.inr h, h.2⟩⟩
theorem field_d (n : Int) (hn : i64ok n) : Runs Tryz.prog 118 #[.int .i64 n] w fun v w' => Ext w w' ∧ (DV.T (tPr sPair n (tV 0))).rep B (fun k => w.heap.size ≤ k ∧ k < w'.heap.size) v w' :=
  (field_r n hn w).mono fun v w' ⟨x, cs, h1, h2⟩ => ⟨x, cs, h1, h2.mono fun k h => ⟨.inr h, h.2⟩⟩
end
end Go.Proofs.YtfljbnhhkdaobaaGreat

/-
  The sample: the makers again, in a region that keeps its order.
-/
namespace Go.Proofs.YtfljbnhhkdaobaaGreat
open Go Go.RowKit Go.Proofs.Bw
set_option linter.unusedVariables false
set_option linter.unusedSectionVars false
theorem fl_at {vs : Nat → Value} {i : Nat} {X : Value} (e : vs i = X) : ∃ vs' : Nat → Value, vs = fun j => bif Nat.beq j i then X else vs' j := ⟨vs, funext fun j => by
  cases hb : Nat.beq j i with
  | false => rfl
  | true => rw [Nat.eq_of_beq_eq_true hb]; exact e⟩
theorem fl_at2 {vs : Nat → Value} {i j : Nat} {X Y : Value} (e : vs i = X) (e' : vs j = Y) : ∃ vs' : Nat → Value, vs = fun k => bif Nat.beq k i then X else bif Nat.beq k j then Y else vs' k := by
  obtain ⟨vs', h⟩ := fl_at e'
  exact ⟨vs', funext fun k => by
    cases hb : Nat.beq k i with
    | false => rw [h]; rfl
    | true => rw [Nat.eq_of_beq_eq_true hb]; exact e⟩
section
variable {lo : Nat} (P : World) (h : lo ≤ P.heap.size)
include h
theorem N_runs : Runs Tryz.prog 68 #[] P fun v w' => Ext P w' ∧ ∃ cs : List Value, v = .agg cs.toArray ∧ VX lo w' cs tN :=
  (N_r P).mono fun v w' ⟨x, cs, h1, h2⟩ => ⟨x, cs, h1, VT.vx h2 fun k h => h.elim⟩
theorem V_runs8 (n : Int) (hn : i64ok n) : Runs Tryz.prog 67 #[.int .i64 n] P fun v w' => Ext P w' ∧ ∃ cs : List Value, v = .agg cs.toArray ∧ VX lo w' cs (tV n) :=
  (V_r (fun _ => False) n hn P).mono fun v w' ⟨x, cs, h1, h2⟩ => ⟨x, cs, h1, VT.vx h2 fun k h => h.elim⟩
theorem Num_runs (n : Nat) (hn : n ≤ 1000000) : Runs Tryz.prog 37 #[.int .i64 n] P fun v w' => Ext P w' ∧ ∃ cs : List Value, v = .agg cs.toArray ∧ VX lo w' cs (tNum n) :=
  (Num_r n hn P).mono fun v w' ⟨x, cs, h1, h2⟩ => ⟨x, cs, h1, VT.vx h2 fun k hk => by omega⟩
theorem So_runs (l : L) (hl : l.wf) : Runs Tryz.prog 114 #[.agg l.cells.toArray] P fun v w' => Ext P w' ∧ ∃ cs : List Value, v = .agg cs.toArray ∧ VX lo w' cs (tSo l) :=
  (So_r (fun _ => False) l hl P).mono fun v w' ⟨x, cs, h1, h2⟩ => ⟨x, cs, h1, VT.vx h2 fun k hk => hk.elim (fun h => h.elim) fun hk => by omega⟩
theorem Co0_runs (s : ByteArray) (hs : s.size ≤ 9223372036854775807) : Runs Tryz.prog 35 #[.string s, .slice none 0 0] P fun v w' => Ext P w' ∧ ∃ cs : List Value, v = .agg cs.toArray ∧ VX lo w' cs (tCo s []) :=
  (Co0_r (fun _ => False) s hs P).mono fun v w' ⟨x, cs, h1, h2⟩ => ⟨x, cs, h1, VT.vx h2 fun k h => h.elim⟩
theorem Co_runs {R : Nat → Prop} (s : ByteArray) (hs : s.size ≤ 9223372036854775807) (A : Option Addr) (ls : List L) (c : Nat) (hlen : lenOk ls.length c) (hR : ∀ k, R k → lo ≤ k) (hl : Sl encL P R A ls) : Runs Tryz.prog 35 #[.string s, .slice A ls.length c] P fun v w' => Ext P w' ∧ ∃ cs : List Value, v = .agg cs.toArray ∧ VX lo w' cs (tCo s ls) :=
  (Co_r (R := R) s hs A ls c hlen P hl).mono fun v w' ⟨x, cs, h1, h2⟩ => ⟨x, cs, h1, VT.vx h2 hR⟩
theorem L_runs8 (a b : T) (ca cb : List Value) (ha : VX lo P ca a) (hb : VX lo P cb b) : Runs Tryz.prog 116 #[.agg ca.toArray, .agg cb.toArray] P fun v w' => Ext P w' ∧ ∃ cs : List Value, v = .agg cs.toArray ∧ VX lo w' cs (tLm a b) :=
  (L_r a b ca cb P ha hb fun k h => h.2).mono fun v w' ⟨x, cs, h1, h2⟩ => ⟨x, cs, h1, VT.vx h2 fun k hk => hk.elim (fun h => h.1) fun hk => by omega⟩
theorem P_runs8 (a b : T) (ca cb : List Value) (ha : VX lo P ca a) (hb : VX lo P cb b) : Runs Tryz.prog 113 #[.agg ca.toArray, .agg cb.toArray] P fun v w' => Ext P w' ∧ ∃ cs : List Value, v = .agg cs.toArray ∧ VX lo w' cs (tPi a b) :=
  (P_r a b ca cb P ha hb fun k h => h.2).mono fun v w' ⟨x, cs, h1, h2⟩ => ⟨x, cs, h1, VT.vx h2 fun k hk => hk.elim (fun h => h.1) fun hk => by omega⟩
theorem A_runs {R : Nat → Prop} (f : T) (cf : List Value) (A : Option Addr) (l : List T) (c : Nat) (hf : VX lo P cf f) (hR : ∀ k, R k → lo ≤ k) (hl : Sl encT P R A l) (hc : lenOk l.length c) : Runs Tryz.prog 38 #[.agg cf.toArray, .slice A l.length c] P fun v w' => Ext P w' ∧ ∃ cs : List Value, v = .agg cs.toArray ∧ VX lo w' cs (apT f l) :=
  (A_r (R := fun k => lo ≤ k ∧ k < P.heap.size) f cf A l c P hf (hl.small.mono fun k hk => ⟨hR k hk.1, hk.2⟩) (fun k h => h.2) hc).mono fun v w' ⟨x, cs, h1, h2⟩ => ⟨x, cs, h1, VT.vx h2 fun k hk => hk.elim (fun h => h.1) fun hk => by omega⟩
end
theorem OpT.sliceE {α : Type} {E : Enc α} {P : Program} {e : Env} {w : World} {K : Value → World → Prop} {d : Option Tmp} {t : TypeId} {pos : String} {af : Array Edge} {g : Option (Nat × Bool)} {R : Nat → Prop} {A : Option Addr} {l : List α} {x : Operand} {lo' hi : Option Operand} {st el : TypeId} {n m c : Nat} {i j : Int} (hs : P.underlying st = some (.slice el)) (hz : SizeIs P el E.sz) (hx : evalO e x = some (.slice A n c)) (hl : loOf e lo' = some i) (hh : hiOf e n hi = some j)
    (hR : Sl E w R A l) (hc : l.length ≤ c) (hb : 0 ≤ i ∧ i ≤ j ∧ j ≤ c) (hm : j.toNat - i.toNat = m) (h : ∀ A', Sl E w R A' (l.drop i.toNat) → K (.slice A' m (c - i.toNat)) w) : OpT P e w ⟨d, .slice st x lo' hi none, t, pos, af, g⟩ K := by
  subst hm
  exact OpT.slice hs hz hx hl hh hb (h _ (hR.cut hc _))
end Go.Proofs.YtfljbnhhkdaobaaGreat

/-
  The sample: its infos.
-/
namespace Go.Proofs.YtfljbnhhkdaobaaGreat
open Go Go.RowKit Go.Proofs.Bw
set_option linter.unusedVariables false
set_option linter.unusedSimpArgs false
def sList : ByteArray := ⟨#[76, 105, 115, 116]⟩
def sList__cons : ByteArray := ⟨#[76, 105, 115, 116, 46, 99, 111, 110, 115]⟩
def sList__nil : ByteArray := ⟨#[76, 105, 115, 116, 46, 110, 105, 108]⟩
def sList__rec : ByteArray := ⟨#[76, 105, 115, 116, 46, 114, 101, 99]⟩
def sN__rec : ByteArray := ⟨#[78, 46, 114, 101, 99]⟩
def sN__succ : ByteArray := ⟨#[78, 46, 115, 117, 99, 99]⟩
def sN__zero : ByteArray := ⟨#[78, 46, 122, 101, 114, 111]⟩
def sPair__mk : ByteArray := ⟨#[80, 97, 105, 114, 46, 109, 107]⟩
def sPair__rec : ByteArray := ⟨#[80, 97, 105, 114, 46, 114, 101, 99]⟩
def sa : ByteArray := ⟨#[97]⟩
def sadd : ByteArray := ⟨#[97, 100, 100]⟩
def sdouble : ByteArray := ⟨#[100, 111, 117, 98, 108, 101]⟩
def sf : ByteArray := ⟨#[102]⟩
def sid : ByteArray := ⟨#[105, 100]⟩
def sone : ByteArray := ⟨#[111, 110, 101]⟩
def sp : ByteArray := ⟨#[112]⟩
def sswap : ByteArray := ⟨#[115, 119, 97, 112]⟩
def sthm : ByteArray := ⟨#[116, 104, 109]⟩
def num_1 : T := (tPi tN (tSo levU))
def num_2 : T := (apT (tV 0) [(tCo sN__zero [])])
def num_3 : T := (tPi tN (tPi (apT (tV 2) [(tV 0)]) (apT (tV 3) [(apT (tCo sN__succ []) [(tV 1)])])))
def num_4 : T := (tPi num_1 (tPi num_2 (tPi num_3 (tPi tN (apT (tV 3) [(tV 0)])))))
def num_5 : T := (tLm num_1 (tLm num_2 (tLm num_3 (tV 1))))
def num_6 : T := (tLm num_1 (tLm num_2 (tLm num_3 (tLm tN (apT (tV 1) [(tV 0), (apT (tCo sN__rec [levU]) [(tV 3), (tV 2), (tV 1), (tV 0)])])))))
def numI0 : Inf := ⟨4, sN, 0, tY, tZ, 0, sN, sN, 0, 0, 0, 0, 0, 0, [], 2, false⟩
theorem numI0_ok : numI0.ok := by unfold numI0 Inf.ok; simp only [i64ok]; decide
def numI1 : Inf := ⟨5, sN__zero, 0, tN, tZ, 0, sN, sN, 0, 0, 0, 0, 0, 0, [], 0, false⟩
theorem numI1_ok : numI1.ok := by unfold numI1 Inf.ok; simp only [i64ok]; decide
def numI2 : Inf := ⟨5, sN__succ, 0, (tPi tN tN), tZ, 0, sN, sN, 0, 0, 1, 1, 0, 0, [], 0, false⟩
theorem numI2_ok : numI2.ok := by unfold numI2 Inf.ok; simp only [i64ok]; decide
def numI3 : Inf := ⟨6, sN__rec, 1, num_4, tZ, 0, sN, sN, 0, 0, 0, 0, 1, 2, [(⟨sN__zero, 0, num_5⟩ : Rl), (⟨sN__succ, 1, num_6⟩ : Rl)], 0, false⟩
theorem numI3_ok : numI3.ok := by unfold numI3 Inf.ok; simp only [i64ok]; decide
def numL : List Inf := [numI0, numI1, numI2, numI3]
def pai_1 : T := (tCo sPair [])
def pai_2 : T := (tPi tY (tPi tY (tPi (tV 1) (tPi (tV 1) (apT pai_1 [(tV 3), (tV 2)])))))
def pai_3 : T := (tPi (apT pai_1 [(tV 1), (tV 0)]) (tSo levU))
def pai_4 : T := (tPi (tV 2) (tPi (tV 2) (apT (tV 2) [(apT (tCo sPair__mk []) [(tV 4), (tV 3), (tV 1), (tV 0)])])))
def pai_5 : T := (tPi tY (tPi tY (tPi pai_3 (tPi pai_4 (tPi (apT pai_1 [(tV 3), (tV 2)]) (apT (tV 2) [(tV 0)]))))))
def pai_6 : T := (tLm tY (tLm tY (tLm pai_3 (tLm pai_4 (tLm (apT pai_1 [(tV 3), (tV 2)]) (apT (tV 1) [(tPr sPair 0 (tV 0)), (tPr sPair 1 (tV 0))]))))))
def paiI0 : Inf := ⟨4, sPair, 0, (tPi tY (tPi tY tY)), tZ, 0, sPair, sPair, 2, 0, 0, 0, 0, 0, [], 1, true⟩
theorem paiI0_ok : paiI0.ok := by unfold paiI0 Inf.ok; simp only [i64ok]; decide
def paiI1 : Inf := ⟨5, sPair__mk, 0, pai_2, tZ, 0, sPair, sPair, 2, 0, 0, 2, 0, 0, [], 0, false⟩
theorem paiI1_ok : paiI1.ok := by unfold paiI1 Inf.ok; simp only [i64ok]; decide
def paiI2 : Inf := ⟨2, sPair__rec, 1, pai_5, pai_6, 0, sPair, sPair, 2, 0, 0, 0, 1, 1, [], 0, false⟩
theorem paiI2_ok : paiI2.ok := by unfold paiI2 Inf.ok; simp only [i64ok]; decide
def paiL : List Inf := [paiI0, paiI1, paiI2]
def lis_1 : T := (tCo sList [])
def lis_2 : T := (tPi tY (apT lis_1 [(tV 0)]))
def lis_3 : T := (tPi tY (tPi (tV 0) (tPi (apT lis_1 [(tV 1)]) (apT lis_1 [(tV 2)]))))
def lis_4 : T := (tPi (apT lis_1 [(tV 0)]) (tSo levU))
def lis_5 : T := (apT (tV 0) [(apT (tCo sList__nil []) [(tV 1)])])
def lis_6 : T := (tPi (tV 2) (tPi (apT lis_1 [(tV 3)]) (tPi (apT (tV 3) [(tV 0)]) (apT (tV 4) [(apT (tCo sList__cons []) [(tV 5), (tV 2), (tV 1)])]))))
def lis_7 : T := (tPi tY (tPi lis_4 (tPi lis_5 (tPi lis_6 (tPi (apT lis_1 [(tV 3)]) (apT (tV 3) [(tV 0)]))))))
def lis_8 : T := (tLm tY (tLm lis_4 (tLm lis_5 (tLm lis_6 (tV 1)))))
def lis_9 : T := (tLm tY (tLm lis_4 (tLm lis_5 (tLm lis_6 (tLm (tV 3) (tLm (apT lis_1 [(tV 4)]) (apT (tV 2) [(tV 1), (tV 0), (apT (tCo sList__rec [levU]) [(tV 5), (tV 4), (tV 3), (tV 2), (tV 0)])])))))))
def lisI0 : Inf := ⟨4, sList, 0, (tPi tY tY), tZ, 0, sList, sList, 1, 0, 0, 0, 0, 0, [], 2, false⟩
theorem lisI0_ok : lisI0.ok := by unfold lisI0 Inf.ok; simp only [i64ok]; decide
def lisI1 : Inf := ⟨5, sList__nil, 0, lis_2, tZ, 0, sList, sList, 1, 0, 0, 0, 0, 0, [], 0, false⟩
theorem lisI1_ok : lisI1.ok := by unfold lisI1 Inf.ok; simp only [i64ok]; decide
def lisI2 : Inf := ⟨5, sList__cons, 0, lis_3, tZ, 0, sList, sList, 1, 0, 1, 2, 0, 0, [], 0, false⟩
theorem lisI2_ok : lisI2.ok := by unfold lisI2 Inf.ok; simp only [i64ok]; decide
def lisI3 : Inf := ⟨6, sList__rec, 1, lis_7, tZ, 0, sList, sList, 1, 0, 0, 0, 1, 2, [(⟨sList__nil, 0, lis_8⟩ : Rl), (⟨sList__cons, 2, lis_9⟩ : Rl)], 0, false⟩
theorem lisI3_ok : lisI3.ok := by unfold lisI3 Inf.ok; simp only [i64ok]; decide
def lisL : List Inf := [lisI0, lisI1, lisI2, lisI3]
def mad_1 : T := (tLm tN (tLm tN (apT (tCo sN__rec [(levN 0)]) [(tLm tN tN), (tV 1), (tLm tN (tLm tN (apT (tCo sN__succ []) [(tV 0)]))), (tV 0)])))
def mad_2 : T := (tPi tN (tPi tN tN))
def mad_3 : T := (tCo sPair [])
def mad_4 : T := (tLm tY (tLm tY (tLm (apT mad_3 [(tV 1), (tV 0)]) (apT (tCo sPair__mk []) [(tV 1), (tV 2), (tPr sPair 1 (tV 0)), (tPr sPair 0 (tV 0))]))))
def madI0 : Inf := ⟨1, sa, 0, tN, tZ, 0, noS, noS, 0, 0, 0, 0, 0, 0, [], 0, false⟩
theorem madI0_ok : madI0.ok := by unfold madI0 Inf.ok; simp only [i64ok]; decide
def madI1 : Inf := ⟨1, sf, 0, (tPi tN tN), tZ, 0, noS, noS, 0, 0, 0, 0, 0, 0, [], 0, false⟩
theorem madI1_ok : madI1.ok := by unfold madI1 Inf.ok; simp only [i64ok]; decide
def madI2 : Inf := ⟨1, sp, 0, (apT mad_3 [tN, tN]), tZ, 0, noS, noS, 0, 0, 0, 0, 0, 0, [], 0, false⟩
theorem madI2_ok : madI2.ok := by unfold madI2 Inf.ok; simp only [i64ok]; decide
def madI3 : Inf := ⟨2, sadd, 0, mad_2, mad_1, 0, noS, noS, 0, 0, 0, 0, 0, 0, [], 0, false⟩
theorem madI3_ok : madI3.ok := by unfold madI3 Inf.ok; simp only [i64ok]; decide
def madI4 : Inf := ⟨2, sone, 0, tN, (tNum 1), 0, noS, noS, 0, 0, 0, 0, 0, 0, [], 0, false⟩
theorem madI4_ok : madI4.ok := by unfold madI4 Inf.ok; simp only [i64ok]; decide
def madI5 : Inf := ⟨2, sdouble, 0, (tPi tN tN), (tLm tN (apT (tCo sadd []) [(tV 0), (tV 0)])), 0, noS, noS, 0, 0, 0, 0, 0, 0, [], 0, false⟩
theorem madI5_ok : madI5.ok := by unfold madI5 Inf.ok; simp only [i64ok]; decide
def madI6 : Inf := ⟨2, sid, 1, (tPi (tSo levU) (tPi (tV 0) (tV 1))), (tLm (tSo levU) (tLm (tV 0) (tV 0))), 0, noS, noS, 0, 0, 0, 0, 0, 0, [], 0, false⟩
theorem madI6_ok : madI6.ok := by unfold madI6 Inf.ok; simp only [i64ok]; decide
def madI7 : Inf := ⟨2, sswap, 0, (tPi tY (tPi tY (tPi (apT mad_3 [(tV 1), (tV 0)]) (apT mad_3 [(tV 1), (tV 2)])))), mad_4, 0, noS, noS, 0, 0, 0, 0, 0, 0, [], 0, false⟩
theorem madI7_ok : madI7.ok := by unfold madI7 Inf.ok; simp only [i64ok]; decide
def madI8 : Inf := ⟨3, sthm, 0, tN, (tNum 2), 0, noS, noS, 0, 0, 0, 0, 0, 0, [], 0, false⟩
theorem madI8_ok : madI8.ok := by unfold madI8 Inf.ok; simp only [i64ok]; decide
def madL : List Inf := [madI0, madI1, madI2, madI3, madI4, madI5, madI6, madI7, madI8]
end Go.Proofs.YtfljbnhhkdaobaaGreat
