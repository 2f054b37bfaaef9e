/-
  The document's sample.
-/
import Derived.Test.YtfljbnhhkdaobaaGreatC8
import Derived.Test.YtfljbnhhkdaobaaGreatD0g
namespace Go.Proofs.YtfljbnhhkdaobaaGreat
open Go Go.RowKit Go.Proofs.Bw
set_option linter.unusedVariables false
set_option linter.unusedSimpArgs false
theorem madL_at {i : Nat} (h : i < 9) (h' : 11 + i < infosL.length) : (madL.take (i + 1)).drop i = [infosL[11 + i]] := by
  have hi : i = 0 ∨ i = 1 ∨ i = 2 ∨ i = 3 ∨ i = 4 ∨ i = 5 ∨ i = 6 ∨ i = 7 ∨ i = 8 := by omega
  rcases hi with rfl | rfl | rfl | rfl | rfl | rfl | rfl | rfl | rfl <;> rfl
theorem infosL_rls : ∀ x ∈ infosL, x.rules.length ≤ 1000 := fun x hx => of_decide_eq_true (List.all_eq_true.1 (show infosL.all (fun x => decide (x.rules.length ≤ 1000)) = true by decide +kernel) x hx)
set_option maxHeartbeats 2000000 in
set_option maxRecDepth 20000 in
theorem rSample_runs (w : World) (M : Nat → Prop) (hM : ∀ k, M k → k < w.heap.size) : Runs Tryz.prog 58 #[] w fun v w' => Ext w w' ∧ ∃ g A c, v = .pointer (some ⟨g, 0, none⟩) ∧ RA w' M w.heap.size g A c SL := by
  refine Runs.of_vc cx_ok [0, 1, 2, 3, 19] [] Tryz.func58 rfl rfl rfl (Holds.nil _) ?_
  intro g1 w1 e1 x1 z1 hh1
  obtain ⟨A1, hA1⟩ : ∃ A : Option Addr, A = none := ⟨_, rfl⟩
  obtain ⟨c1, hc1⟩ : ∃ c : Nat, c = 0 := ⟨_, rfl⟩
  have hD1 : RA w1 M w.heap.size g1 A1 c1 (smpL 0) := by
    subst hA1; subst hc1
    exact ⟨hh1.box 0 _ rfl, IX.nil _ _ _, by omega, fun ⟨a, ha, _⟩ => (by cases ha), by simp [smpL, addAll], by simp [smpL, addAll]⟩
  have d1 := hD1.lt
  have y1 : Ext w w1 := x1
  refine vcV (numbers_8 w1) hh1 fun v2 w2 x2 z2 hh2 p2 => ?_
  obtain ⟨B2, b2, rfl, lo2, hlo2, o2⟩ := p2
  refine (rAdd_runs g1 A1 B2 c1 b2 (smpL 0) numL w2 (hD1.ext x2) (fun k hk => by have := hM k hk; omega) (fun k hk hm => by have := d1 k hm; have := hM k hk; omega) o2.sl (fun k hk => ⟨hk.2, fun hm => by have := hM k hm; have := hk.1; omega, fun hm => by have := d1 k hm; have := hk.1; omega⟩) o2.le (by decide) (by decide)).mono ?_
  rintro _ w3 ⟨rfl, m3, A3, c3, hD3, n3⟩
  have z3 := m3.size
  rw [show addL (smpL 0) numL = smpL 4 from smpL4] at hD3
  rw [show addE (smpL 0) numL = 0 from smp4]
  have d3 := hD3.lt
  refine Lands.to (H' := [(0, [.v (.slice A3 (smpL 4).length c3)])]) (s := .v (.int .i64 0)) rfl rfl hh2 z3 ⟨hD3.box, trivial⟩ rfl fun hh3 => ?_
  have y3 : Ext w w3 := (y1.trans x2).trans' m3 fun k hk hs => by have := d1 k hs; omega
  refine vcV (pairs_8 w3) hh3 fun v4 w4 x4 z4 hh4 p4 => ?_
  obtain ⟨B4, b4, rfl, lo4, hlo4, o4⟩ := p4
  refine (rAdd_runs g1 A3 B4 c3 b4 (smpL 4) paiL w4 (hD3.ext x4) (fun k hk => by have := hM k hk; omega) (fun k hk hm => by have := d3 k hm; have := hM k hk; omega) o4.sl (fun k hk => ⟨hk.2, fun hm => by have := hM k hm; have := hk.1; omega, fun hm => by have := d3 k hm; have := hk.1; omega⟩) o4.le (by decide) (by decide)).mono ?_
  rintro _ w5 ⟨rfl, m5, A5, c5, hD5, n5⟩
  have z5 := m5.size
  rw [show addL (smpL 4) paiL = smpL 7 from smpL7] at hD5
  rw [show addE (smpL 4) paiL = 0 from smp7]
  have d5 := hD5.lt
  refine Lands.to (H' := [(0, [.v (.slice A5 (smpL 7).length c5)])]) (s := .v (.int .i64 0)) rfl rfl hh4 z5 ⟨hD5.box, trivial⟩ rfl fun hh5 => ?_
  have y5 : Ext w w5 := (y3.trans x4).trans' m5 fun k hk hs => by have := d3 k hs; omega
  refine vcV (lists_8 w5) hh5 fun v6 w6 x6 z6 hh6 p6 => ?_
  obtain ⟨B6, b6, rfl, lo6, hlo6, o6⟩ := p6
  refine (rAdd_runs g1 A5 B6 c5 b6 (smpL 7) lisL w6 (hD5.ext x6) (fun k hk => by have := hM k hk; omega) (fun k hk hm => by have := d5 k hm; have := hM k hk; omega) o6.sl (fun k hk => ⟨hk.2, fun hm => by have := hM k hm; have := hk.1; omega, fun hm => by have := d5 k hm; have := hk.1; omega⟩) o6.le (by decide) (by decide)).mono ?_
  rintro _ w7 ⟨rfl, m7, A7, c7, hD7, n7⟩
  have z7 := m7.size
  rw [show addL (smpL 7) lisL = smpL 11 from smpL11] at hD7
  rw [show addE (smpL 7) lisL = 0 from smp11]
  have d7 := hD7.lt
  refine Lands.to (H' := [(0, [.v (.slice A7 (smpL 11).length c7)])]) (s := .v (.int .i64 0)) rfl rfl hh6 z7 ⟨hD7.box, trivial⟩ rfl fun hh7 => ?_
  have y7 : Ext w w7 := (y5.trans x6).trans' m7 fun k hk hs => by have := d5 k hs; omega
  refine vcV (made_8 w7) hh7 fun v8 w8 x8 z8 hh8 p8 => ?_
  obtain ⟨B8, b8, rfl, lo8, hlo8, o8⟩ := p8
  have y8 := y7.trans x8
  have s8 : Sl encInf w8 (fun k => w7.heap.size ≤ k ∧ k < w8.heap.size) B8 madL := o8.sl.mono fun k hk => ⟨by
    rcases hk.1 with h | h
    · exact h.1
    · omega, hk.2⟩
  have hb8 := o8.le
  have hm9 : madL.length = 9 := rfl
  have q17 : w1.heap.size ≤ w7.heap.size := by
    have := x2.size; have := x4.size; have := x6.size; omega
  have hcd : ∀ k, rmine g1 A7 k → w.heap.size ≤ k ∧ k < w7.heap.size := d7
  refine vLoop_upd (σ := Nat × Option Addr × Nat) [3, 16, 17, 18, 19, 20, 21, 22, 23, 24, 25, 26, 27, 28] (fun s => [(3, .v (.int .i64 s.1))]) [0] (fun s => [(0, [.v (.slice s.2.1 (smpL (11 + s.1)).length s.2.2)])])
    (fun s w' => Bw.Mod (fun k => rmine g1 A7 k ∨ w8.heap.size ≤ k) w8 w' ∧ s.1 ≤ 9 ∧ RA w' M w.heap.size g1 s.2.1 s.2.2 (smpL (11 + s.1)) ∧ (∀ k, rmine g1 s.2.1 k → rmine g1 A7 k ∨ w8.heap.size ≤ k)) (fun s => 9 - s.1) (0, A7, c7) (fun _ => ⟨rfl, rfl⟩)
    ⟨(by repeat (first | exact trivial | refine And.intro rfl ?_)), (by repeat (first | exact trivial | refine And.intro rfl ?_)), (by repeat (first | exact trivial | refine And.intro rfl ?_)), (by repeat (first | exact trivial | refine And.intro rfl ?_)), Mod.refl _ _, Nat.zero_le _, hD7.ext x8, fun k hk => .inl hk⟩ ?_
  rintro ⟨i, A9, c9⟩ w9 hh9 ⟨m9, hi, hD9, N9⟩
  simp only at hi hD9 N9
  have z9 := m9.size
  have d9 := hD9.lt
  refine Or.inl (And.intro (fun h => ?_) (fun h => ?_))
  · have hil : i < 9 := by have := of_decide_eq_true h; simp only at this; omega
    have h20 : 11 + i < infosL.length := by show 11 + i < 20; omega
    have s9 : Sl encInf w9 (fun k => w7.heap.size ≤ k ∧ k < w8.heap.size) B8 madL := s8.mod m9 fun k hk hs => by
      rcases hs with hs | hs
      · have := hcd k hs; omega
      · omega
    refine vsd (by simp only [inKind]; omega) ?_
    refine OpT.sliceE (E := encInf) (i := (i : Int)) (j := (i : Int) + 1) (m := ((madL.take (i + 1)).drop i).length) Tryz.underlying22 Tryz.sizeOf36 rfl rfl rfl (s9.take (i + 1)) (by rw [List.length_take]; omega) (by omega) (by rw [List.length_drop, List.length_take]; omega) fun B10 s10 => ?_
    refine Lands.v hh9 ?_
    rw [show ((i : Int)).toNat = i from rfl, madL_at hil h20] at s10
    rw [madL_at hil h20]
    refine (rAdd_runs g1 A9 B10 c9 _ (smpL (11 + i)) [infosL[11 + i]] w9 hD9 (fun k hk => by have := hM k hk; omega) (fun k hk hm => by have := d9 k hm; have := hM k hk; omega) s10 (fun k hk => ⟨by omega, fun hm => by have := hM k hm; omega, fun hm => ?_⟩) (by simp only [lenOk, List.length_cons, List.length_nil]; omega) (by simp) (fun x hx => ?_)).mono ?_
    · rcases N9 k hm with h | h
      · have := hcd k h; omega
      · omega
    · rw [List.mem_singleton.1 hx]; exact infosL_rls _ (List.getElem_mem h20)
    rintro _ w11 ⟨rfl, m11, A11, c11, hD11, n11⟩
    have z11 := m11.size
    have N11 : ∀ k, rmine g1 A11 k → rmine g1 A7 k ∨ w8.heap.size ≤ k := fun k hk => hk.elim (fun hk => N9 k (.inl hk)) fun hk => (n11 k hk).elim (fun h => N9 k (.inr h)) fun h => .inr (by omega)
    rw [smpL_one (by omega) h20] at hD11
    rw [smp_one (by omega) h20]
    refine Lands.to (H' := [(0, [.v (.slice A11 (smpL (11 + i + 1)).length c11)])]) (s := .v (.int .i64 0)) rfl rfl hh9 z11 ⟨hD11.box, trivial⟩ rfl fun hh11 => ?_
    refine vsd (by simp only [inKind]; omega) ?_
    exact Exists.intro ((i + 1, A11, c11)) ⟨by simp only; omega, esub_over (by repeat (first | exact trivial | refine And.intro rfl ?_)) (by repeat (first | exact trivial | refine And.intro rfl ?_)), hsub_over (by repeat (first | exact trivial | refine And.intro rfl ?_)) (by repeat (first | exact trivial | refine And.intro rfl ?_)), m9.trans (m11.mono fun k hk => N9 k hk), hil, hD11, N11⟩
  · obtain rfl : i = 9 := by have := of_decide_eq_false h; simp only at this; omega
    refine ⟨y8.trans' m9 fun k hk hs => by
      rcases hs with h | h
      · have := hcd k h; omega
      · omega, g1, A9, c9, rfl, hD9⟩
end Go.Proofs.YtfljbnhhkdaobaaGreat

/-
  Both environments with more infos.
-/
namespace Go.Proofs.YtfljbnhhkdaobaaGreat
open Go Go.RowKit Go.Proofs.Bw
set_option linter.unusedVariables false
set_option linter.unusedSimpArgs false
def envP (l : List Inf) (i : Nat) : List Inf := (l.take i).foldl (fun L x => addL L [x]) SL
theorem envP_succ (l : List Inf) (i : Nat) (h : i < l.length) : envP l (i + 1) = addL (envP l i) [l[i]] := by
  unfold envP; rw [List.take_succ_eq_append_getElem h, List.foldl_append]; rfl
theorem one_at {α : Type} {l : List α} {i : Nat} (h : i < l.length) : (l.take (i + 1)).drop i = [l[i]] := by
  rw [List.take_succ_eq_append_getElem h, List.drop_append_of_le_length (by rw [List.length_take]; omega), List.drop_of_length_le (by rw [List.length_take]; omega)]
  rfl
set_option maxHeartbeats 4000000 in
set_option maxRecDepth 20000 in
theorem both_runs {R : Nat → Prop} (A0 : Option Addr) (l : List Inf) (c0 : Nat) (w : World) (hl : Sl encInf w R A0 l) (hR : ∀ k, R k → k < w.heap.size) (hB : lenOk l.length c0) (hlen : l.length ≤ 40) (hrls : ∀ x ∈ l, x.rules.length ≤ 1000) :
    Runs Tryz.prog 22 #[.slice A0 l.length c0] w fun v w' => Ext w w' ∧ ∃ e m g A c Ad cd, v = .tuple #[.pointer (some ⟨e, 0, none⟩), .pointer (some ⟨g, 0, none⟩), .bool true] ∧
      EX w' (rmine g Ad) w.heap.size e m A c (envP l l.length) ∧ RA w' (mine e m A) w.heap.size g Ad cd (envP l l.length) ∧ ∀ k, mine e m A k → ¬ rmine g Ad k := by
  refine Runs.of_vc cx_ok [0, 2, 3, 4, 5, 6, 7, 8, 14, 19, 36] [.v _] Tryz.func22 rfl rfl rfl (Holds.nil _) ?_
  refine (Sample_runs w (fun _ => False) (fun _ h => h.elim)).mono ?_
  rintro _ w1 ⟨x1, e, m, A1, c1, rfl, hE1⟩
  have hh1 := (Holds.nil w).ext x1
  refine Lands.ret (s := .t [.v (.pointer (some ⟨e, 0, none⟩)), .v (.bool true)]) rfl rfl hh1 ?_
  refine Or.inl (And.intro (fun hx => nomatch (rfl).symm.trans hx) (fun _ => ?_))
  have l1 := hE1.lt
  refine (rSample_runs w1 (mine e m A1) (fun k hk => (l1 k hk).2)).mono ?_
  rintro _ w2 ⟨x2, g, Ad2, cd2, rfl, hD2⟩
  have hh2 := hh1.ext x2
  refine Lands.v hh2 ?_
  have d2 := hD2.lt
  have q1 := x1.size
  have q2 := x2.size
  have hE2 : EX w2 (rmine g Ad2) w.heap.size e m A1 c1 SL := hE1.mod x2 (fun _ _ h => h.elim) (fun _ h => h.elim) fun k hk hm => by have := d2 k hm; omega
  have hd2 : ∀ k, mine e m A1 k → ¬ rmine g Ad2 k := fun k hk hm => by have := l1 k hk; have := d2 k hm; omega
  have y2 : Ext w w2 := x1.trans x2
  have ix2 : IX w2 (fun k => mine e m A1 k ∨ k = g) w.heap.size Ad2 cd2 SL := by
    obtain ⟨css, h1, h2⟩ := hD2.ix
    exact ⟨css, h1.lower (by omega), h2⟩
  refine vLoop_upd (σ := Nat) [2, 3, 4, 8, 16, 17, 18, 19, 20, 21, 22, 23, 24, 25, 26, 27, 28, 29, 30, 31, 32, 33, 34, 35, 36] (fun i => [(8, .v (.int .i64 i))]) [] (fun _ => [])
    (fun i w' => Ext w w' ∧ i ≤ l.length ∧ ∃ A c Ad cd, EX w' (rmine g Ad) w.heap.size e m A c (envP l i) ∧ RA w' (mine e m A) w.heap.size g Ad cd (envP l i) ∧ ∀ k, mine e m A k → ¬ rmine g Ad k) (fun i => l.length - i) 0 (fun _ => ⟨rfl, rfl⟩)
    ⟨(by repeat (first | exact trivial | refine And.intro rfl ?_)), (by repeat (first | exact trivial | refine And.intro rfl ?_)), (by repeat (first | exact trivial | refine And.intro rfl ?_)), (by repeat (first | exact trivial | refine And.intro rfl ?_)), y2, Nat.zero_le _, A1, c1, Ad2, cd2, hE2, ⟨hD2.box, ix2, by have := hD2.lo_; omega, hD2.ne, hD2.hts, hD2.few⟩, hd2⟩ ?_
  rintro i w3 hh3 ⟨y3, hi, A, c, Ad, cd, hE, hD, hd⟩
  have q3 := y3.size
  have a3 := hE.lt
  have d3 := hD.lt
  have hB1 := hB.1
  have hB2 := hB.2
  refine Or.inl (And.intro (fun h => ?_) (fun h => ?_))
  · have hil : i < l.length := by have := of_decide_eq_true h; omega
    obtain ⟨a1, cs, ha1, hRa, hrow0, hv⟩ := hl.at hil
    have hs := envP_succ l i hil
    have hone := one_at hil
    have hxr := hrls l[i] (List.getElem_mem hil)
    generalize l[i] = x at *
    generalize envP l i = L at *
    have hv3 : VI w3 (fun k => k < w.heap.size) cs x := encInf.mono (VI.ext hv y3) hR
    have hv0 := hv3
    have hrow := hrow0.ext y3
    clear hv
    obtain ⟨ctx, cvx, rax, rcx, rfl, htyx, hvlx, hrux, hrlx, hokx⟩ := hv3; obtain ⟨kxt, nxt, sxt, lsxt, tsxt, laxt, lcxt, taxt, tcxt, etyx, rfl, hkxt, hnxt, hsxt, hllxt, hltxt, hLxt, hTxt⟩ := htyx.inv; obtain ⟨kxv, nxv, sxv, lsxv, tsxv, laxv, lcxv, taxv, tcxv, evlx, rfl, hkxv, hnxv, hsxv, hllxv, hltxv, hLxv, hTxv⟩ := hvlx.inv
    refine vDrwM_mk (fun k => w.heap.size ≤ k) (fun i hi => absurd hi (by simp)) [5, 6, 13] (.one 0 (.one 1 (.one 2 (.one 3 (.one 4 (.one 7 (.one 8 (.one 9 (.one 10 (.one 11 (.one 12 (.one 5 (.one 6 (.one 13 (.one 14 .nil))))))))))))))) rfl fun w4 x4 q4 hh4 => ?_
    refine Exists.intro (.v (.pointer (some (a1.add (i * 25))))) (And.intro rfl (And.intro (fun w' xx hh => OpT.indexAddr Tryz.underlying22 Tryz.sizeOf36 rfl rfl ha1 (by omega) ⟨rfl, rfl⟩) ?_))
    refine Exists.intro (.a [.v (.int .u8 x.kind), .v (.string x.name), .v (.int .i64 x.params), .v (.int .u8 kxt), .v (.int .i64 nxt), .v (.string sxt), .v (.slice laxt lsxt.length lcxt), .v (.slice taxt tsxt.length tcxt), .v (.int .u8 kxv), .v (.int .i64 nxv), .v (.string sxv), .v (.slice laxv lsxv.length lcxv), .v (.slice taxv tsxv.length tcxv), .v (.int .i64 x.height), .v (.string x.block), .v (.string x.of_), .v (.int .i64 x.fixed), .v (.int .i64 x.index), .v (.int .i64 x.no), .v (.int .i64 x.fields), .v (.int .i64 x.motives), .v (.int .i64 x.minors), .v (.slice rax x.rules.length rcx), .v (.int .i64 x.ctors), .v (.bool x.record)]) (And.intro rfl (And.intro (fun w' xx hh => OpT.loadA Tryz.isAgg36 (by exact Tryz.sizeOf36) rfl ((hrow.ext x4).mod xx (fun hs => by rw [block_add] at hs; exact Nat.not_lt.2 hs (hR _ hRa))) ⟨rfl, rfl⟩) ?_))
    refine vsd (by simp only [inKind]; omega) ?_
    obtain ⟨Bx, hBx⟩ : ∃ Bx : Option Addr, (if c0 = (i : Int).toNat then A0 else A0.map (·.add ((i : Int).toNat * 25))) = Bx := ⟨_, rfl⟩
    have hxs : Sl encInf w R Bx [x] := by
      have := (hl.cut hB1 i).take 1
      rw [← hBx]
      rw [List.take_drop, hone] at this
      exact this
    refine Exists.intro (.v (.slice Bx 1 (c0 - i))) (And.intro rfl (And.intro (fun w' xx hh => OpT.slice Tryz.underlying22 Tryz.sizeOf36 rfl (i := (i : Int)) (j := (i : Int) + 1) rfl rfl (by omega) ⟨by rw [hBx]; congr 1 <;> omega, rfl⟩) ?_))
    have hS0 : ∀ k : Nat, (fun _ : Nat => False) k → w.heap.size ≤ k := fun k hk => hk.elim
    refine OpT.buildE (E := encInf) (R := (fun k => k < w.heap.size)) (vs := [_]) (l := [x]) Tryz.zeroValue36 (.cons rfl (.nil)) Tryz.underlying22 Tryz.sizeOf36 rfl rfl (Reps.cons (VI.ext hv0 x4) (Reps.nil _ _ _)) rfl rfl hh4 fun w5 g5 e5 x5 z5 o5 hh5 => ?_
    refine And.intro (Mod.mono x5 hS0) ?_
    have x35 := x4.trans x5
    have q35 := x35.size
    refine (Add_x e m A _ c 1 L [x] w5 (hE.ext x35) (fun k hk => by have := d3 k hk; omega) o5.sl (fun k hk => ⟨⟨hk.2, fun hm => ?_⟩, fun hm => ?_⟩) (by simp [lenOk]) (by simp) (by simpa using hxr)).mono ?_
    · rcases hk.1 with h | h
      · have := d3 k hm; omega
      · have := d3 k hm; omega
    · rcases hk.1 with h | h
      · have := a3 k hm; omega
      · have := a3 k hm; omega
    rintro _ w6 ⟨m6, rfl, A6, c6, hE6, n6⟩
    have hh6 : Holds [] [] w6 := Holds.nil _
    refine Lands.v hh6 ?_
    refine And.intro (m6.mono fun k hk => (a3 k hk).1) ?_
    have z6 := m6.size
    have hD6 : RA w6 (mine e m A6) w.heap.size g Ad cd L := (hD.ext x35).mod m6 (fun k _ h => h) (fun k hk hm => hd k hk hm) fun k hk h => (n6 k h).elim id fun h => by omega
    have a6 := hE6.lt
    have y6 : Ext w w6 := (y3.trans x35).trans' m6 fun k hk hs => by have := a3 k hs; omega
    refine (rAdd_runs g Ad Bx cd (c0 - i) L [x] w6 hD6 (fun k hk => (a6 k hk).2) (fun k hk hm => (n6 k hk).elim (fun h => hd k h hm) fun h => by have := d3 k hm; omega) (hxs.ext y6) (fun k hk => ⟨by have := hR k hk; omega, fun hm => by have := a6 k hm; have := hR k hk; omega, fun hm => by have := d3 k hm; have := hR k hk; omega⟩) (by simp only [lenOk, List.length_cons, List.length_nil]; omega) (by simp) (by simpa using hxr)).mono ?_
    rintro _ w7 ⟨rfl, m7, Ad7, cd7, hD7, n7⟩
    refine Lands.v (Holds.nil _) ?_
    refine Or.inl (And.intro (fun hx => nomatch ((show (!decide (addE L [x] = addE L [x])) = false by simp)).symm.trans hx) (fun _ => ?_))
    refine vsd (by simp only [inKind]; omega) ?_
    have z7 := m7.size
    have y7 : Ext w w7 := y6.trans' m7 fun k hk hs => by have := d3 k hs; omega
    have hE7 : EX w7 (rmine g Ad7) w.heap.size e m A6 c6 (addL L [x]) := hE6.mod m7 (fun k _ h => h) (fun k hk hm => (n6 k hm).elim (fun h => hd k h hk) fun h => by have := d3 k hk; omega) fun k hk h => h.elim .inl fun h => (n7 k h).elim .inr fun h => by omega
    have hd7 : ∀ k, mine e m A6 k → ¬ rmine g Ad7 k := fun k hk hm => by
      have h6 := a6 k hk
      have : rmine g Ad k := hm.elim .inl fun h => (n7 k h).elim .inr fun h => by omega
      exact (n6 k hk).elim (fun h => hd k h this) fun h => by have := d3 k this; omega
    exact Exists.intro (i + 1) ⟨by omega, esub_over (by repeat (first | exact trivial | refine And.intro rfl ?_)) (by repeat (first | exact trivial | refine And.intro rfl ?_)), hsub_over (by repeat (first | exact trivial | refine And.intro rfl ?_)) (by repeat (first | exact trivial | refine And.intro rfl ?_)), y7, hil, A6, c6, Ad7, cd7, by rw [hs]; exact hE7, by rw [hs]; exact hD7, hd7⟩
  · obtain rfl : i = l.length := by have := of_decide_eq_false h; omega
    exact ⟨y3, e, m, g, A, c, Ad, cd, rfl, hE, hD, hd⟩
end Go.Proofs.YtfljbnhhkdaobaaGreat

/-
  With, Has: of the document.
-/
namespace Go.Proofs.YtfljbnhhkdaobaaGreat
open Go Go.RowKit Go.Proofs.Bw
set_option linter.unusedVariables false
set_option linter.unusedSimpArgs false
set_option maxRecDepth 20000 in
theorem With9_runs {R : Nat → Prop} (A : Option Addr) (l : List ByteArray) (c : Nat) (s : ByteArray) (w : World) (hl : Sl encS w R A l) (hR : ∀ k, R k → k < w.heap.size) (hc : lenOk l.length c) (hsz : l.length ≤ 8000000000000) (hs : s.size ≤ 9223372036854775807) :
    Runs Tryz.prog 31 #[.slice A l.length c, .string s] w fun v w' => Ext w w' ∧ ∃ A' c', v = .slice A' (withB l s).length c' ∧ lenOk (withB l s).length c' ∧ Sl encS w' (fun k => k < w'.heap.size) A' (withB l s) := by
  refine Runs.of_vc (ρ := []) cx_ok [0, 1, 4, 5, 6, 18, 32] [.v _, .v _] Tryz.func31 rfl rfl rfl (Holds.nil w) ?_
  refine vLoop_upd (σ := Nat) [5, 7, 8, 9, 10, 11, 12, 13, 14, 15, 16, 17, 18, 19, 20] (fun i => [(5, .v (.int .i64 i))]) [] (fun _ => []) (fun i w' => Ext w w' ∧ i ≤ l.length ∧ plB s (l.drop i) i = plB s l 0) (fun i => l.length - i) 0 (fun _ => ⟨rfl, rfl⟩)
    ⟨(by repeat (first | exact trivial | refine And.intro rfl ?_)), (by repeat (first | exact trivial | refine And.intro rfl ?_)), (by repeat (first | exact trivial | refine And.intro rfl ?_)), (by repeat (first | exact trivial | refine And.intro rfl ?_)), Ext.refl w, Nat.zero_le _, rfl⟩ ?_
  rintro i w1 hh1 ⟨x1, hi, hp⟩
  have q1 := x1.size
  by_cases hil : i < l.length
  · obtain ⟨a1, cs1, ha1, hRa, hrow, hs1⟩ := (hl.ext x1).at hil
    obtain ⟨rfl, hs1⟩ := hs1
    have hpd := plB_drop s l i hil
    have hcc : decide ((i : Int) < (l.length : Int)) = true := decide_eq_true (by omega)
    have hgi : l[i]? = some l[i] := List.getElem?_eq_getElem hil
    generalize l[i] = y at *
    refine vyes (gY hcc) ?_
    refine OpT.indexAddr Tryz.underlying28 Tryz.sizeOf9 rfl rfl ha1 (by first | omega | (simp only [lenOk] at *; omega)) ?_; refine Lands.v hh1 ?_
    refine vyes (gY hcc) ?_
    refine OpT.load Tryz.isAgg9 rfl (hrow.cell 0 rfl) ?_; refine Lands.v hh1 ?_
    refine Or.inl (And.intro (fun h => ?_) (fun h => ?_))
    · have hlt : lt8 y s = true := by rw [hcc] at h; show Op.bytesLess _ _ = _; simpa [sel] using h
      rw [hpd, if_pos hlt] at hp
      refine vsd (by simp only [inKind]; omega) ?_
      exact Exists.intro (i + 1) ⟨by omega, esub_over (by repeat (first | exact trivial | refine And.intro rfl ?_)) (by repeat (first | exact trivial | refine And.intro rfl ?_)), hsub_over (by repeat (first | exact trivial | refine And.intro rfl ?_)) (by repeat (first | exact trivial | refine And.intro rfl ?_)), x1, hil, hp⟩
    · have hlt : lt8 y s = false := by rw [hcc] at h; show Op.bytesLess _ _ = _; simpa [sel] using h
      rw [hpd, if_neg (by rw [hlt]; decide)] at hp
      refine vyes (gY hcc) ?_
      refine OpT.indexAddr Tryz.underlying28 Tryz.sizeOf9 rfl rfl ha1 (by first | omega | (simp only [lenOk] at *; omega)) ?_; refine Lands.v hh1 ?_
      refine vyes (gY hcc) ?_
      refine OpT.load Tryz.isAgg9 rfl (hrow.cell 0 rfl) ?_; refine Lands.v hh1 ?_
      refine Or.inl (And.intro (fun h => ?_) (fun h => ?_))
      · have hys : y = s := by rw [hcc] at h; simpa [sel] using h
        have hw : withB l s = l := by unfold withB; rw [← hp, hgi, hys, if_pos rfl]
        rw [hw]
        exact ⟨x1, A, c, rfl, hc, (hl.ext x1).mono fun k hk => by have := hR k hk; omega⟩
      · have hys : ¬ y = s := by rw [hcc] at h; simpa [sel] using h
        have hw : withB l s = l.take i ++ [s] ++ l.drop i := by unfold withB; rw [← hp, hgi, if_neg (by simpa using hys)]
        have hSl := hl.ext x1
        have hlen : (l.take i ++ [s] ++ l.drop i).length = l.length + 1 := by simp only [List.length_append, List.length_take, List.length_drop, List.length_cons, List.length_nil]; omega
        have htk : (l.take i).length = i := by rw [List.length_take]; omega
        refine OpT.slicePre Tryz.underlying28 Tryz.sizeOf9 rfl (j := (i : Int)) rfl (by simp only [lenOk] at *; omega) (m := (l.take i).length) (by rw [htk]; rfl) ?_
        refine Lands.v hh1 ?_
        refine OpT.appendL (E := encS) elS1 Tryz.underlying28 Tryz.underlying28 rfl rfl rfl rfl (l3 := l.take i) (by simp) rfl (OwnE.nil encS w1 w1.heap.size _ R) (Ext.refl w1) (hSl.take i) (fun k hk _ => .inl hk) (fun k hk => by have := (fun k hk => Nat.lt_of_lt_of_le (hR k hk) q1) k hk; omega) x1 (by omega) hh1 (by repeat (first | exact trivial | refine And.intro (by omega) ?_)) (by rw [htk]; omega) fun w6 A6 c6 y6 z6 o6 hh6 => ?_
        refine OpT.buildE (E := encS) (R := R) (vs := [_]) (l := [s]) Tryz.zeroValue9 (.cons rfl (.nil)) Tryz.underlying28 Tryz.sizeOf9 rfl rfl (Reps.cons (⟨rfl, hs⟩) (Reps.nil _ _ _)) rfl rfl hh6 fun w7 g7 e7 x7 z7 o7 hh7 => ?_
        refine OpT.appendO (E := encS) elS1 Tryz.underlying28 Tryz.underlying28 rfl rfl rfl rfl (l3 := l.take i ++ [s]) rfl rfl o6 x7 o7 (by omega) (fun k hk => by have := (fun k hk => Nat.lt_of_lt_of_le (hR k hk) q1) k hk; omega) (y6.trans x7) (by omega) hh7 (by repeat (first | exact trivial | refine And.intro (by omega) ?_)) (by simp only [List.length_append, htk, List.length_cons, List.length_nil]; omega) fun w8 A8 c8 y8 z8 o8 hh8 => ?_
        have hSl8 := hl.ext y8
        refine OpT.slice Tryz.underlying28 Tryz.sizeOf9 rfl (i := (i : Int)) (j := (l.length : Int)) rfl rfl (by simp only [lenOk] at *; omega) ?_
        rw [show ((l.length : Int).toNat - (i : Int).toNat) = (l.drop i).length by rw [List.length_drop]; omega]
        refine Lands.v hh8 ?_
        refine OpT.appendL (E := encS) elS1 Tryz.underlying28 Tryz.underlying28 rfl rfl rfl rfl (l3 := l.take i ++ [s] ++ l.drop i) rfl rfl o8 (Ext.refl w8) (hSl8.cut hc.1 i) (fun k hk _ => .inl hk) (fun k hk => by have := (fun k hk => Nat.lt_of_lt_of_le (hR k hk) q1) k hk; omega) y8 (by omega) hh8 (by repeat (first | exact trivial | refine And.intro (by omega) ?_)) (by rw [hlen]; omega) fun w9 A9 c9 y9 z9 o9 hh9 => ?_
        have q9 := y9.size
        rw [hw]
        exact ⟨y9, A9, c9, rfl, o9.le, o9.sl.mono fun k hk => hk.2⟩
  · obtain rfl : i = l.length := by omega
    have hcc : decide ((l.length : Int) < (l.length : Int)) = false := decide_eq_false (by omega)
    rw [List.drop_length] at hp
    have hw : withB l s = l.take l.length ++ [s] ++ l.drop l.length := by unfold withB; rw [← hp, plB, if_neg (by simp)]
    refine vskip (gN hcc) ?_
    refine vskip (gN hcc) ?_
    refine vskip (gN hcc) ?_
    refine OpT.pickF rfl hcc rfl ?_
    refine Lands.v hh1 ?_
    refine Or.inl (And.intro (fun hx => nomatch (rfl).symm.trans hx) (fun _ => ?_))
    refine vskip (gN hcc) ?_
    refine vskip (gN hcc) ?_
    refine vskip (gN hcc) ?_
    refine OpT.pickF rfl hcc rfl ?_
    refine Lands.v hh1 ?_
    refine Or.inl (And.intro (fun hx => nomatch (rfl).symm.trans hx) (fun _ => ?_))
    have hSl := hl.ext x1
    have hlen : (l.take l.length ++ [s] ++ l.drop l.length).length = l.length + 1 := by simp only [List.length_append, List.length_take, List.length_drop, List.length_cons, List.length_nil]; omega
    have htk : (l.take l.length).length = l.length := by rw [List.length_take]; omega
    refine OpT.slicePre Tryz.underlying28 Tryz.sizeOf9 rfl (j := (l.length : Int)) rfl (by simp only [lenOk] at *; omega) (m := (l.take l.length).length) (by rw [htk]; rfl) ?_
    refine Lands.v hh1 ?_
    refine OpT.appendL (E := encS) elS1 Tryz.underlying28 Tryz.underlying28 rfl rfl rfl rfl (l3 := l.take l.length) (by simp) rfl (OwnE.nil encS w1 w1.heap.size _ R) (Ext.refl w1) (hSl.take l.length) (fun k hk _ => .inl hk) (fun k hk => by have := (fun k hk => Nat.lt_of_lt_of_le (hR k hk) q1) k hk; omega) x1 (by omega) hh1 (by repeat (first | exact trivial | refine And.intro (by omega) ?_)) (by rw [htk]; omega) fun w6 A6 c6 y6 z6 o6 hh6 => ?_
    refine OpT.buildE (E := encS) (R := R) (vs := [_]) (l := [s]) Tryz.zeroValue9 (.cons rfl (.nil)) Tryz.underlying28 Tryz.sizeOf9 rfl rfl (Reps.cons (⟨rfl, hs⟩) (Reps.nil _ _ _)) rfl rfl hh6 fun w7 g7 e7 x7 z7 o7 hh7 => ?_
    refine OpT.appendO (E := encS) elS1 Tryz.underlying28 Tryz.underlying28 rfl rfl rfl rfl (l3 := l.take l.length ++ [s]) rfl rfl o6 x7 o7 (by omega) (fun k hk => by have := (fun k hk => Nat.lt_of_lt_of_le (hR k hk) q1) k hk; omega) (y6.trans x7) (by omega) hh7 (by repeat (first | exact trivial | refine And.intro (by omega) ?_)) (by simp only [List.length_append, htk, List.length_cons, List.length_nil]; omega) fun w8 A8 c8 y8 z8 o8 hh8 => ?_
    have hSl8 := hl.ext y8
    refine OpT.slice Tryz.underlying28 Tryz.sizeOf9 rfl (i := (l.length : Int)) (j := (l.length : Int)) rfl rfl (by simp only [lenOk] at *; omega) ?_
    rw [show ((l.length : Int).toNat - (l.length : Int).toNat) = (l.drop l.length).length by rw [List.length_drop]; omega]
    refine Lands.v hh8 ?_
    refine OpT.appendL (E := encS) elS1 Tryz.underlying28 Tryz.underlying28 rfl rfl rfl rfl (l3 := l.take l.length ++ [s] ++ l.drop l.length) rfl rfl o8 (Ext.refl w8) (hSl8.cut hc.1 l.length) (fun k hk _ => .inl hk) (fun k hk => by have := (fun k hk => Nat.lt_of_lt_of_le (hR k hk) q1) k hk; omega) y8 (by omega) hh8 (by repeat (first | exact trivial | refine And.intro (by omega) ?_)) (by rw [hlen]; omega) fun w9 A9 c9 y9 z9 o9 hh9 => ?_
    have q9 := y9.size
    rw [hw]
    exact ⟨y9, A9, c9, rfl, o9.le, o9.sl.mono fun k hk => hk.2⟩
end Go.Proofs.YtfljbnhhkdaobaaGreat
