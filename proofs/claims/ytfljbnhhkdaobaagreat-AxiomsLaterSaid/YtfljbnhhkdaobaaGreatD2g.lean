/-
  What names rest on when infos of no block are added: the plain law.
-/
import Derived.Test.YtfljbnhhkdaobaaGreatC8
import Derived.Test.YtfljbnhhkdaobaaGreatA8
import Derived.Test.YtfljbnhhkdaobaaGreatB6
import Derived.Test.YtfljbnhhkdaobaaGreatB7g
import Derived.Test.YtfljbnhhkdaobaaGreatRows
import Derived.ProofKit
import Derived.SizedLaws
import Derived.ChangeMaps5
namespace Go.Proofs.YtfljbnhhkdaobaaGreat
open Go Go.RowKit Go.Proofs.Bw
set_option linter.unusedVariables false
set_option linter.unusedSimpArgs false
def GB (l l' : List Inf) : Prop := ∃ m, l' = l ++ m ∧ ∀ y ∈ m, y.block = noS
theorem GB.refl (l : List Inf) : GB l l := ⟨[], (List.append_nil l).symm, fun y h => by cases h⟩
theorem GB.add {l l' : List Inf} (h : GB l l') (x : Inf) (hx : x.block = noS) : GB l (addL l' [x]) := by
  by_cases ha : addE l' [x] = 0
  · rw [addL_one ha]
    obtain ⟨m, rfl, hn⟩ := h
    refine ⟨m ++ [addOne (l ++ m) x], by rw [List.append_assoc], fun y hy => ?_⟩
    rcases List.mem_append.1 hy with hy | hy
    · exact hn y hy
    · rw [List.mem_singleton.1 hy]; exact hx
  · rw [addL_no ha]; exact h
theorem GB.find {l l' : List Inf} (hg : GB l l') {s : ByteArray} (h : (findI l s).isSome = true) : findI l' s = findI l s := by
  obtain ⟨m, rfl, _⟩ := hg
  unfold findI at *
  rw [List.find?_append]
  cases hq : List.find? (fun x => decide (x.name = s)) l with
  | none => rw [hq] at h; cases h
  | some z => rfl
theorem GB.get {l l' : List Inf} (hg : GB l l') {s : ByteArray} (h : (findI l s).isSome = true) : getI l' s = getI l s := by unfold getI; rw [hg.find h]
theorem findI_map' {l : List Inf} {n : ByteArray} (h : n ∈ l.map (·.name)) : (findI l n).isSome = true := by
  obtain ⟨x, hx, rfl⟩ := List.mem_map.1 h
  unfold findI
  rw [List.find?_isSome]
  exact ⟨x, hx, decide_eq_true rfl⟩
theorem blk_mem {l : List Inf} {x : Inf} {q : ByteArray} : q ∈ blkL l x ↔ q = x.block ∨ (findI l q).isSome = true ∧ (getI l q).block = x.block := by
  unfold blkL
  rw [List.mem_cons, List.mem_filter, decide_eq_true_eq]
  exact ⟨fun h => h.imp id fun h => ⟨findI_map' h.1, h.2⟩, fun h => h.imp id fun h => ⟨findI_nm h.1, h.2⟩⟩
theorem GB.blk {l l' : List Inf} (hg : GB l l') {x : Inf} (hx : ¬ x.block = noS) {q : ByteArray} : q ∈ blkL l' x ↔ q ∈ blkL l x := by
  rw [blk_mem, blk_mem]
  refine or_congr Iff.rfl ⟨fun ⟨h1, h2⟩ => ?_, fun ⟨h1, h2⟩ => ⟨by rw [hg.find h1]; exact h1, by rw [hg.get h1]; exact h2⟩⟩
  by_cases hq : (findI l q).isSome = true
  · exact ⟨hq, by rw [← hg.get hq]; exact h2⟩
  · refine (hx ?_).elim
    rw [← h2]
    obtain ⟨y, hy⟩ := Option.isSome_iff_exists.1 h1
    obtain ⟨m, rfl, hm⟩ := hg
    obtain ⟨hy1, hy2⟩ := findI_mem hy
    have hg' : getI (l ++ m) q = y := by unfold getI; rw [hy]; rfl
    rw [hg']
    rcases List.mem_append.1 hy1 with h | h
    · exact (hq (findI_map' (List.mem_map.2 ⟨y, h, hy2⟩))).elim
    · exact hm y h
theorem GB.uses {l l' : List Inf} (hg : GB l l') {a : ByteArray} (op : Bool) (h : (findI l a).isSome = true) (q : ByteArray) : q ∈ usesL l' op a ↔ q ∈ usesL l op a := by
  unfold usesL
  rw [hg.find h]
  cases findI l a with
  | none => exact Iff.rfl
  | some x =>
    show q ∈ List.filter _ (useN l' op x) ↔ q ∈ List.filter _ (useN l op x)
    rw [List.mem_filter, List.mem_filter]
    refine and_congr ?_ Iff.rfl
    unfold useN
    by_cases hx : x.block = noS
    · rw [if_pos hx, if_pos hx]
    · rw [if_neg hx, if_neg hx]
      exact (List.mem_append.trans (or_congr Iff.rfl (hg.blk hx))).trans List.mem_append.symm
def Clo (l : List Inf) : Prop := ∀ a q, (findI l a).isSome = true → q ∈ usesL l false a → (findI l q).isSome = true
theorem GB.rch {l l' : List Inf} (hg : GB l l') (hc : Clo l) {a : ByteArray} (ha : (findI l a).isSome = true) (q : ByteArray) : Rch l' false [a] q ↔ Rch l false [a] q := by
  constructor
  · intro h
    induction h with
    | base h1 h2 => rw [List.mem_singleton.1 h1]; exact .base (List.mem_cons_self ..) ha
    | step _ h1 h2 ih =>
      have h3 := (hg.uses false ih.there _).1 h1
      exact .step ih h3 (hc _ _ ih.there h3)
  · intro h
    induction h with
    | base h1 h2 => exact .base h1 (by rw [hg.find h2]; exact h2)
    | step h0 h1 h2 ih => exact .step ih ((hg.uses false h0.there _).2 h1) (by rw [hg.find h2]; exact h2)
theorem SL_clo : Clo SL := by
  have h : (SL.map (·.name)).all (fun a => (usesF SL false a).all fun q => thr SL q) = true := by unfold SL smpL; rw [addAll_F]; decide +kernel
  intro a q h1 h2
  rw [uses_F] at h2
  exact List.all_eq_true.1 (List.all_eq_true.1 h a (findI_nm h1)) q h2
theorem SL_len : SL.length = 20 := by unfold SL smpL; rw [addAll_F]; decide +kernel
end Go.Proofs.YtfljbnhhkdaobaaGreat

/-
  AxiomsLater.
-/
namespace Go.Proofs.YtfljbnhhkdaobaaGreat
open Go Go.RowKit Go.Proofs.Bw
set_option linter.unusedVariables false
set_option linter.unusedSimpArgs false
def envB (l : List Inf) (i : Nat) : List Inf := (l.take i).foldl (fun L x => if x.block = noS then addL L [x] else L) SL
theorem envB_succ (l : List Inf) (i : Nat) (h : i < l.length) : envB l (i + 1) = if l[i].block = noS then addL (envB l i) [l[i]] else envB l i := by
  unfold envB; rw [List.take_succ_eq_append_getElem h, List.foldl_append]; rfl
theorem few_le {l : List Inf} (h : fewB l = true) : l.length ≤ 40 ∧ ∀ x ∈ l, x.rules.length ≤ 20 := by
  unfold fewB at h
  rw [Bool.and_eq_true] at h
  refine ⟨?_, fun x hx => ?_⟩
  · have := h.1
    simp at this
    omega
  · have := List.all_eq_true.1 h.2 x hx
    unfold fewI at this
    simp at this
    omega
set_option maxHeartbeats 8000000 in
set_option maxRecDepth 20000 in
theorem later9_runs {R0 : Nat → Prop} (A0 : Option Addr) (l : List Inf) (c0 : Nat) (k0 : Int) (hk0 : 0 ≤ k0 ∧ k0 ≤ 255) (w : World) (hl0 : Sl encInf w R0 A0 l) (hB : lenOk l.length c0) : Runs Tryz.prog 3 #[.slice A0 l.length c0, .int .u8 k0] w fun v w' => v = .bool true ∧ Ext w w' := by
  have hl := hl0.small.mono (R' := fun k => k < w.heap.size) fun k h => h.2
  refine Runs.of_vc (ρ := []) cx_ok [0, 1, 4, 5, 6, 7, 8, 9, 11, 12, 13, 17, 24, 29, 51, 59, 73] [.v _, .v _] Tryz.func3 rfl rfl rfl (Holds.nil w) ?_
  refine vcZ (Few_runs A0 l c0 w hl hB) (Holds.nil w) fun w1 x1 z1 hh1 => ?_
  generalize hfw : fewB l = fw at *
  refine Or.inl (And.intro (fun h => ?_) (fun h => ?_))
  · refine vcZ (works9_runs w1) hh1 fun w2 x2 z2 hh2 => ?_
    exact ⟨rfl, x1.trans x2⟩
  have hfw' : fw = true := by simpa using h
  subst hfw'
  obtain ⟨hlen, hrls⟩ := few_le hfw
  clear h
  refine (Sample_runs w1 (fun _ => False) (fun _ h => h.elim)).mono ?_
  rintro _ w2 ⟨x2, e, m, A, cap, rfl, hE2⟩
  have hh2 := hh1.ext x2
  have z2 := x2.size
  refine Lands.ret (s := .t [.v (.pointer (some ⟨e, 0, none⟩)), .v (.bool true)]) rfl rfl hh2 ?_
  refine Or.inl (And.intro (fun hx => nomatch (rfl).symm.trans hx) (fun _ => ?_))
  refine (List_runs e m A cap SL w2 hE2).mono ?_
  rintro _ w3 ⟨x3, A3, c3, rfl, o3⟩
  have hh3 := hh2.ext x3
  refine Lands.v hh3 ?_
  have hSL := SL_len
  refine Or.inl (And.intro (fun hx => nomatch ((show decide ((SL.length : Int) = 0) = false from decide_eq_false (by omega))).symm.trans hx) (fun _ => ?_))
  refine vsd (by simp only [inKind]; omega) ?_
  refine vsd (by omega) ?_
  have hm1 : 0 ≤ k0 % (SL.length : Int) := Int.emod_nonneg k0 (by omega)
  have hm2 : k0 % (SL.length : Int) < (SL.length : Int) := Int.emod_lt_of_pos k0 (by omega)
  generalize k0 % (SL.length : Int) = j at *
  have hjl : j.toNat < (SL.map (·.name)).length := by rw [List.length_map]; omega
  obtain ⟨a1, cs1, ha1, _, hrow, rfl, hsz1⟩ := o3.sl.at hjl
  have hmem : (findI SL (SL.map (·.name))[j.toNat]).isSome = true := findI_map' (List.getElem_mem hjl)
  generalize (SL.map (·.name))[j.toNat] = nm at *
  refine OpT.indexAddr Tryz.underlying28 Tryz.sizeOf9 rfl rfl ha1 (by first | omega | (simp only [lenOk] at *; omega)) ?_; refine Lands.v hh3 ?_
  refine OpT.load Tryz.isAgg9 rfl (hrow.cell 0 rfl) ?_; refine Lands.v hh3 ?_
  refine (Find_x e m A cap SL nm w3 (hE2.ext x3) (fun _ h => h.elim)).mono ?_
  rintro _ w4 ⟨x4, cf, rfl, hf⟩
  have hh4 := hh3.ext x4
  have z4 := x4.size
  generalize hZ : getI SL nm = Z at *
  generalize hbz : (findI SL nm).isSome = bz at *
  have hth : (findI SL nm).isSome = true := hbz.trans hmem
  have hf0 := hf
  obtain ⟨ctV, cvV, raV, rcV, rfl, htyV, hvlV, hruV, hrlV, hokV⟩ := hf; obtain ⟨kVt, nVt, sVt, lsVt, tsVt, laVt, lcVt, taVt, tcVt, etyV, rfl, hkVt, hnVt, hsVt, hllVt, hltVt, hLVt, hTVt⟩ := htyV.inv; obtain ⟨kVv, nVv, sVv, lsVv, tsVv, laVv, lcVv, taVv, tcVv, evlV, rfl, hkVv, hnVv, hsVv, hllVv, hltVv, hLVv, hTVv⟩ := hvlV.inv
  refine Lands.ret (s := .t [.a [.v (.int .u8 Z.kind), .v (.string Z.name), .v (.int .i64 Z.params), .v (.int .u8 kVt), .v (.int .i64 nVt), .v (.string sVt), .v (.slice laVt lsVt.length lcVt), .v (.slice taVt tsVt.length tcVt), .v (.int .u8 kVv), .v (.int .i64 nVv), .v (.string sVv), .v (.slice laVv lsVv.length lcVv), .v (.slice taVv tsVv.length tcVv), .v (.int .i64 Z.height), .v (.string Z.block), .v (.string Z.of_), .v (.int .i64 Z.fixed), .v (.int .i64 Z.index), .v (.int .i64 Z.no), .v (.int .i64 Z.fields), .v (.int .i64 Z.motives), .v (.int .i64 Z.minors), .v (.slice raV Z.rules.length rcV), .v (.int .i64 Z.ctors), .v (.bool Z.record)], .v (.bool bz)]) rfl rfl hh4 ?_
  intro g5 w5 e5 x5 z5 hh5; intro w6 m6 z6 hh6; replace m6 : Upd g5 w5 w6 := m6; have x6 : Ext w4 w6 := x5.upd m6 (by omega); have q6 := x6.size
  have x36 : Ext w3 w6 := x4.trans x6
  have hsnm : nm.size ≤ 9223372036854775807 := hsz1
  refine OpT.buildE (E := encS) (R := (fun _ => False)) (vs := [_]) (l := [nm]) Tryz.zeroValue9 (.cons rfl (.nil)) Tryz.underlying28 Tryz.sizeOf9 rfl rfl (Reps.cons (⟨rfl, hsnm⟩) (Reps.nil _ _ _)) rfl rfl hh6 fun w7 g7 e7 x7 z7 o7 hh7 => ?_
  have x27 : Ext w2 w7 := x3.trans (x36.trans x7)
  refine vcV (Rests_runs (some ⟨e, 0, none⟩) SL _ 1 [nm] w7 (.inr ⟨_, _, _, _, _, _, rfl, hE2.ext x27⟩) o7.sl (fun k hk => hk.2) (by simp)) hh7 fun v8 w8 x8 z8 hh8 p8 => ?_
  obtain ⟨A8, c8, wl, rfl, o8, S8⟩ := p8
  have x28 : Ext w2 w8 := x27.trans x8
  have y8 : Ext w w8 := x1.trans (x2.trans x28)
  have l2 := hE2.lt
  have q1 := x1.size
  have q27 := x27.size
  have q3 := x3.size
  have q7 := x7.size
  have q8 := x8.size
  have hlB1 := hB.1
  have hlB2 := hB.2
  have hZv : VI w8 _ _ Z := VI.ext hf0 (x6.trans (x7.trans x8))
  refine vLoop_upd (σ := Nat) [4, 12, 48, 49, 50, 51, 52, 53, 54, 55, 56, 57, 58, 59, 60, 61, 62, 63, 64, 65, 66, 67, 68, 69, 70, 71, 72, 73] (fun i => [(12, .v (.int .i64 i))]) [] (fun _ => []) (fun i w' => Bw.Mod (fun k => mine e m A k ∨ w8.heap.size ≤ k) w8 w' ∧ i ≤ l.length ∧ GB SL (envB l i) ∧ ∃ A' c', EX w' (fun _ => False) w1.heap.size e m A' c' (envB l i) ∧ ∀ k, mine e m A' k → mine e m A k ∨ w8.heap.size ≤ k) (fun i => l.length - i) 0 (fun _ => ⟨rfl, rfl⟩)
    ⟨(by repeat (first | exact trivial | refine And.intro rfl ?_)), (by repeat (first | exact trivial | refine And.intro rfl ?_)), (by repeat (first | exact trivial | refine And.intro rfl ?_)), (by repeat (first | exact trivial | refine And.intro rfl ?_)), Mod.refl _ _, Nat.zero_le _, GB.refl _, A, cap, hE2.ext x28, fun k hk => .inl hk⟩ ?_
  rintro i w9 hh9 ⟨m9, hi, hgr, A', c', hE9, N9⟩
  have z9 := m9.size
  have y9 : Ext w w9 := y8.trans' m9 fun k hk hs => by
    rcases hs with h | h
    · have := l2 k h; omega
    · omega
  refine Or.inl (And.intro (fun h => ?_) (fun h => ?_))
  · have hil : i < l.length := by have := of_decide_eq_true h; omega
    obtain ⟨a1, cs, ha1, hRa, hrow0, hv⟩ := hl.at hil
    have hs := envB_succ l i hil
    have hxr := hrls l[i] (List.getElem_mem hil)
    generalize l[i] = x at *
    generalize envB l i = L at *
    have hv9 : VI w9 (fun k => k < w.heap.size) cs x := VI.ext hv y9
    have hv0 := hv9
    have hrow := hrow0.ext y9
    clear hv
    obtain ⟨ctx, cvx, rax, rcx, rfl, htyx, hvlx, hrux, hrlx, hokx⟩ := hv9; obtain ⟨kxt, nxt, sxt, lsxt, tsxt, laxt, lcxt, taxt, tcxt, etyx, rfl, hkxt, hnxt, hsxt, hllxt, hltxt, hLxt, hTxt⟩ := htyx.inv; obtain ⟨kxv, nxv, sxv, lsxv, tsxv, laxv, lcxv, taxv, tcxv, evlx, rfl, hkxv, hnxv, hsxv, hllxv, hltxv, hLxv, hTxv⟩ := hvlx.inv
    refine OpT.indexAddr Tryz.underlying22 Tryz.sizeOf36 rfl rfl ha1 (by first | omega | (simp only [lenOk] at *; omega)) ?_; refine Lands.v hh9 ?_
    refine OpT.load Tryz.isAgg9 rfl (hrow.cell 14 rfl) ?_; refine Lands.v hh9 ?_
    refine Or.inl (And.intro (fun h => ?_) (fun h => ?_))
    · have hb : ¬ x.block = noS := noS_ne h
      rw [if_neg hb] at hs
      refine vsd (by simp only [inKind]; omega) ?_
      exact Exists.intro ((i + 1)) ⟨by omega, esub_over (by repeat (first | exact trivial | refine And.intro rfl ?_)) (by repeat (first | exact trivial | refine And.intro rfl ?_)), hsub_over (by repeat (first | exact trivial | refine And.intro rfl ?_)) (by repeat (first | exact trivial | refine And.intro rfl ?_)), m9, hil, by rw [hs]; exact hgr, A', c', by rw [hs]; exact hE9, N9⟩
    have hb : x.block = noS := noS_eq h
    clear h
    rw [if_pos hb] at hs
    refine OpT.indexAddr Tryz.underlying22 Tryz.sizeOf36 rfl rfl ha1 (by first | omega | (simp only [lenOk] at *; omega)) ?_; refine Lands.v hh9 ?_
    refine OpT.loadA Tryz.isAgg36 (by exact Tryz.sizeOf36) rfl hrow ?_; refine Lands.ret (s := .a [.v (.int .u8 x.kind), .v (.string x.name), .v (.int .i64 x.params), .v (.int .u8 kxt), .v (.int .i64 nxt), .v (.string sxt), .v (.slice laxt lsxt.length lcxt), .v (.slice taxt tsxt.length tcxt), .v (.int .u8 kxv), .v (.int .i64 nxv), .v (.string sxv), .v (.slice laxv lsxv.length lcxv), .v (.slice taxv tsxv.length tcxv), .v (.int .i64 x.height), .v (.string x.block), .v (.string x.of_), .v (.int .i64 x.fixed), .v (.int .i64 x.index), .v (.int .i64 x.no), .v (.int .i64 x.fields), .v (.int .i64 x.motives), .v (.int .i64 x.minors), .v (.slice rax x.rules.length rcx), .v (.int .i64 x.ctors), .v (.bool x.record)]) rfl rfl hh9 ?_
    refine OpT.buildE (E := encInf) (R := (fun k => k < w.heap.size)) (vs := [_]) (l := [x]) Tryz.zeroValue36 (.cons rfl (.nil)) Tryz.underlying22 Tryz.sizeOf36 rfl rfl (Reps.cons hv0 (Reps.nil _ _ _)) rfl rfl hh9 fun w10 g10 e10 x10 z10 o10 hh10 => ?_
    have nm' : ∀ k, k < w1.heap.size ∨ (w2.heap.size ≤ k ∧ k < w8.heap.size) → ¬ mine e m A' k := fun k hk hm => by
      rcases N9 k hm with h | h
      · have := l2 k h; omega
      · omega
    have z10' := x10.size
    refine vcM (Add_x e m A' _ c' 1 L [x] w10 (hE9.ext x10) (fun k hk => hk.elim) o10.sl (fun k hk => ⟨⟨hk.2, id⟩, fun hm => ?_⟩) (by simp [lenOk]) (by simp) (by simpa using (by omega : x.rules.length ≤ 1000))) hh10 ⟨nm' g5 (by omega), trivial⟩ fun v11 w11 m11 z11 hh11 p11 => ?_
    · rcases hk.1 with h | h
      · exact nm' k (by omega) hm
      · have := hE9.lt k hm; omega
    obtain ⟨rfl, A5, c5, hE11, n11⟩ := p11
    have m811 : Bw.Mod (fun k => mine e m A k ∨ w8.heap.size ≤ k) w8 w11 := (m9.trans (Mod.mono x10 fun k hk => hk.elim)).trans (m11.mono fun k hk => N9 k hk)
    have N11 : ∀ k, mine e m A5 k → mine e m A k ∨ w8.heap.size ≤ k := fun k hk => (n11 k hk).elim (N9 k) fun h => by omega
    have hgr' := hgr.add x hb
    have hE11' : EX w11 (fun _ => False) w1.heap.size e m A5 c5 (addL L [x]) := hE11
    generalize addL L [x] = L' at *
    have z811 := m811.size
    refine OpT.buildE (E := encS) (R := (fun _ => False)) (vs := [_]) (l := [nm]) Tryz.zeroValue9 (.cons rfl (.nil)) Tryz.underlying28 Tryz.sizeOf9 rfl rfl (Reps.cons (⟨rfl, hsnm⟩) (Reps.nil _ _ _)) rfl rfl hh11 fun w12 g12 e12 x12 z12 o12 hh12 => ?_
    refine vcV (Rests_runs (some ⟨e, 0, none⟩) L' _ 1 [nm] w12 (.inr ⟨_, _, _, _, _, _, rfl, hE11'.ext x12⟩) o12.sl (fun k hk => hk.2) (by simp)) hh12 fun v13 w13 x13 z13 hh13 p13 => ?_
    obtain ⟨A13, c13, wl', rfl, o13, S13⟩ := p13
    have hwl : wl' = wl := S13.unique S8 fun q => hgr'.rch SL_clo hth q
    subst hwl
    have m813 : Bw.Mod (fun k => mine e m A k ∨ w8.heap.size ≤ k) w8 w13 := m811.trans (Mod.mono (x12.trans x13) fun k hk => hk.elim)
    have o8' : OwnE encS w13 w7.heap.size 9 (fun _ => False) A8 c8 wl' := o8.mod m813 fun k hk hs => ⟨fun h => h, by
      rcases hs with h | h
      · have := l2 k h; omega
      · omega⟩
    refine vcZ (Same9_eq w13 o13 (Ext.refl _) o8' (Ext.refl _)) hh13 fun w14 x14 z14 hh14 => ?_
    refine Or.inl (And.intro (fun hx => nomatch (rfl).symm.trans hx) (fun _ => ?_))
    refine vsd (by simp only [inKind]; omega) ?_
    exact Exists.intro ((i + 1)) ⟨by omega, esub_over (by repeat (first | exact trivial | refine And.intro rfl ?_)) (by repeat (first | exact trivial | refine And.intro rfl ?_)), hsub_over (by repeat (first | exact trivial | refine And.intro rfl ?_)) (by repeat (first | exact trivial | refine And.intro rfl ?_)), m813.trans (Mod.mono x14 fun k hk => hk.elim), hil, by rw [hs]; exact hgr', A5, c5, by rw [hs]; exact hE11'.ext (x12.trans (x13.trans x14)), N11⟩
  obtain rfl : i = l.length := by have := of_decide_eq_false h; omega
  clear h hi
  generalize envB l l.length = L' at *
  have hget : getI L' nm = Z := (hgr.get hth).trans hZ
  refine (Find_x e m A' c' L' nm w9 hE9 (fun _ h => h.elim)).mono ?_
  rintro _ w10 ⟨x10, cg, rfl, hg⟩
  rw [hget] at hg
  have hh10 := hh9.ext x10
  have z10 := x10.size
  generalize (findI L' nm).isSome = bz2 at *
  have hg0 := hg
  obtain ⟨ctU, cvU, raU, rcU, rfl, htyU, hvlU, hruU, hrlU, hokU⟩ := hg; obtain ⟨kUt, nUt, sUt, lsUt, tsUt, laUt, lcUt, taUt, tcUt, etyU, rfl, hkUt, hnUt, hsUt, hllUt, hltUt, hLUt, hTUt⟩ := htyU.inv; obtain ⟨kUv, nUv, sUv, lsUv, tsUv, laUv, lcUv, taUv, tcUv, evlU, rfl, hkUv, hnUv, hsUv, hllUv, hltUv, hLUv, hTUv⟩ := hvlU.inv
  refine Lands.ret (s := .t [.a [.v (.int .u8 Z.kind), .v (.string Z.name), .v (.int .i64 Z.params), .v (.int .u8 kUt), .v (.int .i64 nUt), .v (.string sUt), .v (.slice laUt lsUt.length lcUt), .v (.slice taUt tsUt.length tcUt), .v (.int .u8 kUv), .v (.int .i64 nUv), .v (.string sUv), .v (.slice laUv lsUv.length lcUv), .v (.slice taUv tsUv.length tcUv), .v (.int .i64 Z.height), .v (.string Z.block), .v (.string Z.of_), .v (.int .i64 Z.fixed), .v (.int .i64 Z.index), .v (.int .i64 Z.no), .v (.int .i64 Z.fields), .v (.int .i64 Z.motives), .v (.int .i64 Z.minors), .v (.slice raU Z.rules.length rcU), .v (.int .i64 Z.ctors), .v (.bool Z.record)], .v (.bool bz2)]) rfl rfl hh10 ?_
  intro g11 w11 e11 x11 z11 hh11; intro w12 m12 z12 hh12; replace m12 : Upd g11 w11 w12 := m12; have x12 : Ext w10 w12 := x11.upd m12 (by omega); have q12 := x12.size
  have hZ12 := encInf.mod hZv (m9.trans (Mod.mono (x10.trans x12) fun k hk => hk.elim)) (fun k hk hs => by
    have q48 := (x6.trans (x7.trans x8)).size
    rcases hs with h | h
    · exact hk.2 h
    · have := hk.1.1; omega)
  refine vcZ (rSameI_runs _ _ Z Z w12 hZ12 (VI.ext hg0 x12)) hh12 fun w13 x13 z13 hh13 => ?_
  rw [infB_refl]
  refine vyes rfl ?_
  refine vcZ (works9_runs w13) hh13 fun w14 x14 z14 hh14 => ?_
  exact ⟨rfl, y9.trans (x10.trans (x12.trans (x13.trans x14)))⟩
end Go.Proofs.YtfljbnhhkdaobaaGreat

/-
  The row of AxiomsLater: true for every input.
-/
namespace Go.Proofs.YtfljbnhhkdaobaaGreat
open Go Go.ChangeMaps Go.ChangeShapes Go.WideShapes Go.ChangeAt Go.RowKit Go.Proofs.Bw
theorem Tryz.own : ownKnob Tryz.prog.godebug = none := by kernel_rfl
theorem Tryz.laidOut : laidOutB Tryz.prog = true := by kernel_rfl
set_option maxRecDepth 100000 in
theorem later9_lifted (os : Os) (started : os.Started) (H : Type) (enc : TypeId × Value → H) :
    ReturnsInHanded {} Tryz.checked os 3 .any (Rows.axiomsLaterSpec.pre6 enc Tryz.prog Tryz.f3 Rows.axiomsLaterRow.domain false) (Rows.axiomsLaterSpec.post enc Tryz.prog Tryz.f3 false true false false) := by
  refine returnsInHanded_of_change_sized (C := Tryz.checked) Tryz.own started (by kernel_rfl) Tryz.func3
    (ChangeSpec.witness6 (enc := enc) (C := Tryz.checked) false ⟨#[], #[.slice none 0 0, .int .u8 0], []⟩ 8 (by kernel_rfl) (by kernel_rfl) (by kernel_rfl) (by kernel_rfl)) ?_
  intro W base args ds gs before hval0 hW hcnd hsz0 _
  have hval : ∀ (j : Nat) t v, Tryz.f3.params[j]? = some t → args[j]? = some v → Value.okWide Tryz.prog W .any base t v := hval0
  have hW' := hW
  obtain ⟨p, q, hA0, hV, rfl, hfz, hnd⟩ := hW
  have hA : DataW.TrodAll enc Tryz.prog W 0 (fun _ => true) true Tryz.f3.params.toList args.toList ds p := hA0
  have hsz : (DataW.weightsEach Tryz.prog (Tryz.f3.params.toList ++ Rows.axiomsLaterSpec.plain.varTypes Tryz.prog) (ds ++ gs)).all (· ≤ reachBytes) = true := hsz0
  rw [Tryz.params3] at hA hval hsz
  obtain ⟨v0, v1, d0, d1, p0, p1, rfl, rfl, rfl, h0, h1⟩ := trodAll_two hA
  obtain ⟨rfl, rfl⟩ := trodVars_none hV
  obtain ⟨A0, len0, cap0, rfl⟩ := okWide_slice Tryz.underlying22 (hval 0 22 v0 rfl rfl)
  obtain ⟨x1, rfl, rfl, rfl, w1⟩ := open_int Tryz.underlying5 (hval 1 5 v1 rfl rfl) h1
  clear hA0 hval0
  have hlt := hW'.lt
  obtain ⟨fu0, k0⟩ := h0
  obtain ⟨A', ts0, c, e1, hl0, hS0⟩ := open_SI k0
  simp only [Value.cells, List.cons.injEq, Value.slice.injEq, and_true] at e1
  obtain ⟨rfl, rfl, rfl⟩ := e1
  have hn1 := wf8 w1
  obtain ⟨m1, rfl⟩ : ∃ m : Nat, x1 = m := ⟨x1.toNat, by omega⟩
  refine Calls.mono (later9_runs A0 ts0 cap0 (m1 : Int) (by omega) W hS0 hl0) ?_
  rintro e W' ⟨v, rfl, rfl, hx⟩
  have hb := hx.below
  refine ⟨_, rfl, _, _, _, [], _, [], hW', trodAll_mk1 (shut_bool Tryz.underlying4 true),
    trodAll_mk2 (Below.trod Tryz.laidOut (by kernel_rfl) (by decide +kernel) ⟨fu0, k0⟩ hb (fun x h => hlt x (by simp [h]))) (shut_int Tryz.underlying5 w1), rfl, hb.frame _, fun h => by cases h⟩
theorem later9_holds : Rows.AxiomsLaterSaid :=
  OpenClaim.holds_of_wide 3 Tryz.f3 rfl rfl rfl rfl rfl rfl rfl ⟨rfl, rfl, rfl, rfl, rfl⟩ rfl rfl rfl rfl rfl (by kernel_rfl) Tryz.func3 (by kernel_rfl)
    (of_decide_eq_true (by kernel_rfl)) (by unfold Func.isWrapper; rw [if_neg (by decide +kernel)]; exact ⟨rfl, rfl⟩)
    (fun os started H enc _ => later9_lifted os started H enc)
end Go.Proofs.YtfljbnhhkdaobaaGreat
