/-
  What names rest on when infos of no block are added: the plain law.
-/
import Derived.Test.YtfljbnhhkdaobaaGreatC8
import Derived.Test.YtfljbnhhkdaobaaGreatA8
import Derived.Test.YtfljbnhhkdaobaaGreatC9
import Derived.Test.YtfljbnhhkdaobaaGreatB6
import Derived.Test.YtfljbnhhkdaobaaGreatB7g
import Derived.Test.YtfljbnhhkdaobaaGreatRows
import Derived.ProofKit
import Derived.SizedLaws
import Derived.ChangeMaps5
namespace Go.Proofs.YtfljbnhhkdaobaaGreat
open Go Go.RowKit Go.Proofs.Bw
set_option linter.unusedVariables false
set_option linter.unusedSimpArgs false
def GB (l l' : List Inf) : Prop := ∃ m, l' = l ++ m ∧ ∀ y ∈ m, y.block = noS
theorem GB.refl (l : List Inf) : GB l l := ⟨[], (List.append_nil l).symm, fun y h => by cases h⟩
theorem GB.add {l l' : List Inf} (h : GB l l') (x : Inf) (hx : x.block = noS) : GB l (addL l' [x]) := by
  by_cases ha : addE l' [x] = 0
  · rw [addL_one ha]
    obtain ⟨m, rfl, hn⟩ := h
    refine ⟨m ++ [addOne (l ++ m) x], by rw [List.append_assoc], fun y hy => ?_⟩
    rcases List.mem_append.1 hy with hy | hy
    · exact hn y hy
    · rw [List.mem_singleton.1 hy]; exact hx
  · rw [addL_no ha]; exact h
theorem GB.find {l l' : List Inf} (hg : GB l l') {s : ByteArray} (h : (findI l s).isSome = true) : findI l' s = findI l s := by
  obtain ⟨m, rfl, _⟩ := hg
  unfold findI at *
  rw [List.find?_append]
  cases hq : List.find? (fun x => decide (x.name = s)) l with
  | none => rw [hq] at h; cases h
  | some z => rfl
theorem GB.get {l l' : List Inf} (hg : GB l l') {s : ByteArray} (h : (findI l s).isSome = true) : getI l' s = getI l s := by unfold getI; rw [hg.find h]
theorem findI_map' {l : List Inf} {n : ByteArray} (h : n ∈ l.map (·.name)) : (findI l n).isSome = true := by
  obtain ⟨x, hx, rfl⟩ := List.mem_map.1 h
  unfold findI
  rw [List.find?_isSome]
  exact ⟨x, hx, decide_eq_true rfl⟩
theorem blk_mem {l : List Inf} {x : Inf} {q : ByteArray} : q ∈ blkL l x ↔ q = x.block ∨ (findI l q).isSome = true ∧ (getI l q).block = x.block := by
  unfold blkL
  rw [List.mem_cons, List.mem_filter, decide_eq_true_eq]
  exact ⟨fun h => h.imp id fun h => ⟨findI_map' h.1, h.2⟩, fun h => h.imp id fun h => ⟨findI_nm h.1, h.2⟩⟩
theorem GB.blk {l l' : List Inf} (hg : GB l l') {x : Inf} (hx : ¬ x.block = noS) {q : ByteArray} : q ∈ blkL l' x ↔ q ∈ blkL l x := by
  rw [blk_mem, blk_mem]
  refine or_congr Iff.rfl ⟨fun ⟨h1, h2⟩ => ?_, fun ⟨h1, h2⟩ => ⟨by rw [hg.find h1]; exact h1, by rw [hg.get h1]; exact h2⟩⟩
  by_cases hq : (findI l q).isSome = true
  · exact ⟨hq, by rw [← hg.get hq]; exact h2⟩
  · refine (hx ?_).elim
    rw [← h2]
    obtain ⟨y, hy⟩ := Option.isSome_iff_exists.1 h1
    obtain ⟨m, rfl, hm⟩ := hg
    obtain ⟨hy1, hy2⟩ := findI_mem hy
    have hg' : getI (l ++ m) q = y := by unfold getI; rw [hy]; rfl
    rw [hg']
    rcases List.mem_append.1 hy1 with h | h
    · exact (hq (findI_map' (List.mem_map.2 ⟨y, h, hy2⟩))).elim
    · exact hm y h
theorem GB.uses {l l' : List Inf} (hg : GB l l') {a : ByteArray} (op : Bool) (h : (findI l a).isSome = true) (q : ByteArray) : q ∈ usesL l' op a ↔ q ∈ usesL l op a := by
  unfold usesL
  rw [hg.find h]
  cases findI l a with
  | none => exact Iff.rfl
  | some x =>
    show q ∈ List.filter _ (useN l' op x) ↔ q ∈ List.filter _ (useN l op x)
    rw [List.mem_filter, List.mem_filter]
    refine and_congr ?_ Iff.rfl
    unfold useN
    by_cases hx : x.block = noS
    · rw [if_pos hx, if_pos hx]
    · rw [if_neg hx, if_neg hx]
      exact (List.mem_append.trans (or_congr Iff.rfl (hg.blk hx))).trans List.mem_append.symm
end Go.Proofs.YtfljbnhhkdaobaaGreat

/-
  AxiomsLater.
-/
namespace Go.Proofs.YtfljbnhhkdaobaaGreat
open Go Go.RowKit Go.Proofs.Bw
set_option linter.unusedVariables false
set_option linter.unusedSimpArgs false
theorem few_le {l : List Inf} (h : fewB l = true) : l.length ≤ 40 ∧ ∀ x ∈ l, x.rules.length ≤ 20 := by
  unfold fewB at h
  rw [Bool.and_eq_true] at h
  refine ⟨?_, fun x hx => ?_⟩
  · have := h.1
    simp at this
    omega
  · have := List.all_eq_true.1 h.2 x hx
    unfold fewI at this
    simp at this
    omega
end Go.Proofs.YtfljbnhhkdaobaaGreat

/-
  AxiomsNil.
-/
namespace Go.Proofs.YtfljbnhhkdaobaaGreat
open Go Go.RowKit Go.Proofs.Bw
set_option linter.unusedVariables false
set_option linter.unusedSimpArgs false
theorem set_nil {S : ByteArray → Prop} {l : List ByteArray} (h : SetL S l) (hs : ∀ q, ¬ S q) : l = [] := by
  cases l with
  | nil => rfl
  | cons a r => exact (hs a ((h.2 a).1 (List.mem_cons_self ..))).elim
end Go.Proofs.YtfljbnhhkdaobaaGreat

/-
  What names rest on: the plain laws of AxiomsRests.
-/
namespace Go.Proofs.YtfljbnhhkdaobaaGreat
open Go Go.RowKit Go.Proofs.Bw
set_option linter.unusedVariables false
set_option linter.unusedSimpArgs false
theorem Rch.mono {L : List Inf} {op : Bool} {l l' : List ByteArray} (h : ∀ q ∈ l, q ∈ l') {q : ByteArray} (hq : Rch L op l q) : Rch L op l' q := by
  induction hq with
  | base h1 h2 => exact .base (h _ h1) h2
  | step _ h1 h2 ih => exact .step ih h1 h2
theorem rch_with {L : List Inf} {op : Bool} {one : ByteArray} {u : List ByteArray} (h1 : (findI L one).isSome = true) (hu : ∀ q, q ∈ u ↔ q ∈ usesL L op one) (q : ByteArray) : Rch L op [one] q ↔ Rch L op u q ∨ q = one := by
  constructor
  · intro h
    induction h with
    | base h2 _ => exact .inr (List.mem_singleton.1 h2)
    | step _ h2 h3 ih =>
      rcases ih with ih | rfl
      · exact .inl (.step ih h2 h3)
      · exact .inl (.base ((hu _).2 h2) h3)
  · rintro (h | rfl)
    · induction h with
      | base h2 h3 => exact .step (.base (List.mem_cons_self ..) h1) ((hu _).1 h2) h3
      | step _ h2 h3 ih => exact .step ih h2 h3
    · exact .base (List.mem_cons_self ..) h1
theorem look_op {x : Inf} (h : lookB true x = true) : lookB false x = true := by
  unfold lookB at *
  by_cases h2 : x.kind = 2 <;> simp_all
theorem look_no {x : Inf} (h : x.kind ≠ 3) : lookB true x = lookB false x := by
  unfold lookB
  by_cases h2 : x.kind = 2 <;> simp_all
theorem uses_op {L : List Inf} {a q : ByteArray} (h : q ∈ usesL L true a) : q ∈ usesL L false a := by
  unfold usesL at *
  cases hf : findI L a with
  | none => rw [hf] at h; cases h
  | some x =>
    rw [hf] at h
    obtain ⟨h1, h2⟩ := List.mem_filter.1 h
    refine List.mem_filter.2 ⟨?_, h2⟩
    unfold useN at *
    by_cases hl : lookB true x = true
    · rw [if_pos (look_op hl)]; rwa [if_pos hl] at h1
    · rw [if_neg hl] at h1
      simp only [List.append_nil, List.mem_append] at h1 ⊢
      rcases h1 with (h1 | h1) | h1
      · exact .inl (.inl (.inl h1))
      · exact .inl (.inr h1)
      · exact .inr h1
theorem uses_no {L : List Inf} {a : ByteArray} (h : (getI L a).kind ≠ 3) : usesL L true a = usesL L false a := by
  unfold usesL
  cases hf : findI L a with
  | none => rfl
  | some x =>
    have hx : getI L a = x := by unfold getI; rw [hf]; rfl
    rw [hx] at h
    show List.filter _ (useN L true x) = List.filter _ (useN L false x)
    unfold useN
    rw [look_no h]
theorem rch_op {L : List Inf} {l : List ByteArray} {q : ByteArray} (h : Rch L true l q) : Rch L false l q := by
  induction h with
  | base h1 h2 => exact .base h1 h2
  | step _ h1 h2 ih => exact .step ih (uses_op h1) h2
theorem rch_no {L : List Inf} {l : List ByteArray} (hk : ∀ q, Rch L false l q → (getI L q).kind ≠ 3) {q : ByteArray} : Rch L false l q ↔ Rch L true l q := by
  refine ⟨fun h => ?_, rch_op⟩
  induction h with
  | base h1 h2 => exact .base h1 h2
  | step h0 h1 h2 ih => exact .step ih (by rw [uses_no (hk _ h0)]; exact h1) h2
theorem flat_le {α β : Type} {f : α → List β} {k : Nat} : ∀ {l : List α}, (∀ x ∈ l, (f x).length ≤ k) → (l.flatMap f).length ≤ l.length * k
  | [], _ => by simp
  | x :: r, h => by
    have h1 := h x (List.mem_cons_self ..)
    have h2 := flat_le (l := r) fun y hy => h y (List.mem_cons_of_mem _ hy)
    rw [List.flatMap_cons, List.length_append, List.length_cons, Nat.succ_mul]; omega
theorem uses_len {L : List Inf} {op : Bool} {s : ByteArray} (h1 : (getI L s).rules.length ≤ 1000) (h2 : L.length ≤ 4096) : (usesL L op s).length ≤ 70000000 := by
  unfold usesL
  cases hf : findI L s with
  | none => simp
  | some x =>
    have hx : getI L s = x := by unfold getI; rw [hf]; rfl
    rw [hx] at h1
    refine Nat.le_trans (List.length_filter_le _ _) ?_
    unfold useN
    have e1 := nmsE_len x.ty
    have e2 := nmsE_len x.val
    have e3 : (x.rules.flatMap fun r => nms r.b).length ≤ x.rules.length * 65536 := flat_le fun r _ => nmsE_len r.b
    have e4 : (blkL L x).length ≤ 4097 := by
      unfold blkL
      have := List.length_filter_le (fun n => decide ((getI L n).block = x.block)) (L.map (·.name))
      rw [List.length_map] at this
      rw [List.length_cons]; omega
    have e5 : (if lookB op x then nms x.val else []).length ≤ 65536 := by split <;> simp [e2]
    have e6 : (if x.block = noS then [] else blkL L x).length ≤ 4097 := by
      split
      · simp
      · exact e4
    simp only [List.length_append]
    omega
theorem uses_self {L : List Inf} {op : Bool} {s : ByteArray} : ¬ s ∈ usesL L op s := by
  unfold usesL
  cases findI L s with
  | none => simp
  | some x => intro h; exact absurd rfl (of_decide_eq_true (List.mem_filter.1 h).2)
theorem nms_one {s q : ByteArray} (h : q ∈ nms (tC s)) : q = s := by
  unfold nms nmsT at h
  obtain ⟨x, hx, rfl⟩ := List.mem_map.1 h
  split at hx
  · have h1 := (cs_law (names (tC s))).2 x |>.1 hx
    have h2 : x ∈ nm1 s ++ [] := h1
    rw [List.append_nil] at h2
    unfold nm1 at h2
    split at h2
    · cases h2
    · rw [List.mem_singleton.1 h2]
      simp [Bw.strOf]
  · cases hx
end Go.Proofs.YtfljbnhhkdaobaaGreat

/-
  AxiomsRests.
-/
namespace Go.Proofs.YtfljbnhhkdaobaaGreat
open Go Go.RowKit Go.Proofs.Bw
set_option linter.unusedVariables false
set_option linter.unusedSimpArgs false
set_option maxHeartbeats 8000000 in
set_option maxRecDepth 20000 in
theorem rests9_runs {R0 : Nat → Prop} (A0 : Option Addr) (l : List Inf) (c0 : Nat) (one two : ByteArray) (w : World) (hl0 : Sl encInf w R0 A0 l) (hB : lenOk l.length c0) : Runs Tryz.prog 5 #[.slice A0 l.length c0, .string one, .string two] w fun v w' => v = .bool true ∧ Ext w w' := by
  have hl := hl0.small.mono (R' := fun k => k < w.heap.size) fun k h => h.2
  refine Runs.of_vc (ρ := []) cx_ok [0, 1, 2, 6, 7, 9, 10, 12, 13, 14, 15, 16, 17, 18, 19, 20, 21, 22, 23, 24, 25, 39, 48, 60, 83, 92, 136, 148, 157, 161, 184] [.v _, .v _, .v _] Tryz.func5 rfl rfl rfl (Holds.nil w) ?_
  refine vcZ (Few_runs A0 l c0 w hl hB) (Holds.nil w) fun w1 x1 z1 hh1 => ?_
  generalize hfw : fewB l = fw at *
  refine Or.inl (And.intro (fun h => ?_) (fun h => ?_))
  · refine vcZ (works9_runs w1) hh1 fun w2 x2 z2 hh2 => ?_
    exact ⟨rfl, x1.trans x2⟩
  have hfw' : fw = true ∧ one.size ≤ 100 ∧ two.size ≤ 100 := by
    cases fw <;> simp [sel] at h ⊢
    omega
  obtain ⟨rfl, hs1, hs2⟩ := hfw'
  obtain ⟨hlen, hrls⟩ := few_le hfw
  clear h
  refine (both_runs A0 l c0 w1 (hl.ext x1) (fun k hk => by have := x1.size; omega) hB hlen (fun x hx => by have := hrls x hx; omega)).mono ?_
  rintro _ w2 ⟨x2, e, m, g, A, c, Ad, cd, rfl, hE, _, _⟩
  have hh2 := hh1.ext x2
  generalize envP l l.length = L at *
  have hV : EnvV w2 (some ⟨e, 0, none⟩) L := .inr ⟨_, _, _, _, _, _, rfl, hE⟩
  clear hE
  generalize hp : (some ⟨e, 0, none⟩ : Option Addr) = p at *
  refine Lands.ret (s := .t [.v (.pointer p), .v (.pointer (some ⟨g, 0, none⟩)), .v (.bool true)]) rfl rfl hh2 ?_
  refine Or.inl (And.intro (fun hx => nomatch (rfl).symm.trans hx) (fun _ => ?_))
  have t1 : one.size ≤ 9223372036854775807 := by omega
  have t2 : two.size ≤ 9223372036854775807 := by omega
  refine OpT.buildE (E := encS) (R := (fun _ => False)) (vs := [_]) (l := [one]) Tryz.zeroValue9 (.cons rfl (.nil)) Tryz.underlying28 Tryz.sizeOf9 rfl rfl (Reps.cons (⟨rfl, t1⟩) (Reps.nil _ _ _)) rfl rfl hh2 fun w3 g3 e3 x3 z3 o3 hh3 => ?_
  refine vcV (Rests_runs p L _ 1 [one] w3 (hV.ext x3) o3.sl (fun k hk => hk.2) (by simp)) hh3 fun v4 w4 x4 z4 hh4 p4 => ?_
  obtain ⟨Ar, cr, r, rfl, oR, SR⟩ := p4
  have y4 : Ext w2 w4 := x3.trans x4
  refine (Find_v p L one w4 hV y4).mono ?_
  rintro _ w5 ⟨x5, cf, rfl, hf⟩
  have hh5 := hh4.ext x5
  have z5 := x5.size
  generalize hZ : getI L one = Z at *
  generalize hbz : (findI L one).isSome = bz at *
  obtain ⟨ctV, cvV, raV, rcV, rfl, htyV, hvlV, hruV, hrlV, hokV⟩ := hf; obtain ⟨kVt, nVt, sVt, lsVt, tsVt, laVt, lcVt, taVt, tcVt, etyV, rfl, hkVt, hnVt, hsVt, hllVt, hltVt, hLVt, hTVt⟩ := htyV.inv; obtain ⟨kVv, nVv, sVv, lsVv, tsVv, laVv, lcVv, taVv, tcVv, evlV, rfl, hkVv, hnVv, hsVv, hllVv, hltVv, hLVv, hTVv⟩ := hvlV.inv
  refine Lands.ret (s := .t [.a [.v (.int .u8 Z.kind), .v (.string Z.name), .v (.int .i64 Z.params), .v (.int .u8 kVt), .v (.int .i64 nVt), .v (.string sVt), .v (.slice laVt lsVt.length lcVt), .v (.slice taVt tsVt.length tcVt), .v (.int .u8 kVv), .v (.int .i64 nVv), .v (.string sVv), .v (.slice laVv lsVv.length lcVv), .v (.slice taVv tsVv.length tcVv), .v (.int .i64 Z.height), .v (.string Z.block), .v (.string Z.of_), .v (.int .i64 Z.fixed), .v (.int .i64 Z.index), .v (.int .i64 Z.no), .v (.int .i64 Z.fields), .v (.int .i64 Z.motives), .v (.int .i64 Z.minors), .v (.slice raV Z.rules.length rcV), .v (.int .i64 Z.ctors), .v (.bool Z.record)], .v (.bool bz)]) rfl rfl hh5 ?_
  intro g6 w6 e6 x6 z6 hh6; intro w7 m7 z7 hh7; replace m7 : Upd g6 w6 w7 := m7; have x7 : Ext w5 w7 := x6.upd m7 (by omega); have q7 := x7.size
  have y7 : Ext w2 w7 := y4.trans (x5.trans x7)
  have x47 : Ext w4 w7 := x5.trans x7
  have y07 : Ext w w7 := x1.trans (x2.trans y7)
  have hrl : r.length ≤ 4096 := by
    have := nodup_len SR.1.nodup fun q hq => findI_nm ((SR.2 q).1 hq).there
    rw [List.length_map] at this
    have := hV.few
    omega
  refine Or.inl (And.intro (fun h => ?_) (fun h => ?_))
  · have hno : bz = false := by simpa using h
    have hr : r = [] := set_nil SR fun q hq => by
      induction hq with
      | base h1 h2 => rw [List.mem_singleton.1 h1, hbz, hno] at h2; cases h2
      | step _ _ _ ih => exact ih
    subst hr
    refine Or.inl (Exists.intro (.bool true) (And.intro (fun _ => works9_runs w7) (fun w8 x8 hh8 => ?_)))
    exact ⟨rfl, y07.trans x8⟩
  have hth : bz = true := by simpa using h
  rw [hth] at hbz
  clear h
  refine vcV (Uses_runs p L one w7 (hV.ext y7) t1) hh7 fun v8 w8 x8 z8 hh8 p8 => ?_
  obtain ⟨Au, cu, u, rfl, oU, SU⟩ := p8
  have y8 := y7.trans x8
  have hul : u.length ≤ 70000000 := Nat.le_trans (nodup_len SU.1.nodup fun q hq => (SU.2 q).1 hq) (uses_len (hV.rls one) hV.few)
  refine vcV (Rests_runs p L _ cu u w8 (hV.ext y8) oU.sl (fun k hk => hk.2) hul) hh8 fun v9 w9 x9 z9 hh9 p9 => ?_
  obtain ⟨Aq, cq, rq, rfl, oQ, SQ⟩ := p9
  have y9 := y8.trans x9
  have hql : rq.length ≤ 4096 := by
    have := nodup_len SQ.1.nodup fun q hq => findI_nm ((SQ.2 q).1 hq).there
    rw [List.length_map] at this
    have := hV.few
    omega
  refine vcV (With9_runs Aq rq cq one w9 oQ.sl (fun k hk => hk.2) oQ.le (by omega) t1) hh9 fun v10 w10 x10 z10 hh10 p10 => ?_
  obtain ⟨Aw, cw, rfl, hcw, sW⟩ := p10
  have y10 := y9.trans x10
  have hrw : withB rq one = r := by
    have h1 := withB_law SQ.1 one
    refine SetL.unique (S := fun q => q ∈ withB rq one) ⟨h1.1, fun _ => Iff.rfl⟩ SR fun q => ?_
    rw [h1.2 q, SQ.2 q]
    exact (rch_with hbz SU.2 q).symm
  rw [hrw] at sW hcw ⊢
  refine vcZ (Same9_runs Ar Aw cr cw r r w10 (oR.ext (x47.trans (x8.trans (x9.trans x10)))).sl sW oR.le hcw) hh10 fun w11 x11 z11 hh11 => ?_
  rw [decide_eq_true rfl]
  have hun : hasB u one = false := by
    cases hq : hasB u one with
    | false => rfl
    | true => exact (uses_self ((SU.2 one).1 (hasB_iff.1 hq))).elim
  refine Or.inl (Exists.intro (.bool false) (And.intro (fun _ => (Has_runs Au u cu one w11 (oU.ext (x9.trans (x10.trans x11))).sl oU.le).mono fun v w' h => ⟨by rw [h.1, hun], h.2⟩) (fun w12 x12 hh12 => ?_)))
  refine Or.inl (And.intro (fun hx => nomatch (rfl).symm.trans hx) (fun _ => ?_))
  have y12 := y10.trans (x11.trans x12)
  refine OpT.buildE (E := encS) (R := (fun _ => False)) (vs := [_, _]) (l := [one, two]) Tryz.zeroValue9 (.cons rfl (.cons rfl (.nil))) Tryz.underlying28 Tryz.sizeOf9 rfl rfl (Reps.cons (⟨rfl, t1⟩) (Reps.cons (⟨rfl, t2⟩) (Reps.nil _ _ _))) rfl rfl hh12 fun w13 g13 e13 x13 z13 o13 hh13 => ?_
  refine vcV (Rests_runs p L _ 2 [one, two] w13 (hV.ext (y12.trans x13)) o13.sl (fun k hk => hk.2) (by simp)) hh13 fun v14 w14 x14 z14 hh14 p14 => ?_
  obtain ⟨Am, cm, mr, rfl, oM, SM⟩ := p14
  have y14 := y12.trans (x13.trans x14)
  have y4r : ∀ {w' : World}, Ext w14 w' → OwnE encS w' w3.heap.size 9 (fun _ => False) Ar cr r := fun h => oR.ext ((x47.trans (x8.trans (x9.trans (x10.trans (x11.trans (x12.trans (x13.trans x14))))))).trans h)
  have hmo : ∀ q ∈ r, hasB mr q = true := fun q hq => hasB_iff.2 ((SM.2 q).2 (((SR.2 q).1 hq).mono fun s hs => by rw [List.mem_singleton.1 hs]; exact List.mem_cons_self ..))
  have hcr := oR.le
  refine vLoop_upd (σ := Nat) [6, 16, 17, 18, 19, 89, 90, 91, 92, 93, 94, 95, 96, 97, 98, 99, 100, 101, 102, 103, 104, 105, 106, 107, 108, 109, 110, 111, 112, 113, 114, 115, 116, 117, 118, 119, 120, 121, 122, 123, 124, 125, 126, 127, 128, 129, 130, 131, 132, 133, 134, 135, 136] (fun i => [(16, .v (.bool ((r.take i).any fun q => decide ((getI L q).kind = 3)))), (17, .v (.int .i64 i))]) [] (fun _ => [])
    (fun i w' => Ext w14 w' ∧ i ≤ r.length) (fun i => r.length - i) 0 (fun _ => ⟨rfl, rfl⟩)
    ⟨(by repeat (first | exact trivial | refine And.intro rfl ?_)), (by repeat (first | exact trivial | refine And.intro rfl ?_)), (by repeat (first | exact trivial | refine And.intro rfl ?_)), (by repeat (first | exact trivial | refine And.intro rfl ?_)), Ext.refl _, Nat.zero_le _⟩ ?_
  rintro i w15 hh15 ⟨x15, hi⟩
  refine Or.inl (And.intro (fun h => ?_) (fun h => ?_))
  · have hil : i < r.length := by have := of_decide_eq_true h; omega
    obtain ⟨a1, cs1, ha1, hRa1, hrow, rfl, hsz1⟩ := (y4r x15).sl.at hil
    have htk := take_snoc' _ hil
    have hmem : r[i] ∈ r := List.getElem_mem hil
    have hth1 : (findI L r[i]).isSome = true := ((SR.2 _).1 hmem).there
    have hhas := hmo _ hmem
    have hord : ∀ k, i = k + 1 → ∃ (hk : k < r.length), r[k].data.toList < r[i].data.toList := fun k hk => ⟨by omega, List.pairwise_iff_getElem.1 SR.1 k i (by omega) hil (by omega)⟩
    generalize r[i] = q at *
    refine OpT.indexAddr Tryz.underlying28 Tryz.sizeOf9 rfl rfl ha1 (by first | omega | (simp only [lenOk] at *; omega)) ?_; refine Lands.v hh15 ?_
    refine OpT.load Tryz.isAgg9 rfl (hrow.cell 0 rfl) ?_; refine Lands.v hh15 ?_
    refine (Find_v p L q w15 hV (y14.trans x15)).mono ?_
    rintro _ w16 ⟨x16, cg, rfl, hg⟩
    rw [hth1]
    have hh16 := hh15.ext x16
    have z16 := x16.size
    generalize hQ : getI L q = Q at *
    obtain ⟨ctQ, cvQ, raQ, rcQ, rfl, htyQ, hvlQ, hruQ, hrlQ, hokQ⟩ := hg; obtain ⟨kQt, nQt, sQt, lsQt, tsQt, laQt, lcQt, taQt, tcQt, etyQ, rfl, hkQt, hnQt, hsQt, hllQt, hltQt, hLQt, hTQt⟩ := htyQ.inv; obtain ⟨kQv, nQv, sQv, lsQv, tsQv, laQv, lcQv, taQv, tcQv, evlQ, rfl, hkQv, hnQv, hsQv, hllQv, hltQv, hLQv, hTQv⟩ := hvlQ.inv
    refine Lands.ret (s := .t [.a [.v (.int .u8 Q.kind), .v (.string Q.name), .v (.int .i64 Q.params), .v (.int .u8 kQt), .v (.int .i64 nQt), .v (.string sQt), .v (.slice laQt lsQt.length lcQt), .v (.slice taQt tsQt.length tcQt), .v (.int .u8 kQv), .v (.int .i64 nQv), .v (.string sQv), .v (.slice laQv lsQv.length lcQv), .v (.slice taQv tsQv.length tcQv), .v (.int .i64 Q.height), .v (.string Q.block), .v (.string Q.of_), .v (.int .i64 Q.fixed), .v (.int .i64 Q.index), .v (.int .i64 Q.no), .v (.int .i64 Q.fields), .v (.int .i64 Q.motives), .v (.int .i64 Q.minors), .v (.slice raQ Q.rules.length rcQ), .v (.int .i64 Q.ctors), .v (.bool Q.record)], .v (.bool true)]) rfl rfl hh16 ?_
    intro g17 w17 e17 x17 z17 hh17; intro w18 m18 z18 hh18; replace m18 : Upd g17 w17 w18 := m18; have x18 : Ext w16 w18 := x17.upd m18 (by omega); have q18 := x18.size
    have x1518 := x16.trans x18
    have z1518 := x1518.size
    have hany : (r.take (i + 1)).any (fun q => decide ((getI L q).kind = 3)) = sel ((r.take i).any fun q => decide ((getI L q).kind = 3)) true (decide (Q.kind = 3)) := by
      rw [htk, List.any_append]
      simp only [List.any_cons, List.any_nil, Bool.or_false, hQ]
      cases (r.take i).any fun q => decide ((getI L q).kind = 3) <;> rfl
    generalize (r.take i).any (fun q => decide ((getI L q).kind = 3)) = th at *
    cases i with
    | zero =>
      refine vDrw_mk [8] (.one 0 (.one 1 (.one 2 (.one 3 (.one 4 (.one 5 (.one 6 (.one 7 (.one 8 (.one 9 (.one 10 (.one 11 (.one 12 (.one 13 (.one 14 (.one 15 (.one 16 (.one 17 (.one 18 (.one 19 (.one 20 (.one 21 (.one 22 (.one 23 (.one 24 (.one 25 (.one 26 .nil))))))))))))))))))))))))))) rfl fun w19 x19 hh19 => ?_
      have x1519 := x1518.trans x19
      refine Exists.intro (.v (.pointer (some (a1.add (0 * 1))))) (And.intro rfl (And.intro (fun w' xx hh _ => OpT.indexAddr Tryz.underlying28 Tryz.sizeOf9 rfl rfl ha1 (by omega) ⟨rfl, rfl⟩) ?_))
      refine Exists.intro (.v (.string q)) (And.intro rfl (And.intro (fun w' xx hh _ => OpT.load Tryz.isAgg9 rfl ((hrow.ext (x1519.trans xx)).cell 0 rfl) ⟨rfl, rfl⟩) ?_))
      refine Or.inl (Exists.intro (.bool true) (And.intro (fun _ => (Has_runs Am mr cm q w19 (oM.ext (x15.trans x1519)).sl oM.le).mono fun v w' h => ⟨by rw [h.1, hhas], h.2⟩) (fun w20 x20 hh20 => ?_)))
      refine And.intro (fun _ h => absurd h (by decide)) ?_
      refine Exists.intro (.v (.pointer none)) (And.intro rfl (And.intro (fun w' xx hh _ h => absurd h (by decide)) ?_))
      refine Exists.intro (.v (.string q)) (And.intro rfl (And.intro (fun w' xx hh _ h => absurd h (by decide)) ?_))
      refine Exists.intro (.v (.pointer none)) (And.intro rfl (And.intro (fun w' xx hh _ h => absurd h (by decide)) ?_))
      refine Exists.intro (.v (.string q)) (And.intro rfl (And.intro (fun w' xx hh _ h => absurd h (by decide)) ?_))
      refine Or.inl (And.intro (fun hx => nomatch ((show _ = false from by simp [sel])).symm.trans hx) (fun _ => ?_))
      refine vsd (by simp only [inKind]; omega) ?_
      exact Exists.intro (0 + 1) ⟨by omega, esub_over ⟨by rw [hany]; rfl, rfl, trivial⟩ (by repeat (first | exact trivial | refine And.intro rfl ?_)), hsub_over (by repeat (first | exact trivial | refine And.intro rfl ?_)) (by repeat (first | exact trivial | refine And.intro rfl ?_)), x15.trans (x1519.trans x20), hil⟩
    | succ k =>
      obtain ⟨hk, hlt⟩ := hord k rfl
      obtain ⟨a2, cs2, ha2, _, hrow2, rfl, hsz2⟩ := (y4r x15).sl.at hk
      generalize r[k] = qp at *
      have hbl : Op.bytesLess qp.toList q.toList = true := (lt8_iff qp q).2 hlt
      refine vDrw_mk [8] (.one 0 (.one 1 (.one 2 (.one 3 (.one 4 (.one 5 (.one 6 (.one 7 (.one 8 (.one 9 (.one 10 (.one 11 (.one 12 (.one 13 (.one 14 (.one 15 (.one 16 (.one 17 (.one 18 (.one 19 (.one 20 (.one 21 (.one 22 (.one 23 (.one 24 (.one 25 (.one 26 .nil))))))))))))))))))))))))))) rfl fun w19 x19 hh19 => ?_
      have x1519 := x1518.trans x19
      refine Exists.intro (.v (.pointer (some (a1.add ((k + 1) * 1))))) (And.intro rfl (And.intro (fun w' xx hh _ => OpT.indexAddr Tryz.underlying28 Tryz.sizeOf9 rfl rfl ha1 (by omega) ⟨rfl, rfl⟩) ?_))
      refine Exists.intro (.v (.string q)) (And.intro rfl (And.intro (fun w' xx hh _ => OpT.load Tryz.isAgg9 rfl ((hrow.ext (x1519.trans xx)).cell 0 rfl) ⟨rfl, rfl⟩) ?_))
      refine Or.inl (Exists.intro (.bool true) (And.intro (fun _ => (Has_runs Am mr cm q w19 (oM.ext (x15.trans x1519)).sl oM.le).mono fun v w' h => ⟨by rw [h.1, hhas], h.2⟩) (fun w20 x20 hh20 => ?_)))
      refine And.intro (fun _ _ => by simp only [inKind]; omega) ?_
      refine Exists.intro (.v (.pointer (some (a2.add (k * 1))))) (And.intro rfl (And.intro (fun w' xx hh _ _ => OpT.indexAddr Tryz.underlying28 Tryz.sizeOf9 rfl rfl ha2 (by omega) ⟨by congr 4; omega, rfl⟩) ?_))
      refine Exists.intro (.v (.string qp)) (And.intro rfl (And.intro (fun w' xx hh _ _ => OpT.load Tryz.isAgg9 rfl ((hrow2.ext (x1519.trans (x20.trans xx))).cell 0 rfl) ⟨rfl, rfl⟩) ?_))
      refine Exists.intro (.v (.pointer (some (a1.add ((k + 1) * 1))))) (And.intro rfl (And.intro (fun w' xx hh _ _ => OpT.indexAddr Tryz.underlying28 Tryz.sizeOf9 rfl rfl ha1 (by omega) ⟨rfl, rfl⟩) ?_))
      refine Exists.intro (.v (.string q)) (And.intro rfl (And.intro (fun w' xx hh _ _ => OpT.load Tryz.isAgg9 rfl ((hrow.ext (x1519.trans (x20.trans xx))).cell 0 rfl) ⟨rfl, rfl⟩) ?_))
      refine Or.inl (And.intro (fun hx => nomatch ((show _ = false from by rw [hbl]; cases decide (0 < ((k + 1 : Nat) : Int)) <;> rfl)).symm.trans hx) (fun _ => ?_))
      refine vsd (by simp only [inKind]; omega) ?_
      exact Exists.intro (k + 1 + 1) ⟨by omega, esub_over ⟨by rw [hany]; rfl, rfl, trivial⟩ (by repeat (first | exact trivial | refine And.intro rfl ?_)), hsub_over (by repeat (first | exact trivial | refine And.intro rfl ?_)) (by repeat (first | exact trivial | refine And.intro rfl ?_)), x15.trans (x1519.trans x20), hil⟩
  obtain rfl : i = r.length := by have := of_decide_eq_false h; omega
  rw [List.take_length]
  clear h hi
  generalize hany : r.any (fun q => decide ((getI L q).kind = 3)) = th at *
  intro g16 w16 e16 x16 z16 hh16; intro w17 m17 z17 hh17; replace m17 : Upd g16 w16 w17 := m17; have x17 : Ext w15 w17 := x16.upd m17 (by omega); have q17 := x17.size
  have y17 : Ext w2 w17 := y14.trans (x15.trans x17)
  refine vcV (Of_runs p L (tC one) _ w17 (hV.ext y17) (tC_rep one (by omega) w17 (fun _ => False))) hh17 fun v18 w18 x18 z18 hh18 p18 => ?_
  obtain ⟨A18, c18, la, rfl, oA, SA⟩ := p18
  have y18 := y17.trans x18
  refine vcV (Opaque_runs p L (tC one) _ w18 (hV.ext y18) (tC_rep one (by omega) w18 (fun _ => False))) hh18 fun v19 w19 x19 z19 hh19 p19 => ?_
  obtain ⟨A19, c19, lb, rfl, oB, SB⟩ := p19
  have y19 := y18.trans x19
  have hsub : ∀ {op : Bool} {q : ByteArray}, Rch L op (nms (tC one)) q → Rch L op [one] q := fun h => h.mono fun s hs => by rw [nms_one hs]; exact List.mem_cons_self ..
  have hb1 : ∀ q ∈ axF L lb, hasB (axF L la) q = true := fun q hq => by
    obtain ⟨h1, h2⟩ := List.mem_filter.1 hq
    exact hasB_iff.2 (List.mem_filter.2 ⟨(SA.2 q).2 (rch_op ((SB.2 q).1 h1)), h2⟩)
  have hb2 : ∀ q ∈ axF L la, (getI L q).kind = 1 ∧ hasB r q = true := fun q hq => by
    obtain ⟨h1, h2⟩ := List.mem_filter.1 hq
    exact ⟨of_decide_eq_true h2, hasB_iff.2 ((SR.2 q).2 (hsub ((SA.2 q).1 h1)))⟩
  have hb3 : th = false → axF L la = axF L lb := fun ht => by
    rw [SA.unique SB fun q => rch_no fun u hu h3 => ?_]
    rw [ht] at hany
    have := List.any_eq_false.1 hany u ((SR.2 u).2 (hsub hu))
    exact this (decide_eq_true h3)
  generalize axF L la = xa at *
  generalize axF L lb = xb at *
  have hxa := oA.le
  have hxb := oB.le
  refine vLoop_upd (σ := Nat) [6, 23, 145, 146, 147, 148, 149, 150, 151, 152, 153, 154, 155, 156, 157] (fun i => [(23, .v (.int .i64 i))]) [] (fun _ => []) (fun i w' => Ext w19 w' ∧ i ≤ xb.length) (fun i => xb.length - i) 0 (fun _ => ⟨rfl, rfl⟩)
    ⟨(by repeat (first | exact trivial | refine And.intro rfl ?_)), (by repeat (first | exact trivial | refine And.intro rfl ?_)), (by repeat (first | exact trivial | refine And.intro rfl ?_)), (by repeat (first | exact trivial | refine And.intro rfl ?_)), Ext.refl _, Nat.zero_le _⟩ ?_
  rintro i w20 hh20 ⟨x20, hi⟩
  refine Or.inl (And.intro (fun h => ?_) (fun h => ?_))
  · have hil : i < xb.length := by have := of_decide_eq_true h; omega
    obtain ⟨a1, cs1, ha1, hRa1, hrow, rfl, hsz1⟩ := (oB.ext x20).sl.at hil
    have hhas := hb1 _ (List.getElem_mem hil)
    generalize xb[i] = q at *
    refine OpT.indexAddr Tryz.underlying28 Tryz.sizeOf9 rfl rfl ha1 (by first | omega | (simp only [lenOk] at *; omega)) ?_; refine Lands.v hh20 ?_
    refine OpT.load Tryz.isAgg9 rfl (hrow.cell 0 rfl) ?_; refine Lands.v hh20 ?_
    refine vcZ (Has_runs A18 xa c18 q w20 (oA.ext (x19.trans x20)).sl oA.le) hh20 fun w21 x21 z21 hh21 => ?_
    rw [hhas]
    refine Or.inl (And.intro (fun hx => nomatch (rfl).symm.trans hx) (fun _ => ?_))
    refine vsd (by simp only [inKind]; omega) ?_
    exact Exists.intro (i + 1) ⟨by omega, esub_over (by repeat (first | exact trivial | refine And.intro rfl ?_)) (by repeat (first | exact trivial | refine And.intro rfl ?_)), hsub_over (by repeat (first | exact trivial | refine And.intro rfl ?_)) (by repeat (first | exact trivial | refine And.intro rfl ?_)), x20.trans x21, hil⟩
  clear h hi
  have y20 := y19.trans x20
  have y4r' : ∀ (w' : World), Ext w20 w' → OwnE encS w' w3.heap.size 9 (fun _ => False) Ar cr r := fun w' h => y4r (x15.trans (x17.trans (x18.trans (x19.trans (x20.trans h)))))
  refine vLoop_upd (σ := Nat) [6, 24, 25, 26, 158, 159, 160, 161, 162, 163, 164, 165, 166, 167, 168, 169, 170, 171, 172, 173, 174, 175, 176, 177, 178, 179, 180, 181, 182, 183, 184] (fun i => [(24, .v (.int .i64 i))]) [] (fun _ => []) (fun i w' => Ext w20 w' ∧ i ≤ xa.length) (fun i => xa.length - i) 0 (fun _ => ⟨rfl, rfl⟩)
    ⟨(by repeat (first | exact trivial | refine And.intro rfl ?_)), (by repeat (first | exact trivial | refine And.intro rfl ?_)), (by repeat (first | exact trivial | refine And.intro rfl ?_)), (by repeat (first | exact trivial | refine And.intro rfl ?_)), Ext.refl _, Nat.zero_le _⟩ ?_
  rintro i w21 hh21 ⟨x21, hi⟩
  have xA : Ext w18 w21 := x19.trans (x20.trans x21)
  refine Or.inl (And.intro (fun h => ?_) (fun h => ?_))
  · have hil : i < xa.length := by have := of_decide_eq_true h; omega
    obtain ⟨a1, cs1, ha1, hRa1, hrow, rfl, hsz1⟩ := (oA.ext xA).sl.at hil
    obtain ⟨hkd, hhas⟩ := hb2 _ (List.getElem_mem hil)
    generalize xa[i] = q at *
    refine OpT.indexAddr Tryz.underlying28 Tryz.sizeOf9 rfl rfl ha1 (by first | omega | (simp only [lenOk] at *; omega)) ?_; refine Lands.v hh21 ?_
    refine OpT.load Tryz.isAgg9 rfl (hrow.cell 0 rfl) ?_; refine Lands.v hh21 ?_
    refine (Find_v p L q w21 hV (y20.trans x21)).mono ?_
    rintro _ w22 ⟨x22, cg, rfl, hg⟩
    have hh22 := hh21.ext x22
    have z22 := x22.size
    generalize hQ : getI L q = Q at *
    generalize (findI L q).isSome = bq at *
    obtain ⟨ctQ, cvQ, raQ, rcQ, rfl, htyQ, hvlQ, hruQ, hrlQ, hokQ⟩ := hg; obtain ⟨kQt, nQt, sQt, lsQt, tsQt, laQt, lcQt, taQt, tcQt, etyQ, rfl, hkQt, hnQt, hsQt, hllQt, hltQt, hLQt, hTQt⟩ := htyQ.inv; obtain ⟨kQv, nQv, sQv, lsQv, tsQv, laQv, lcQv, taQv, tcQv, evlQ, rfl, hkQv, hnQv, hsQv, hllQv, hltQv, hLQv, hTQv⟩ := hvlQ.inv
    refine Lands.ret (s := .t [.a [.v (.int .u8 Q.kind), .v (.string Q.name), .v (.int .i64 Q.params), .v (.int .u8 kQt), .v (.int .i64 nQt), .v (.string sQt), .v (.slice laQt lsQt.length lcQt), .v (.slice taQt tsQt.length tcQt), .v (.int .u8 kQv), .v (.int .i64 nQv), .v (.string sQv), .v (.slice laQv lsQv.length lcQv), .v (.slice taQv tsQv.length tcQv), .v (.int .i64 Q.height), .v (.string Q.block), .v (.string Q.of_), .v (.int .i64 Q.fixed), .v (.int .i64 Q.index), .v (.int .i64 Q.no), .v (.int .i64 Q.fields), .v (.int .i64 Q.motives), .v (.int .i64 Q.minors), .v (.slice raQ Q.rules.length rcQ), .v (.int .i64 Q.ctors), .v (.bool Q.record)], .v (.bool bq)]) rfl rfl hh22 ?_
    intro g23 w23 e23 x23 z23 hh23; intro w24 m24 z24 hh24; replace m24 : Upd g23 w23 w24 := m24; have x24 : Ext w22 w24 := x23.upd m24 (by omega); have q24 := x24.size
    have x2124 := x22.trans x24
    refine vyes (by rw [hkd]; rfl) ?_
    refine OpT.indexAddr Tryz.underlying28 Tryz.sizeOf9 rfl rfl ha1 (by first | omega | (simp only [lenOk] at *; omega)) ?_; refine Lands.v hh24 ?_
    refine vyes (by rw [hkd]; rfl) ?_
    refine OpT.load Tryz.isAgg9 rfl ((hrow.ext x2124).cell 0 rfl) ?_
    refine Lands.v hh24 ?_
    refine Or.inl (Exists.intro (.bool true) (And.intro (fun _ => (Has_runs Ar r cr q w24 (y4r' _ (x21.trans x2124)).sl oR.le).mono fun v w' h => ⟨by rw [h.1, hhas], h.2⟩) (fun w25 x25 hh25 => ?_)))
    refine Or.inl (And.intro (fun hx => nomatch ((show _ = false from by rw [hkd]; rfl)).symm.trans hx) (fun _ => ?_))
    refine vsd (by simp only [inKind]; omega) ?_
    exact Exists.intro (i + 1) ⟨by omega, esub_over (by repeat (first | exact trivial | refine And.intro rfl ?_)) (by repeat (first | exact trivial | refine And.intro rfl ?_)), hsub_over (by repeat (first | exact trivial | refine And.intro rfl ?_)) (by repeat (first | exact trivial | refine And.intro rfl ?_)), x21.trans (x2124.trans x25), hil⟩
  clear h hi
  have yf : Ext w w21 := x1.trans (x2.trans (y20.trans x21))
  cases th with
  | true =>
    refine vskip rfl ?_
    refine OpT.pickT rfl rfl rfl ?_
    refine Lands.v hh21 ?_
    refine Or.inl (Exists.intro (.bool true) (And.intro (fun _ => works9_runs w21) (fun w22 x22 hh22 => ?_)))
    exact ⟨rfl, yf.trans x22⟩
  | false =>
    have hx := hb3 rfl
    subst hx
    refine Or.inl (Exists.intro (.bool true) (And.intro (fun _ => Same9_eq w21 oA xA oB (x20.trans x21)) (fun w22 x22 hh22 => ?_)))
    refine Or.inl (Exists.intro (.bool true) (And.intro (fun _ => works9_runs w22) (fun w23 x23 hh23 => ?_)))
    exact ⟨rfl, yf.trans (x22.trans x23)⟩
end Go.Proofs.YtfljbnhhkdaobaaGreat

/-
  The row of AxiomsRests: true for every input.
-/
namespace Go.Proofs.YtfljbnhhkdaobaaGreat
open Go Go.ChangeMaps Go.ChangeShapes Go.WideShapes Go.ChangeAt Go.RowKit Go.Proofs.Bw
theorem Tryz.own : ownKnob Tryz.prog.godebug = none := by kernel_rfl
theorem Tryz.laidOut : laidOutB Tryz.prog = true := by kernel_rfl
set_option maxRecDepth 100000 in
theorem rests9_lifted (os : Os) (started : os.Started) (H : Type) (enc : TypeId × Value → H) :
    ReturnsInHanded {} Tryz.checked os 5 .any (Rows.axiomsRestsSpec.pre6 enc Tryz.prog Tryz.f5 Rows.axiomsRestsRow.domain false) (Rows.axiomsRestsSpec.post enc Tryz.prog Tryz.f5 false true false false) := by
  refine returnsInHanded_of_change_sized (C := Tryz.checked) Tryz.own started (by kernel_rfl) Tryz.func5
    (ChangeSpec.witness6 (enc := enc) (C := Tryz.checked) false ⟨#[], #[.slice none 0 0, .string ⟨#[]⟩, .string ⟨#[]⟩], []⟩ 8 (by kernel_rfl) (by kernel_rfl) (by kernel_rfl) (by kernel_rfl)) ?_
  intro W base args ds gs before hval0 hW hcnd hsz0 _
  have hval : ∀ (j : Nat) t v, Tryz.f5.params[j]? = some t → args[j]? = some v → Value.okWide Tryz.prog W .any base t v := hval0
  have hW' := hW
  obtain ⟨p, q, hA0, hV, rfl, hfz, hnd⟩ := hW
  have hA : DataW.TrodAll enc Tryz.prog W 0 (fun _ => true) true Tryz.f5.params.toList args.toList ds p := hA0
  have hsz : (DataW.weightsEach Tryz.prog (Tryz.f5.params.toList ++ Rows.axiomsRestsSpec.plain.varTypes Tryz.prog) (ds ++ gs)).all (· ≤ reachBytes) = true := hsz0
  rw [Tryz.params5] at hA hval hsz
  obtain ⟨v0, v1, v2, d0, d1, d2, p0, p1, p2, rfl, rfl, rfl, h0, h1, h2⟩ := trodAll_three hA
  obtain ⟨rfl, rfl⟩ := trodVars_none hV
  obtain ⟨A0, len0, cap0, rfl⟩ := okWide_slice Tryz.underlying22 (hval 0 22 v0 rfl rfl)
  obtain ⟨x1, rfl, rfl, rfl, w1⟩ := open_string Tryz.underlying9 (hval 1 9 v1 rfl rfl) h1
  obtain ⟨x2, rfl, rfl, rfl, w2⟩ := open_string Tryz.underlying9 (hval 2 9 v2 rfl rfl) h2
  clear hA0 hval0
  have hlt := hW'.lt
  obtain ⟨fu0, k0⟩ := h0
  obtain ⟨A', ts0, c, e1, hl0, hS0⟩ := open_SI k0
  simp only [Value.cells, List.cons.injEq, Value.slice.injEq, and_true] at e1
  obtain ⟨rfl, rfl, rfl⟩ := e1
  have hsl1 : x1.size ≤ 140737488355328 := by
    have := sized_string hsz (j := 1) (t := 9) (bytes := x1.data.toList) rfl rfl
    have h47 := reachBytes_lt
    have hsz' : x1.data.toList.length = x1.size := rfl
    omega
  have hsl2 : x2.size ≤ 140737488355328 := by
    have := sized_string hsz (j := 2) (t := 9) (bytes := x2.data.toList) rfl rfl
    have h47 := reachBytes_lt
    have hsz' : x2.data.toList.length = x2.size := rfl
    omega
  refine Calls.mono (rests9_runs A0 ts0 cap0 x1 x2 W hS0 hl0) ?_
  rintro e W' ⟨v, rfl, rfl, hx⟩
  have hb := hx.below
  refine ⟨_, rfl, _, _, _, [], _, [], hW', trodAll_mk1 (shut_bool Tryz.underlying4 true),
    trodAll_mk3 (Below.trod Tryz.laidOut (by kernel_rfl) (by decide +kernel) ⟨fu0, k0⟩ hb (fun x h => hlt x (by simp [h]))) (shut_string Tryz.underlying9 w1) (shut_string Tryz.underlying9 w2), rfl, hb.frame _, fun h => by cases h⟩
theorem rests9_holds : Rows.AxiomsRestsSaid :=
  OpenClaim.holds_of_wide 5 Tryz.f5 rfl rfl rfl rfl rfl rfl rfl ⟨rfl, rfl, rfl, rfl, rfl⟩ rfl rfl rfl rfl rfl (by kernel_rfl) Tryz.func5 (by kernel_rfl)
    (of_decide_eq_true (by kernel_rfl)) (by unfold Func.isWrapper; rw [if_neg (by decide +kernel)]; exact ⟨rfl, rfl⟩)
    (fun os started H enc _ => rests9_lifted os started H enc)
end Go.Proofs.YtfljbnhhkdaobaaGreat
