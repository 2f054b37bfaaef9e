/-
  Pairs by their constructor: the plain law.
-/
import Derived.Test.YtfljbnhhkdaobaaGreatB4
import Derived.Test.YtfljbnhhkdaobaaGreatB3g
import Derived.Test.YtfljbnhhkdaobaaGreatA8
import Derived.Test.YtfljbnhhkdaobaaGreatA9
import Derived.Test.YtfljbnhhkdaobaaGreatB6
import Derived.Test.YtfljbnhhkdaobaaGreatRows
import Derived.ProofKit
import Derived.SizedLaws
import Derived.ChangeMaps5
namespace Go.Proofs.YtfljbnhhkdaobaaGreat
open Go Go.RowKit Go.Proofs.Bw
set_option linter.unusedVariables false
set_option linter.unusedSimpArgs false
theorem pairS : (recdN SL sPair).isSome = true := by unfold SL smpL; rw [addAll_F]; decide +kernel
end Go.Proofs.YtfljbnhhkdaobaaGreat

/-
  What names become when more is added: the plain law.
-/
namespace Go.Proofs.YtfljbnhhkdaobaaGreat
open Go Go.RowKit Go.Proofs.Bw
set_option linter.unusedVariables false
set_option linter.unusedSimpArgs false
structure Grows (l l' : List Inf) : Prop where
  ap : ∃ m, l' = l ++ m
  nk : NOK l → NOK l'
theorem Grows.refl (l : List Inf) : Grows l l := ⟨⟨[], (List.append_nil l).symm⟩, id⟩
theorem badNums_one (l : List Inf) (x : Inf) : badNums (addOne l x) = badNums x := rfl
theorem add_good {l : List Inf} {x : Inf} (h : addE l [x] = 0) : badNums x = false := by
  have h := addE_one h
  unfold checkB at h
  split at h
  · cases h
  split at h
  · cases h
  · rename_i h1
    cases hq : badNums x with
    | false => rfl
    | true => exact absurd (.inr (.inr hq)) h1
theorem Grows.add {l l' : List Inf} (h : Grows l l') (x : Inf) : Grows l (addL l' [x]) := by
  by_cases ha : addE l' [x] = 0
  · rw [addL_one ha]
    obtain ⟨⟨m, rfl⟩, hn⟩ := h
    refine ⟨⟨m ++ [addOne (l ++ m) x], by rw [List.append_assoc]⟩, fun h y hy => ?_⟩
    rcases List.mem_append.1 hy with hy | hy
    · exact hn h y hy
    · rw [List.mem_singleton.1 hy]; show badNums (addOne (l ++ m) x) = false; rw [badNums_one]; exact add_good ha
  · rw [addL_no ha]; exact h
section
variable {l l' : List Inf} (hg : Grows l l')
include hg
theorem Grows.find {s : ByteArray} (h : (findI l s).isSome = true) : findI l' s = findI l s := by
  obtain ⟨m, rfl⟩ := hg.ap
  unfold findI at *
  rw [List.find?_append]
  cases hq : List.find? (fun x => decide (x.name = s)) l with
  | none => rw [hq] at h; cases h
  | some z => rfl
theorem Grows.get {s : ByteArray} (h : (findI l s).isSome = true) : getI l' s = getI l s := by unfold getI; rw [hg.find h]
variable {t u : T} (ht : T.k (head t) = 3 → (findI l (T.s' (head t))).isSome = true) (hu : T.k (head u) = 3 → (findI l (T.s' (head u))).isSome = true)
include ht
theorem Grows.recb : recB l' t = recB l t := by
  by_cases hk : T.k (head t) = 3
  · unfold recB recX
    rw [hg.find (ht hk), hg.get (ht hk)]
  · unfold recB
    rw [decide_eq_false hk]; rfl
theorem Grows.mad : madB l' t = madB l t := by
  by_cases hk : T.k (head t) = 3
  · unfold madB recX
    rw [hg.find (ht hk), hg.get (ht hk)]
  · unfold madB
    rw [decide_eq_false hk]; rfl
theorem Grows.at_ : atE l' (head t) = atE l (head t) ∧ atI l' (head t) = atI l (head t) := by
  by_cases hk : T.k (head t) = 3
  · unfold atE atI
    rw [hg.find (ht hk), hg.get (ht hk)]
    exact ⟨rfl, rfl⟩
  · have hb : atBad (head t) := .inl hk
    unfold atE atI
    rw [if_pos hb, if_pos hb, if_pos hb, if_pos hb]
    exact ⟨rfl, rfl⟩
theorem Grows.delta : delE l' t = delE l t ∧ delT l' t = delT l t := by
  obtain ⟨h1, h2⟩ := hg.at_ ht
  have e1 : valE l' (head t) = valE l (head t) := by unfold valE; rw [h1, h2]
  have e2 : valT l' (head t) = valT l (head t) := by unfold valT; rw [h1, h2]
  unfold delE delT
  rw [e1, e2]
  exact ⟨rfl, rfl⟩
include hu
theorem Grows.iota : iot l' t u = iot l t u := by
  unfold iot
  rw [hg.recb ht, hg.mad hu]
  by_cases hm : (mayT t && mayT u) = false
  · rw [if_pos hm, if_pos hm]
  by_cases hb : (recB l t && madB l u) = false
  · rw [if_neg hm, if_neg hm, if_pos hb, if_pos hb]
  have hb' : recB l t = true ∧ madB l u = true := by
    cases h1 : recB l t <;> cases h2 : madB l u <;> simp [h1, h2] at hb ⊢
  have k1 : T.k (head t) = 3 := by
    have := hb'.1
    unfold recB at this
    exact of_decide_eq_true ((Bool.and_eq_true _ _ ▸ this).1)
  have k2 : T.k (head u) = 3 := by
    have := hb'.2
    unfold madB at this
    exact of_decide_eq_true ((Bool.and_eq_true _ _ ▸ this).1)
  have e1 : recX l' t = recX l t := hg.get (ht k1)
  have e2 : recX l' u = recX l u := hg.get (hu k2)
  rw [if_neg hm, if_neg hm, if_neg hb, if_neg hb]
  unfold iotR iotL
  rw [e1, e2]
end
theorem find_congr {α : Type} {p q : α → Bool} : ∀ {l : List α}, (∀ x ∈ l, p x = q x) → l.find? p = l.find? q
  | [], _ => rfl
  | y :: l, h => by rw [List.find?_cons, List.find?_cons, h y (by simp), find_congr fun x hx => h x (by simp [hx])]
theorem findI_map {l : List Inf} {n : ByteArray} (h : n ∈ l.map (·.name)) : (findI l n).isSome = true := by
  obtain ⟨x, hx, rfl⟩ := List.mem_map.1 h
  unfold findI
  rw [List.find?_isSome]
  exact ⟨x, hx, decide_eq_true rfl⟩
theorem Grows.recd {l l' : List Inf} (hg : Grows l l') {s : ByteArray} (h : (recdN l s).isSome = true) : recdN l' s = recdN l s ∧ recdI l' s = recdI l s := by
  have hs : structB l s = true := by
    unfold recdN at h
    by_cases hs : structB l s = true
    · exact hs
    · rw [if_neg hs] at h; cases h
  have hf : (findI l s).isSome = true := by unfold structB at hs; exact (Bool.and_eq_true _ _ ▸ hs).1
  have hs' : structB l' s = true := by
    unfold structB at *
    rw [hg.find hf, hg.get hf]; exact hs
  have e : recdN l' s = recdN l s := by
    unfold recdN at *
    rw [if_pos hs] at h
    rw [if_pos hs, if_pos hs']
    obtain ⟨m, rfl⟩ := hg.ap
    rw [List.map_append, List.find?_append]
    have e1 : (l.map (·.name)).find? (ctorB (l ++ m) s) = (l.map (·.name)).find? (ctorB l s) := find_congr fun n hn => by
      unfold ctorB
      rw [hg.get (findI_map hn)]
    rw [e1]
    cases hq : (l.map (·.name)).find? (ctorB l s) with
    | none => rw [hq] at h; cases h
    | some n => rfl
  refine ⟨e, ?_⟩
  unfold recdI
  rw [e]
  cases hq : recdN l s with
  | none => rfl
  | some n =>
    have hn : n ∈ l.map (·.name) := by
      unfold recdN at hq
      rw [if_pos hs] at hq
      exact List.mem_of_find?_eq_some hq
    exact hg.get (findI_map hn)
theorem Grows.field {l l' : List Inf} (hg : Grows l l') {s : ByteArray} {t : T} (n : Int) (h : (recdN l s).isSome = true) (ht : T.k (head t) = 3 → (findI l (T.s' (head t))).isSome = true) : fieldB l' s n t = fieldB l s n t ∧ fieldT l' s n t = fieldT l s n t := by
  have e1 : fieldB l' s n t = fieldB l s n t := by
    unfold fieldB
    rw [(hg.recd h).1, hg.mad ht]
    by_cases hk : T.k (head t) = 3
    · rw [show recX l' t = recX l t from hg.get (ht hk)]
    · have : madB l t = false := by unfold madB; rw [decide_eq_false hk]; rfl
      rw [this]; simp
  refine ⟨e1, ?_⟩
  unfold fieldT
  rw [e1]
  by_cases hb : fieldB l s n t = true
  · have hm : madB l t = true := by
      unfold fieldB at hb
      simp only [Bool.and_eq_true] at hb
      exact hb.2.2.1
    have k1 : T.k (head t) = 3 := by
      unfold madB at hm
      exact of_decide_eq_true ((Bool.and_eq_true _ _ ▸ hm).1)
    rw [if_pos hb, if_pos hb, show recX l' t = recX l t from hg.get (ht k1)]
  · rw [if_neg hb, if_neg hb]
theorem head_names (t : T) : nodes t = true → T.k (head t) = 3 → (T.s' (head t)).data.toList ∈ names t := by
  induction t using T.ind with
  | h k n s ls ts ih =>
    intro hn hk
    by_cases h4 : k = 4
    · subst h4
      obtain ⟨f, x, rfl⟩ := node_app (nodes_mk hn).1
      rw [head_app] at hk ⊢
      have h2 := (nodes_mk hn).2
      simp only [nodess, Bool.and_eq_true] at h2
      have := ih f (by simp) h2.1 hk
      simp only [names, namess]
      exact List.mem_append.2 (.inr (List.mem_append.2 (.inl this)))
    · rw [head_no h4] at hk ⊢
      have h3 : k = 3 := hk
      subst h3
      have h2 := ((nodeB_iff _ _ _ _ _).1 (nodes_mk hn).1).2.2.2.1
      rw [if_pos (.inl rfl)] at h2
      have hs : s.size ≠ 0 := fun h0 => by
        unfold nameB at h2
        simp only [Bool.and_eq_true, decide_eq_true_eq] at h2
        omega
      simp only [names]
      refine List.mem_append.2 (.inl ?_)
      show s.data.toList ∈ nm1 s
      unfold nm1
      rw [if_neg hs]; simp
theorem head_there {L : List Inf} {t u : T} (ht : mayT t = true) (hu : mayT u = true) (h : ∀ s ∈ rnm (apT t [u]) [], (findI L s).isSome = true) :
    (T.k (head t) = 3 → (findI L (T.s' (head t))).isSome = true) ∧ (T.k (head u) = 3 → (findI L (T.s' (head u))).isSome = true) := by
  have hl := (rnm_law (apT t [u]) (l := []) List.Pairwise.nil).2
  have hN : names (apT t [u]) = nm1 ⟨#[]⟩ ++ (names t ++ (names u ++ [])) := by
    show names (tA t u) = _
    rw [tA]; simp only [names, namess]
  constructor
  · intro hk
    refine h _ ((hl _).2 (.inr ?_))
    rw [hN]
    exact List.mem_append.2 (.inr (List.mem_append.2 (.inl (head_names t (may_nodes ht) hk))))
  · intro hk
    refine h _ ((hl _).2 (.inr ?_))
    rw [hN]
    exact List.mem_append.2 (.inr (List.mem_append.2 (.inr (List.mem_append.2 (.inl (head_names u (may_nodes hu) hk))))))
end Go.Proofs.YtfljbnhhkdaobaaGreat

/-
  RulesLater.
-/
namespace Go.Proofs.YtfljbnhhkdaobaaGreat
open Go Go.RowKit Go.Proofs.Bw
set_option linter.unusedVariables false
set_option linter.unusedSimpArgs false
def envS (l : List Inf) (i : Nat) : List Inf := (l.take i).foldl (fun L x => addL L [x]) SL
theorem envS_succ (l : List Inf) (i : Nat) (h : i < l.length) : envS l (i + 1) = addL (envS l i) [l[i]] := by
  unfold envS; rw [List.take_succ_eq_append_getElem h, List.foldl_append]; rfl
set_option maxHeartbeats 8000000 in
set_option maxRecDepth 20000 in
theorem later8_runs {R0 R1 R2 : Nat → Prop} (A0 : Option Addr) (l : List Inf) (c0 : Nat) (t u : T) (ct cu : List Value) (w : World) (hl0 : Sl encInf w R0 A0 l) (hB : lenOk l.length c0) (vt : VT w R1 ct t) (vu : VT w R2 cu u) : Runs Tryz.prog 11 #[.slice A0 l.length c0, .agg ct.toArray, .agg cu.toArray] w fun v w' => v = .bool true ∧ Ext w w' := by
  have vt0 := vt.small.mono (R' := fun k => k < w.heap.size) fun k h => h.2
  have vu0 := vu.small.mono (R' := fun k => k < w.heap.size) fun k h => h.2
  have hl := hl0.small.mono (R' := fun k => k < w.heap.size) fun k h => h.2
  obtain ⟨kt, nt, st, lst, tst, lat, lct, tat, tct, et, rfl, hkt, hnt, hst, hllt, hltt, hLt, hTt⟩ := vt.inv
  obtain ⟨ku, nu, su, lsu, tsu, lau, lcu, tau, tcu, eu, rfl, hku, hnu, hsu, hllu, hltu, hLu, hTu⟩ := vu.inv
  refine Runs.of_vc (ρ := []) cx_ok [0, 1, 2, 4, 5, 6, 7, 8, 9, 10, 12, 13, 14, 15, 16, 17, 18, 19, 20, 21, 22, 23, 24, 25, 26, 27, 28, 29, 30, 51, 63, 67, 80, 109, 143, 152, 164] [.v _, .a [.v (.int .u8 kt), .v (.int .i64 nt), .v (.string st), .v (.slice lat lst.length lct), .v (.slice tat tst.length tct)], .a [.v (.int .u8 ku), .v (.int .i64 nu), .v (.string su), .v (.slice lau lsu.length lcu), .v (.slice tau tsu.length tcu)]] Tryz.func11 rfl rfl rfl (Holds.nil w) ?_
  intro g1 w1 e1 x1 z1 hh1
  intro g2 w2 e2 x2 z2 hh2
  have y2 := x1.trans x2
  refine vcZ (rDeep_runs t _ w2 _ (VT.ext vt0 y2)) hh2 fun w3 x3 z3 hh3 => ?_
  refine Or.inl (Exists.intro (.bool (isDeep u)) (And.intro (fun _ => rDeep_runs u _ w3 _ (VT.ext vu0 (y2.trans x3))) (fun w4 x4 hh4 => ?_)))
  have y4 := y2.trans (x3.trans x4)
  refine Or.inl (Exists.intro (.bool (mayT t)) (And.intro (fun _ => rMay_runs t _ w4 _ (VT.ext vt0 y4)) (fun w5 x5 hh5 => ?_)))
  refine Or.inl (Exists.intro (.bool (mayT u)) (And.intro (fun _ => rMay_runs u _ w5 _ (VT.ext vu0 (y4.trans x5))) (fun w6 x6 hh6 => ?_)))
  have y6 := y4.trans (x5.trans x6)
  have z6 := y6.size
  generalize isDeep t = d1 at *
  generalize isDeep u = d2 at *
  generalize hmt : mayT t = m1 at *
  generalize hmu : mayT u = m2 at *
  refine Or.inl (And.intro (fun h => ?_) (fun h => ?_))
  · refine vcZ (works8_runs w6) hh6 fun w7 x7 z7 hh7 => ?_
    exact ⟨rfl, y6.trans x7⟩
  have hg : m1 = true ∧ m2 = true ∧ l.length ≤ 30 := by
    cases d1 <;> cases d2 <;> cases m1 <;> cases m2 <;> simp [sel] at h ⊢
    omega
  obtain ⟨rfl, rfl, hlen⟩ := hg
  clear h
  refine OpT.buildE (E := encT) (R := (fun k => k < w.heap.size)) (vs := [_]) (l := [u]) Tryz.zeroValue33 (.cons rfl (.nil)) Tryz.underlying31 Tryz.sizeOf33 rfl rfl (Reps.cons (VT.ext vu0 y6) (Reps.nil _ _ _)) rfl rfl hh6 fun w7 g7 e7 x7 z7 o7 hh7 => ?_
  refine (A_r (R := fun k => k < w7.heap.size) t _ _ [u] 1 w7 ((VT.ext vt0 (y6.trans x7)).mono fun k h => by omega) (o7.sl.mono fun k hk => hk.2) (fun k h => h) (by simp [lenOk])).mono ?_
  rintro _ w8 ⟨x8, ca, rfl, ha⟩
  have hh8 := hh7.ext x8
  have z8 := x8.size
  have ha0 := ha
  obtain ⟨ka, na, sa, lsa, tsa, laa, lca, taa, tca, ea, rfl, hka, hna, hsa, hlla, hlta, hLa, hTa⟩ := ha.inv
  refine Lands.ret (s := .a [.v (.int .u8 ka), .v (.int .i64 na), .v (.string sa), .v (.slice laa lsa.length lca), .v (.slice taa tsa.length tca)]) rfl rfl hh8 ?_
  have hsz : size (apT t [u]) ≤ 1000000 := by
    have h1 := may_size hmt
    have h2 := may_size hmu
    show size (tA t u) ≤ _
    rw [tA]; simp only [size, sizes]; omega
  refine vcV (rNames0_runs (apT t [u]) _ w8 _ ha0 hsz) hh8 fun v9 w9 x9 z9 hh9 p9 => ?_
  obtain ⟨An, cn, rfl, hcn, hns⟩ := p9
  have hthere := head_there (L := SL) hmt hmu
  have hnlen := rnm_len (apT t [u]) []
  generalize rnm (apT t [u]) [] = ns at *
  have y9 := y6.trans (x7.trans (x8.trans x9))
  have z29 : w2.heap.size ≤ w9.heap.size := (x3.trans (x4.trans (x5.trans (x6.trans (x7.trans (x8.trans x9)))))).size
  refine (Sample_runs w9 (fun _ => False) (fun _ h => h.elim)).mono ?_
  rintro _ w10 ⟨x10, e, m, A, cap, rfl, hE10⟩
  have hh10 := hh9.ext x10
  have z10 := x10.size
  have y10 := y9.trans x10
  refine Lands.ret (s := .t [.v (.pointer (some ⟨e, 0, none⟩)), .v (.bool true)]) rfl rfl hh10 ?_
  refine Or.inl (And.intro (fun hx => nomatch (rfl).symm.trans hx) (fun _ => ?_))
  refine vLoop_upd (σ := Nat) [6, 10, 11, 12, 64, 65, 66, 67, 68, 69, 70, 71, 72, 73, 74, 75, 76, 77, 78, 79, 80, 81] (fun i => [(10, .v (.int .i64 i))]) [] (fun _ => []) (fun i w' => Ext w10 w' ∧ i ≤ ns.length ∧ ∀ s ∈ ns.take i, (findI SL s).isSome = true) (fun i => ns.length - i) 0 (fun _ => ⟨rfl, rfl⟩)
    ⟨(by repeat (first | exact trivial | refine And.intro rfl ?_)), (by repeat (first | exact trivial | refine And.intro rfl ?_)), (by repeat (first | exact trivial | refine And.intro rfl ?_)), (by repeat (first | exact trivial | refine And.intro rfl ?_)), Ext.refl _, Nat.zero_le _, fun s hs => by simp at hs⟩ ?_
  rintro i w11 hh11 ⟨x11, hi, hall⟩
  have z11 := x11.size
  refine Or.inl (And.intro (fun h => ?_) (fun h => ?_))
  · have hil : i < ns.length := by have := of_decide_eq_true h; omega
    have htk := List.take_succ_eq_append_getElem hil
    obtain ⟨a1, cs1, ha1, _, hrow, hv1⟩ := (hns.ext (x10.trans x11)).at hil
    generalize ns[i] = s at *
    obtain ⟨rfl, hs1⟩ := hv1
    have l1 := hcn.1
    have l2 := hcn.2
    refine OpT.indexAddr Tryz.underlying28 Tryz.sizeOf9 rfl rfl ha1 (by first | omega | (simp only [lenOk] at *; omega)) ?_; refine Lands.v hh11 ?_
    refine OpT.load Tryz.isAgg9 rfl (hrow.cell 0 rfl) ?_; refine Lands.v hh11 ?_
    refine (Find_x e m A cap SL s w11 (hE10.ext x11) (fun _ h => h.elim)).mono ?_
    rintro _ w12 ⟨x12, cf, rfl, hf⟩
    have hh12 := hh11.ext x12
    have z12 := x12.size
    generalize hfs : (findI SL s).isSome = is at *
    generalize getI SL s = F at *
    obtain ⟨ctF, cvF, raF, rcF, rfl, htyF, hvlF, hruF, hrlF, hokF⟩ := hf; obtain ⟨kFt, nFt, sFt, lsFt, tsFt, laFt, lcFt, taFt, tcFt, etyF, rfl, hkFt, hnFt, hsFt, hllFt, hltFt, hLFt, hTFt⟩ := htyF.inv; obtain ⟨kFv, nFv, sFv, lsFv, tsFv, laFv, lcFv, taFv, tcFv, evlF, rfl, hkFv, hnFv, hsFv, hllFv, hltFv, hLFv, hTFv⟩ := hvlF.inv
    refine Lands.ret (s := .t [.a [.v (.int .u8 F.kind), .v (.string F.name), .v (.int .i64 F.params), .v (.int .u8 kFt), .v (.int .i64 nFt), .v (.string sFt), .v (.slice laFt lsFt.length lcFt), .v (.slice taFt tsFt.length tcFt), .v (.int .u8 kFv), .v (.int .i64 nFv), .v (.string sFv), .v (.slice laFv lsFv.length lcFv), .v (.slice taFv tsFv.length tcFv), .v (.int .i64 F.height), .v (.string F.block), .v (.string F.of_), .v (.int .i64 F.fixed), .v (.int .i64 F.index), .v (.int .i64 F.no), .v (.int .i64 F.fields), .v (.int .i64 F.motives), .v (.int .i64 F.minors), .v (.slice raF F.rules.length rcF), .v (.int .i64 F.ctors), .v (.bool F.record)], .v (.bool is)]) rfl rfl hh12 ?_
    intro g13 w13 e13 x13 z13 hh13; intro w14 m14 z14 hh14; replace m14 : Upd g13 w13 w14 := m14; have x14 : Ext w12 w14 := x13.upd m14 (by omega); have q14 := x14.size
    refine Or.inl (And.intro (fun h => ?_) (fun h => ?_))
    · refine vcZ (works8_runs w14) hh14 fun w15 x15 z15 hh15 => ?_
      exact ⟨rfl, y10.trans (x11.trans (x12.trans (x14.trans x15)))⟩
    have his : is = true := by simpa using h
    have hall' : ∀ s' ∈ ns.take (i + 1), (findI SL s').isSome = true := fun s' hs => by
      rw [htk] at hs
      rcases List.mem_append.1 hs with hs | hs
      · exact hall s' hs
      · rw [List.mem_singleton.1 hs, hfs]; exact his
    refine vsd (by simp only [inKind]; omega) ?_
    exact Exists.intro ((i + 1)) ⟨by omega, esub_over (by repeat (first | exact trivial | refine And.intro rfl ?_)) (by repeat (first | exact trivial | refine And.intro rfl ?_)), hsub_over (by repeat (first | exact trivial | refine And.intro rfl ?_)) (by repeat (first | exact trivial | refine And.intro rfl ?_)), x11.trans (x12.trans x14), hil, hall'⟩
  obtain rfl : i = ns.length := by have := of_decide_eq_false h; omega
  rw [List.take_length] at hall
  obtain ⟨ht3, hu3⟩ := hthere hall
  clear h hall hthere hi
  have y11 := y10.trans x11
  have hE11 := hE10.ext x11
  have in11 : ∀ k, k < w.heap.size → RdE w11 (fun _ => False) e m A k := fun k hk => ⟨⟨by have := y11.size; omega, id⟩, fun hm => by have := hE11.lt k hm; have := y9.size; omega⟩
  have vt11 := (VT.ext vt0 y11).mono in11
  have vu11 := (VT.ext vu0 y11).mono in11
  refine (Delta_runs e m A cap SL t _ w11 hE11 (fun _ h => h.elim) vt11).mono ?_
  rintro _ w12 ⟨x12, cd, rfl, hd⟩
  have hh12 := hh11.ext x12
  have z12 := x12.size
  have hd0 := hd
  generalize hDE : delE SL t = DE at *
  generalize hDT : delT SL t = DT at *
  obtain ⟨kd, nd, sd, lsd, tsd, lad, lcd, tad, tcd, ed, rfl, hkd, hnd, hsd, hlld, hltd, hLd, hTd⟩ := hd.inv
  refine Lands.ret (s := .t [.a [.v (.int .u8 kd), .v (.int .i64 nd), .v (.string sd), .v (.slice lad lsd.length lcd), .v (.slice tad tsd.length tcd)], .v (.int .i64 DE)]) rfl rfl hh12 ?_
  intro g13 w13 e13 x13 z13 hh13; intro w14 m14 z14 hh14; replace m14 : Upd g13 w13 w14 := m14; have x14 : Ext w12 w14 := x13.upd m14 (by omega); have q14 := x14.size
  have x1114 := x12.trans x14
  refine (Iota_runs e m A cap SL t u _ _ w14 (hE11.ext x1114) (fun _ h => h.elim) (VT.re vt11 x1114) (VT.re vu11 x1114) SL_nok).mono ?_
  rintro _ w15 ⟨x15, ⟨ci, rfl, hio⟩⟩
  have hh15 := hh14.ext x15
  have z15 := x15.size
  have hi0 := hio
  generalize hIO : iot SL t u = IO at *
  obtain ⟨I1, I2⟩ := IO
  obtain ⟨ki, ni, si, lsi, tsi, lai, lci, tai, tci, ei, rfl, hki, hni, hsi, hlli, hlti, hLi, hTi⟩ := hio.inv
  refine Lands.ret (s := .t [.a [.v (.int .u8 ki), .v (.int .i64 ni), .v (.string si), .v (.slice lai lsi.length lci), .v (.slice tai tsi.length tci)], .v (.int .i64 I2)]) rfl rfl hh15 ?_
  intro g16 w16 e16 x16 z16 hh16; intro w17 m17 z17 hh17; replace m17 : Upd g16 w16 w17 := m17; have x17 : Ext w15 w17 := x16.upd m17 (by omega); have q17 := x17.size
  have x1117 := x1114.trans (x15.trans x17)
  refine (Field_runs e m A cap SL sPair 0 (by simp [i64ok]) t _ w17 (hE11.ext x1117) (fun _ h => h.elim) (VT.re vt11 x1117) SL_nok).mono ?_
  rintro _ w18 ⟨x18, ⟨cf, rfl, hf⟩⟩
  have hh18 := hh17.ext x18
  have z18 := x18.size
  have hf0 := hf
  generalize hFT : fieldT SL sPair 0 t = FT at *
  generalize hFB : fieldB SL sPair 0 t = FB at *
  obtain ⟨kf, nf, sf, lsf, tsf, laf, lcf, taf, tcf, ef, rfl, hkf, hnf, hsf, hllf, hltf, hLf, hTf⟩ := hf.inv
  refine Lands.ret (s := .t [.a [.v (.int .u8 kf), .v (.int .i64 nf), .v (.string sf), .v (.slice laf lsf.length lcf), .v (.slice taf tsf.length tcf)], .v (.bool FB)]) rfl rfl hh18 ?_
  intro g19 w19 e19 x19 z19 hh19; intro w20 m20 z20 hh20; replace m20 : Upd g19 w19 w20 := m20; have x20 : Ext w18 w20 := x19.upd m20 (by omega); have q20 := x20.size
  have x1120 := x1117.trans (x18.trans x20)
  refine (Record_runs e m A cap SL sPair w20 (hE11.ext x1120) (fun _ h => h.elim)).mono ?_
  rintro _ w21 ⟨x21, ⟨cr, rfl, hr⟩⟩
  have hh21 := hh20.ext x21
  have z21 := x21.size
  have hr0 := hr
  generalize hRI : recdI SL sPair = RI at *
  generalize hRB : (recdN SL sPair).isSome = RB at *
  obtain ⟨ctY, cvY, raY, rcY, rfl, htyY, hvlY, hruY, hrlY, hokY⟩ := hr; obtain ⟨kYt, nYt, sYt, lsYt, tsYt, laYt, lcYt, taYt, tcYt, etyY, rfl, hkYt, hnYt, hsYt, hllYt, hltYt, hLYt, hTYt⟩ := htyY.inv; obtain ⟨kYv, nYv, sYv, lsYv, tsYv, laYv, lcYv, taYv, tcYv, evlY, rfl, hkYv, hnYv, hsYv, hllYv, hltYv, hLYv, hTYv⟩ := hvlY.inv
  refine Lands.ret (s := .t [.a [.v (.int .u8 RI.kind), .v (.string RI.name), .v (.int .i64 RI.params), .v (.int .u8 kYt), .v (.int .i64 nYt), .v (.string sYt), .v (.slice laYt lsYt.length lcYt), .v (.slice taYt tsYt.length tcYt), .v (.int .u8 kYv), .v (.int .i64 nYv), .v (.string sYv), .v (.slice laYv lsYv.length lcYv), .v (.slice taYv tsYv.length tcYv), .v (.int .i64 RI.height), .v (.string RI.block), .v (.string RI.of_), .v (.int .i64 RI.fixed), .v (.int .i64 RI.index), .v (.int .i64 RI.no), .v (.int .i64 RI.fields), .v (.int .i64 RI.motives), .v (.int .i64 RI.minors), .v (.slice raY RI.rules.length rcY), .v (.int .i64 RI.ctors), .v (.bool RI.record)], .v (.bool RB)]) rfl rfl hh21 ?_
  intro g22 w22 e22 x22 z22 hh22; intro w23 m23 z23 hh23; replace m23 : Upd g22 w22 w23 := m23; have x23 : Ext w21 w23 := x22.upd m23 (by omega); have q23 := x23.size
  have x1123 := x1120.trans (x21.trans x23)
  have y23 := y11.trans x1123
  have z23 := x1123.size
  have z1110 := x11.size
  have l10 := hE10.lt
  have hlB1 := hB.1
  have hlB2 := hB.2
  have fd : VT w23 (RdE w23 (fun _ => False) e m A) [Value.int .u8 kd, Value.int .i64 nd, Value.string sd, Value.slice lad lsd.length lcd, Value.slice tad tsd.length tcd] DT := VT.re hd0 (x14.trans (x15.trans (x17.trans (x18.trans (x20.trans (x21.trans x23))))))
  have fi : VT w23 (RdE w23 (fun _ => False) e m A) [Value.int .u8 ki, Value.int .i64 ni, Value.string si, Value.slice lai lsi.length lci, Value.slice tai tsi.length tci] I1 := VT.re hi0 (x17.trans (x18.trans (x20.trans (x21.trans x23))))
  have ff : VT w23 (RdE w23 (fun _ => False) e m A) [Value.int .u8 kf, Value.int .i64 nf, Value.string sf, Value.slice laf lsf.length lcf, Value.slice taf tsf.length tcf] FT := VT.re hf0 (x20.trans (x21.trans x23))
  have fr := VI.re hr0 x23
  refine vLoop_upd (σ := Nat) [6, 21, 22, 106, 107, 108, 109, 110, 111, 112, 113, 114, 115, 116, 117, 118, 119, 120, 121, 122, 123, 124, 125, 126, 127, 128, 129, 130, 131, 132, 133, 134, 135, 136, 137, 138, 139, 140, 141, 142, 143, 144, 145, 146, 147, 148, 149, 150, 151, 152, 153, 154, 155, 156, 157, 158, 159, 160, 161, 162, 163, 164, 165, 166, 167, 168, 169, 170, 171, 172] (fun i => [(21, .v (.int .i64 i))]) [] (fun _ => []) (fun i w' => Bw.Mod (fun k => mine e m A k ∨ w23.heap.size ≤ k) w23 w' ∧ i ≤ l.length ∧ Grows SL (envS l i) ∧ ∃ A' c', EX w' (fun _ => False) w9.heap.size e m A' c' (envS l i) ∧ ∀ k, mine e m A' k → mine e m A k ∨ w23.heap.size ≤ k) (fun i => l.length - i) 0 (fun _ => ⟨rfl, rfl⟩)
    ⟨(by repeat (first | exact trivial | refine And.intro rfl ?_)), (by repeat (first | exact trivial | refine And.intro rfl ?_)), (by repeat (first | exact trivial | refine And.intro rfl ?_)), (by repeat (first | exact trivial | refine And.intro rfl ?_)), Mod.mono (Ext.refl w23) (fun k hk => hk.elim), Nat.zero_le _, Grows.refl _, A, cap, hE11.ext x1123, fun k hk => .inl hk⟩ ?_
  rintro i w24 hh24 ⟨m24, hi, hgr, A', c', hE24, N24⟩
  have z24 := m24.size
  have y24 : Ext w w24 := y23.trans' m24 fun k hk hs => by
    rcases hs with h | h
    · have := l10 k h; omega
    · omega
  refine Or.inl (And.intro (fun h => ?_) (fun h => ?_))
  · have hil : i < l.length := by have := of_decide_eq_true h; omega
    obtain ⟨a1, cs, ha1, hRa, hrow0, hv⟩ := hl.at hil
    have hs := envS_succ l i hil
    generalize l[i] = x at *
    generalize envS l i = L at *
    have hv24 : VI w24 (fun k => k < w.heap.size) cs x := VI.ext hv y24
    have hv0 := hv24
    have hrow := hrow0.ext y24
    clear hv
    obtain ⟨ctx, cvx, rax, rcx, rfl, htyx, hvlx, hrux, hrlx, hokx⟩ := hv24; obtain ⟨kxt, nxt, sxt, lsxt, tsxt, laxt, lcxt, taxt, tcxt, etyx, rfl, hkxt, hnxt, hsxt, hllxt, hltxt, hLxt, hTxt⟩ := htyx.inv; obtain ⟨kxv, nxv, sxv, lsxv, tsxv, laxv, lcxv, taxv, tcxv, evlx, rfl, hkxv, hnxv, hsxv, hllxv, hltxv, hLxv, hTxv⟩ := hvlx.inv
    refine OpT.indexAddr Tryz.underlying22 Tryz.sizeOf36 rfl rfl ha1 (by first | omega | (simp only [lenOk] at *; omega)) ?_; refine Lands.v hh24 ?_
    refine OpT.load Tryz.isAgg34 rfl (hrow.cell 22 rfl) ?_; refine Lands.v hh24 ?_
    refine Or.inl (Exists.intro (.pointer (some (a1.add (i * 25)))) (And.intro (fun _ => OpT.indexAddr Tryz.underlying22 Tryz.sizeOf36 rfl rfl ha1 (by omega) ⟨rfl, Ext.refl _⟩) (fun w25 x25 hh25 => ?_)))
    refine Or.inl (Exists.intro (.agg [Value.int .u8 kxt, Value.int .i64 nxt, Value.string sxt, Value.slice laxt lsxt.length lcxt, Value.slice taxt tsxt.length tcxt].toArray) (And.intro (fun _ => OpT.loadA Tryz.isAgg33 (by exact Tryz.sizeOf33) rfl ((hrow.ext x25).sub 3 5 rfl) ⟨rfl, Ext.refl _⟩) (fun w26 x26 hh26 => ?_)))
    refine Or.inl (Exists.intro (.bool (isDeep x.ty)) (And.intro (fun _ => rDeep_runs x.ty _ w26 _ (VT.ext htyx (x25.trans x26))) (fun w27 x27 hh27 => ?_)))
    refine Or.inl (Exists.intro (.pointer (some (a1.add (i * 25)))) (And.intro (fun _ => OpT.indexAddr Tryz.underlying22 Tryz.sizeOf36 rfl rfl ha1 (by omega) ⟨rfl, Ext.refl _⟩) (fun w28 x28 hh28 => ?_)))
    have x2428 := x25.trans (x26.trans (x27.trans x28))
    refine Or.inl (Exists.intro (.agg [Value.int .u8 kxv, Value.int .i64 nxv, Value.string sxv, Value.slice laxv lsxv.length lcxv, Value.slice taxv tsxv.length tcxv].toArray) (And.intro (fun _ => OpT.loadA Tryz.isAgg33 (by exact Tryz.sizeOf33) rfl ((hrow.ext x2428).sub 8 5 rfl) ⟨rfl, Ext.refl _⟩) (fun w29 x29 hh29 => ?_)))
    refine Or.inl (Exists.intro (.bool (isDeep x.val)) (And.intro (fun _ => rDeep_runs x.val _ w29 _ (VT.ext hvlx (x2428.trans x29))) (fun w30 x30 hh30 => ?_)))
    refine Or.inl (Exists.intro (.pointer (some (a1.add (i * 25)))) (And.intro (fun _ => OpT.indexAddr Tryz.underlying22 Tryz.sizeOf36 rfl rfl ha1 (by omega) ⟨rfl, Ext.refl _⟩) (fun w31 x31 hh31 => ?_)))
    have x2431 := x2428.trans (x29.trans (x30.trans x31))
    refine Or.inl (Exists.intro (.string x.name) (And.intro (fun _ => OpT.load Tryz.isAgg9 rfl ((hrow.ext x2431).cell 1 rfl) ⟨rfl, Ext.refl _⟩) (fun w32 x32 hh32 => ?_)))
    have x2432 := x2431.trans x32
    have z2432 := x2432.size
    generalize isDeep x.ty = b1 at *
    generalize isDeep x.val = b2 at *
    refine Or.inl (And.intro (fun h => ?_) (fun h => ?_))
    · refine vcZ (works8_runs w32) hh32 fun w33 x33 z33 hh33 => ?_
      exact ⟨rfl, y24.trans (x2432.trans x33)⟩
    have hxr : x.rules.length ≤ 1000 := by
      by_cases hq : (20 : Int) < (x.rules.length : Int)
      · simp [sel, hq] at h
      · omega
    clear h
    have lr1 := hrlx.1
    have lr2 := hrlx.2
    refine vLoop_upd (σ := Nat) [6, 22, 145, 146, 147, 148, 149, 150, 151, 152, 153, 154, 155, 156, 157, 158, 159, 160, 161, 162, 163, 164, 165] (fun j => [(22, .v (.int .i64 j))]) [] (fun _ => []) (fun j w' => Ext w32 w' ∧ j ≤ x.rules.length) (fun j => x.rules.length - j) 0 (fun _ => ⟨rfl, rfl⟩)
      ⟨(by repeat (first | exact trivial | refine And.intro rfl ?_)), (by repeat (first | exact trivial | refine And.intro rfl ?_)), (by repeat (first | exact trivial | refine And.intro rfl ?_)), (by repeat (first | exact trivial | refine And.intro rfl ?_)), Ext.refl _, Nat.zero_le _⟩ ?_
    rintro j w33 hh33 ⟨x33, hj⟩
    have z33 := x33.size
    have x2433 := x2432.trans x33
    have hrow33 := hrow.ext x2433
    refine OpT.indexAddr Tryz.underlying22 Tryz.sizeOf36 rfl rfl ha1 (by first | omega | (simp only [lenOk] at *; omega)) ?_; refine Lands.v hh33 ?_
    refine OpT.load Tryz.isAgg34 rfl (hrow33.cell 22 rfl) ?_; refine Lands.v hh33 ?_
    refine Or.inl (And.intro (fun h => ?_) (fun h => ?_))
    · have hjl : j < x.rules.length := by have := of_decide_eq_true h; omega
      obtain ⟨a4, cr, ha4, _, hrw, hr⟩ := (hrux.ext x2433).at hjl
      generalize x.rules[j] = r at *
      have hr : VR w33 _ cr r := hr
      obtain ⟨cbr, rfl, hbor, hrfr, hrcr⟩ := hr; obtain ⟨krb, nrb, srb, lsrb, tsrb, larb, lcrb, tarb, tcrb, ebor, rfl, hkrb, hnrb, hsrb, hllrb, hltrb, hLrb, hTrb⟩ := hbor.inv
      refine OpT.indexAddr Tryz.underlying22 Tryz.sizeOf36 rfl rfl ha1 (by first | omega | (simp only [lenOk] at *; omega)) ?_; refine Lands.v hh33 ?_
      refine OpT.load Tryz.isAgg34 rfl (hrow33.cell 22 rfl) ?_; refine Lands.v hh33 ?_
      refine OpT.indexAddr Tryz.underlying34 Tryz.sizeOf84 rfl rfl ha4 (by first | omega | (simp only [lenOk] at *; omega)) ?_; refine Lands.v hh33 ?_
      refine OpT.loadA Tryz.isAgg33 (by exact Tryz.sizeOf33) rfl (hrw.sub 2 5 rfl) ?_; refine Lands.ret (s := .a [.v (.int .u8 krb), .v (.int .i64 nrb), .v (.string srb), .v (.slice larb lsrb.length lcrb), .v (.slice tarb tsrb.length tcrb)]) rfl rfl hh33 ?_
      refine vcZ (rDeep_runs r.b _ w33 _ hbor) hh33 fun w34 x34 z34 hh34 => ?_
      refine Or.inl (And.intro (fun h => ?_) (fun h => ?_))
      · refine vcZ (works8_runs w34) hh34 fun w35 x35 z35 hh35 => ?_
        exact ⟨rfl, y24.trans (x2433.trans (x34.trans x35))⟩
      · refine vsd (by simp only [inKind]; omega) ?_
        exact Exists.intro ((j + 1)) ⟨by omega, esub_over (by repeat (first | exact trivial | refine And.intro rfl ?_)) (by repeat (first | exact trivial | refine And.intro rfl ?_)), hsub_over (by repeat (first | exact trivial | refine And.intro rfl ?_)) (by repeat (first | exact trivial | refine And.intro rfl ?_)), x33.trans x34, hjl⟩
    clear h hj
    have hE33 := hE24.ext x2433
    refine OpT.indexAddr Tryz.underlying22 Tryz.sizeOf36 rfl rfl ha1 (by first | omega | (simp only [lenOk] at *; omega)) ?_; refine Lands.v hh33 ?_
    refine OpT.loadA Tryz.isAgg36 (by exact Tryz.sizeOf36) rfl hrow33 ?_; refine Lands.ret (s := .a [.v (.int .u8 x.kind), .v (.string x.name), .v (.int .i64 x.params), .v (.int .u8 kxt), .v (.int .i64 nxt), .v (.string sxt), .v (.slice laxt lsxt.length lcxt), .v (.slice taxt tsxt.length tcxt), .v (.int .u8 kxv), .v (.int .i64 nxv), .v (.string sxv), .v (.slice laxv lsxv.length lcxv), .v (.slice taxv tsxv.length tcxv), .v (.int .i64 x.height), .v (.string x.block), .v (.string x.of_), .v (.int .i64 x.fixed), .v (.int .i64 x.index), .v (.int .i64 x.no), .v (.int .i64 x.fields), .v (.int .i64 x.motives), .v (.int .i64 x.minors), .v (.slice rax x.rules.length rcx), .v (.int .i64 x.ctors), .v (.bool x.record)]) rfl rfl hh33 ?_
    refine OpT.buildE (E := encInf) (R := (fun k => k < w.heap.size)) (vs := [_]) (l := [x]) Tryz.zeroValue36 (.cons rfl (.nil)) Tryz.underlying22 Tryz.sizeOf36 rfl rfl (Reps.cons (VI.ext hv0 x2433) (Reps.nil _ _ _)) rfl rfl hh33 fun w34 g34 e34 x34 z34 o34 hh34 => ?_
    have nm : ∀ k, k < w9.heap.size ∨ (w10.heap.size ≤ k ∧ k < w23.heap.size) → ¬ mine e m A' k := fun k hk hm => by
      rcases N24 k hm with h | h
      · have := l10 k h; omega
      · omega
    have z34' := x34.size
    refine vcM (Add_x e m A' _ c' 1 L [x] w34 (hE33.ext x34) (fun k hk => hk.elim) o34.sl (fun k hk => ⟨⟨hk.2, id⟩, fun hm => ?_⟩) (by simp [lenOk]) (by simp) (by simpa using hxr)) hh34 ⟨nm g1 (by omega), nm g2 (by omega), nm g13 (by omega), nm g16 (by omega), nm g19 (by omega), nm g22 (by omega), trivial⟩ fun v35 w35 m35 z35 hh35 p35 => ?_
    · rcases hk.1 with h | h
      · exact nm k (by have := y9.size; omega) hm
      · have := hE33.lt k hm; omega
    obtain ⟨rfl, A5, c5, hE5, n5⟩ := p35
    have m2435 : Bw.Mod (fun k => mine e m A k ∨ w23.heap.size ≤ k) w23 w35 := (m24.trans (Mod.mono (show Ext w24 w34 from x2433.trans x34) fun k hk => hk.elim)).trans (m35.mono fun k hk => N24 k hk)
    refine vsd (by simp only [inKind]; omega) ?_
    exact Exists.intro ((i + 1)) ⟨by omega, esub_over (by repeat (first | exact trivial | refine And.intro rfl ?_)) (by repeat (first | exact trivial | refine And.intro rfl ?_)), hsub_over (by repeat (first | exact trivial | refine And.intro rfl ?_)) (by repeat (first | exact trivial | refine And.intro rfl ?_)), m2435, hil, by rw [hs]; exact hgr.add x, A5, c5, by rw [hs]; exact hE5, fun k hk => (n5 k hk).elim (N24 k) fun h => by omega⟩
  obtain rfl : i = l.length := by have := of_decide_eq_false h; omega
  clear h hi
  generalize envS l l.length = L' at *
  have hnr : ∀ k, RdE w23 (fun _ => False) e m A k → ¬ (mine e m A k ∨ w23.heap.size ≤ k) := fun k hk h => h.elim hk.2 fun h => by have := hk.1.1; omega
  have fd24 := VT.mod fd m24 hnr
  have fi24 := VT.mod fi m24 hnr
  have ff24 := VT.mod ff m24 hnr
  have fr24 := encInf.mod fr m24 hnr
  have in24 : ∀ k, k < w.heap.size → RdE w24 (fun _ => False) e m A' k := fun k hk => ⟨⟨by have := y24.size; omega, id⟩, fun hm => by have := hE24.lt k hm; have := y9.size; omega⟩
  have vt24 := (VT.ext vt0 y24).mono in24
  have vu24 := (VT.ext vu0 y24).mono in24
  have hnok := hgr.nk SL_nok
  obtain ⟨hd1, hd2⟩ := hgr.delta ht3
  have hio1 := hgr.iota ht3 hu3
  obtain ⟨hf1, hf2⟩ := hgr.field 0 pairS ht3
  obtain ⟨hr1, hr2⟩ := hgr.recd pairS
  rw [hDE] at hd1
  rw [hDT] at hd2
  rw [hIO] at hio1
  rw [hFB] at hf1
  rw [hFT] at hf2
  rw [hRI] at hr2
  refine (Delta_runs e m A' c' L' t _ w24 hE24 (fun _ h => h.elim) vt24).mono ?_
  rintro _ w25 ⟨x25, cd', rfl, hd'⟩
  rw [hd2] at hd'
  rw [hd1]
  have hh25 := hh24.ext x25
  have z25 := x25.size
  have hdB := hd'
  obtain ⟨kdB, ndB, sdB, lsdB, tsdB, ladB, lcdB, tadB, tcdB, edB, rfl, hkdB, hndB, hsdB, hlldB, hltdB, hLdB, hTdB⟩ := hd'.inv
  refine Lands.ret (s := .t [.a [.v (.int .u8 kdB), .v (.int .i64 ndB), .v (.string sdB), .v (.slice ladB lsdB.length lcdB), .v (.slice tadB tsdB.length tcdB)], .v (.int .i64 DE)]) rfl rfl hh25 ?_
  intro g26 w26 e26 x26 z26 hh26; intro w27 m27 z27 hh27; replace m27 : Upd g26 w26 w27 := m27; have x27 : Ext w25 w27 := x26.upd m27 (by omega); have q27 := x27.size
  have x2427 := x25.trans x27
  refine (Iota_runs e m A' c' L' t u _ _ w27 (hE24.ext x2427) (fun _ h => h.elim) (VT.re vt24 x2427) (VT.re vu24 x2427) hnok).mono ?_
  rintro _ w28 ⟨x28, ⟨ci', rfl, hi'⟩⟩
  rw [hio1] at hi' ⊢
  have hh28 := hh27.ext x28
  have z28 := x28.size
  have hiB := hi'
  obtain ⟨kiB, niB, siB, lsiB, tsiB, laiB, lciB, taiB, tciB, eiB, rfl, hkiB, hniB, hsiB, hlliB, hltiB, hLiB, hTiB⟩ := hi'.inv
  refine Lands.ret (s := .t [.a [.v (.int .u8 kiB), .v (.int .i64 niB), .v (.string siB), .v (.slice laiB lsiB.length lciB), .v (.slice taiB tsiB.length tciB)], .v (.int .i64 I2)]) rfl rfl hh28 ?_
  intro g29 w29 e29 x29 z29 hh29; intro w30 m30 z30 hh30; replace m30 : Upd g29 w29 w30 := m30; have x30 : Ext w28 w30 := x29.upd m30 (by omega); have q30 := x30.size
  have x2430 := x2427.trans (x28.trans x30)
  refine (Field_runs e m A' c' L' sPair 0 (by simp [i64ok]) t _ w30 (hE24.ext x2430) (fun _ h => h.elim) (VT.re vt24 x2430) hnok).mono ?_
  rintro _ w31 ⟨x31, ⟨cf', rfl, hf'⟩⟩
  rw [hf2] at hf'
  rw [hf1]
  have hh31 := hh30.ext x31
  have z31 := x31.size
  have hfB' := hf'
  obtain ⟨kfB, nfB, sfB, lsfB, tsfB, lafB, lcfB, tafB, tcfB, efB, rfl, hkfB, hnfB, hsfB, hllfB, hltfB, hLfB, hTfB⟩ := hf'.inv
  refine Lands.ret (s := .t [.a [.v (.int .u8 kfB), .v (.int .i64 nfB), .v (.string sfB), .v (.slice lafB lsfB.length lcfB), .v (.slice tafB tsfB.length tcfB)], .v (.bool FB)]) rfl rfl hh31 ?_
  intro g32 w32 e32 x32 z32 hh32; intro w33 m33 z33 hh33; replace m33 : Upd g32 w32 w33 := m33; have x33 : Ext w31 w33 := x32.upd m33 (by omega); have q33 := x33.size
  have x2433 := x2430.trans (x31.trans x33)
  refine (Record_runs e m A' c' L' sPair w33 (hE24.ext x2433) (fun _ h => h.elim)).mono ?_
  rintro _ w34 ⟨x34, ⟨cr', rfl, hr'⟩⟩
  rw [hr2] at hr'
  rw [hr1, hRB]
  have hh34 := hh33.ext x34
  have z34 := x34.size
  have hrB := hr'
  obtain ⟨ctZ, cvZ, raZ, rcZ, rfl, htyZ, hvlZ, hruZ, hrlZ, hokZ⟩ := hr'; obtain ⟨kZt, nZt, sZt, lsZt, tsZt, laZt, lcZt, taZt, tcZt, etyZ, rfl, hkZt, hnZt, hsZt, hllZt, hltZt, hLZt, hTZt⟩ := htyZ.inv; obtain ⟨kZv, nZv, sZv, lsZv, tsZv, laZv, lcZv, taZv, tcZv, evlZ, rfl, hkZv, hnZv, hsZv, hllZv, hltZv, hLZv, hTZv⟩ := hvlZ.inv
  refine Lands.ret (s := .t [.a [.v (.int .u8 RI.kind), .v (.string RI.name), .v (.int .i64 RI.params), .v (.int .u8 kZt), .v (.int .i64 nZt), .v (.string sZt), .v (.slice laZt lsZt.length lcZt), .v (.slice taZt tsZt.length tcZt), .v (.int .u8 kZv), .v (.int .i64 nZv), .v (.string sZv), .v (.slice laZv lsZv.length lcZv), .v (.slice taZv tsZv.length tcZv), .v (.int .i64 RI.height), .v (.string RI.block), .v (.string RI.of_), .v (.int .i64 RI.fixed), .v (.int .i64 RI.index), .v (.int .i64 RI.no), .v (.int .i64 RI.fields), .v (.int .i64 RI.motives), .v (.int .i64 RI.minors), .v (.slice raZ RI.rules.length rcZ), .v (.int .i64 RI.ctors), .v (.bool RI.record)], .v (.bool RB)]) rfl rfl hh34 ?_
  intro g35 w35 e35 x35 z35 hh35; intro w36 m36 z36 hh36; replace m36 : Upd g35 w35 w36 := m36; have x36 : Ext w34 w36 := x35.upd m36 (by omega); have q36 := x36.size
  have x2436 := x2433.trans (x34.trans x36)
  have fd36 := VT.ext fd24 x2436
  have fi36 := VT.ext fi24 x2436
  have ff36 := VT.ext ff24 x2436
  have fr36 := VI.ext fr24 x2436
  have gd36 := VT.ext hdB (x27.trans (x28.trans (x30.trans (x31.trans (x33.trans (x34.trans x36))))))
  have gi36 := VT.ext hiB (x30.trans (x31.trans (x33.trans (x34.trans x36))))
  have gf36 := VT.ext hfB' (x33.trans (x34.trans x36))
  have gr36 := VI.ext hrB x36
  have y36 := y24.trans x2436
  refine vyes (by simp [sel]; rfl) ?_
  refine vcZ (rSame_runs DT DT _ _ w36 _ _ fd36 gd36) hh36 fun w37 x37 z37 hh37 => ?_
  rw [sameB_refl]
  refine vyes (by simp [sel]; rfl) ?_
  refine vcZ (rSame_runs I1 I1 _ _ w37 _ _ (VT.ext fi36 x37) (VT.ext gi36 x37)) hh37 fun w38 x38 z38 hh38 => ?_
  rw [sameB_refl]
  refine vyes (by simp [sel]; rfl) ?_
  have x3638 := x37.trans x38
  refine vcZ (rSame_runs FT FT _ _ w38 _ _ (VT.ext ff36 x3638) (VT.ext gf36 x3638)) hh38 fun w39 x39 z39 hh39 => ?_
  rw [sameB_refl]
  have x3639 := x3638.trans x39
  refine vyes (by simp [sel]; rfl) ?_
  refine vcZ (rSameI_runs _ _ RI RI w39 (VI.ext fr36 x3639) (VI.ext gr36 x3639)) hh39 fun w40 x40 z40 hh40 => ?_
  rw [infB_refl]
  refine vyes (by simp [sel]; rfl) ?_
  refine vcZ (works8_runs w40) hh40 fun w41 x41 z41 hh41 => ?_
  refine ⟨congrArg Value.bool (by simp [sel]), y36.trans (x3639.trans (x40.trans x41))⟩
end Go.Proofs.YtfljbnhhkdaobaaGreat

/-
  The row of RulesLater: true for every input.
-/
namespace Go.Proofs.YtfljbnhhkdaobaaGreat
open Go Go.ChangeMaps Go.ChangeShapes Go.WideShapes Go.ChangeAt Go.RowKit Go.Proofs.Bw
theorem Tryz.own : ownKnob Tryz.prog.godebug = none := by kernel_rfl
theorem Tryz.laidOut : laidOutB Tryz.prog = true := by kernel_rfl
set_option maxRecDepth 100000 in
theorem later8_lifted (os : Os) (started : os.Started) (H : Type) (enc : TypeId × Value → H) :
    ReturnsInHanded {} Tryz.checked os 11 .any (Rows.rulesLaterSpec.pre6 enc Tryz.prog Tryz.f11 Rows.rulesLaterRow.domain false) (Rows.rulesLaterSpec.post enc Tryz.prog Tryz.f11 false true false false) := by
  refine returnsInHanded_of_change_sized (C := Tryz.checked) Tryz.own started (by kernel_rfl) Tryz.func11
    (ChangeSpec.witness6 (enc := enc) (C := Tryz.checked) false ⟨#[], #[.slice none 0 0, .agg #[.int .u8 0, .int .i64 0, .string ⟨#[]⟩, .slice none 0 0, .slice none 0 0], .agg #[.int .u8 0, .int .i64 0, .string ⟨#[]⟩, .slice none 0 0, .slice none 0 0]], []⟩ 8 (by kernel_rfl) (by kernel_rfl) (by kernel_rfl) (by kernel_rfl)) ?_
  intro W base args ds gs before hval0 hW hcnd hsz0 _
  have hval : ∀ (j : Nat) t v, Tryz.f11.params[j]? = some t → args[j]? = some v → Value.okWide Tryz.prog W .any base t v := hval0
  have hW' := hW
  obtain ⟨p, q, hA0, hV, rfl, hfz, hnd⟩ := hW
  have hA : DataW.TrodAll enc Tryz.prog W 0 (fun _ => true) true Tryz.f11.params.toList args.toList ds p := hA0
  have hsz : (DataW.weightsEach Tryz.prog (Tryz.f11.params.toList ++ Rows.rulesLaterSpec.plain.varTypes Tryz.prog) (ds ++ gs)).all (· ≤ reachBytes) = true := hsz0
  rw [Tryz.params11] at hA hval hsz
  obtain ⟨v0, v1, v2, d0, d1, d2, p0, p1, p2, rfl, rfl, rfl, h0, h1, h2⟩ := trodAll_three hA
  obtain ⟨rfl, rfl⟩ := trodVars_none hV
  obtain ⟨A0, len0, cap0, rfl⟩ := okWide_slice Tryz.underlying22 (hval 0 22 v0 rfl rfl)
  obtain ⟨ca1, rfl, hca1⟩ := okWide_struct Tryz.underlying33 (hval 1 33 v1 rfl rfl)
  obtain ⟨ca2, rfl, hca2⟩ := okWide_struct Tryz.underlying33 (hval 2 33 v2 rfl rfl)
  clear hA0 hval0
  have hlt := hW'.lt
  obtain ⟨fu0, k0⟩ := h0
  obtain ⟨A', ts0, c, e1, hl0, hS0⟩ := open_SI k0
  simp only [Value.cells, List.cons.injEq, Value.slice.injEq, and_true] at e1
  obtain ⟨rfl, rfl, rfl⟩ := e1
  obtain ⟨fu1, k1⟩ := h1
  obtain ⟨t1, hv1⟩ := open_T fu1 _ _ k1
  obtain ⟨fu2, k2⟩ := h2
  obtain ⟨t2, hv2⟩ := open_T fu2 _ _ k2
  have hrun := later8_runs A0 ts0 cap0 t1 t2 ca1.toList ca2.toList W hS0 hl0 hv1 hv2
  simp only [Array.toArray_toList] at hrun
  refine Calls.mono (hrun) ?_
  rintro e W' ⟨v, rfl, rfl, hx⟩
  have hb := hx.below
  refine ⟨_, rfl, _, _, _, [], _, [], hW', trodAll_mk1 (shut_bool Tryz.underlying4 true),
    trodAll_mk3 (Below.trod Tryz.laidOut (by kernel_rfl) (by decide +kernel) ⟨fu0, k0⟩ hb (fun x h => hlt x (by simp [h]))) (Below.trod Tryz.laidOut (by kernel_rfl) (by decide +kernel) ⟨fu1, k1⟩ hb (fun x h => hlt x (by simp [h]))) (Below.trod Tryz.laidOut (by kernel_rfl) (by decide +kernel) ⟨fu2, k2⟩ hb (fun x h => hlt x (by simp [h]))), rfl, hb.frame _, fun h => by cases h⟩
theorem later8_holds : Rows.RulesLaterSaid :=
  OpenClaim.holds_of_wide 11 Tryz.f11 rfl rfl rfl rfl rfl rfl rfl ⟨rfl, rfl, rfl, rfl, rfl⟩ rfl rfl rfl rfl rfl (by kernel_rfl) Tryz.func11 (by kernel_rfl)
    (of_decide_eq_true (by kernel_rfl)) (by unfold Func.isWrapper; rw [if_neg (by decide +kernel)]; exact ⟨rfl, rfl⟩)
    (fun os started H enc _ => later8_lifted os started H enc)
end Go.Proofs.YtfljbnhhkdaobaaGreat
