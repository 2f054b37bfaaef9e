/-
  What names rest on, computed; the chapter's examples.
-/
import Derived.Test.YtfljbnhhkdaobaaGreatC7
import Derived.Test.YtfljbnhhkdaobaaGreatB3g
namespace Go.Proofs.YtfljbnhhkdaobaaGreat
open Go Go.RowKit Go.Proofs.Bw
set_option linter.unusedVariables false
set_option linter.unusedSimpArgs false
def useNF (L : List Inf) (op : Bool) (x : Inf) : List ByteArray :=
  nmsF x.ty ++ (if lookB op x then nmsF x.val else []) ++ x.rules.flatMap (fun r => nmsF r.b) ++ (if x.block = noS then [] else blkL L x)
def usesF (L : List Inf) (op : Bool) (s : ByteArray) : List ByteArray := match findI L s with
  | none => []
  | some x => (useNF L op x).filter fun q => decide (q ≠ s)
theorem uses_F (L : List Inf) (op : Bool) (s : ByteArray) : usesL L op s = usesF L op s := by
  unfold usesL usesF
  cases findI L s with
  | none => rfl
  | some x => simp only [useN, useNF, nms_F]
def hasB (S : List ByteArray) (q : ByteArray) : Bool := S.any fun u => decide (u = q)
theorem hasB_iff {S : List ByteArray} {q : ByteArray} : hasB S q = true ↔ q ∈ S := by
  simp [hasB]
def thr (L : List Inf) (q : ByteArray) : Bool := (findI L q).isSome
def addD (S : List ByteArray) (c : List ByteArray) : List ByteArray := c.foldl (fun S q => if hasB S q then S else S ++ [q]) S
theorem addD_mem : ∀ (c S : List ByteArray) (q : ByteArray), q ∈ addD S c → q ∈ S ∨ q ∈ c
  | [], S, q, h => .inl h
  | a :: c, S, q, h => by
    have h : q ∈ addD (if hasB S a then S else S ++ [a]) c := h
    rcases addD_mem c _ q h with h | h
    · split at h
      · exact .inl h
      · rcases List.mem_append.1 h with h | h
        · exact .inl h
        · exact .inr (List.mem_cons.2 (.inl (List.mem_singleton.1 h)))
    · exact .inr (List.mem_cons_of_mem _ h)
def itr (L : List Inf) (op : Bool) : Nat → List ByteArray → List ByteArray
  | 0, S => S
  | k + 1, S => itr L op k (addD S ((S.flatMap (usesF L op)).filter (thr L)))
theorem itr_rch {L : List Inf} {op : Bool} {l : List ByteArray} : ∀ (k : Nat) (S : List ByteArray), (∀ q ∈ S, Rch L op l q) → ∀ q ∈ itr L op k S, Rch L op l q
  | 0, S, h, q, hq => h q hq
  | k + 1, S, h, q, hq => itr_rch k _ (fun u hu => by
    rcases addD_mem _ _ u hu with hu | hu
    · exact h u hu
    · obtain ⟨h1, h2⟩ := List.mem_filter.1 hu
      obtain ⟨a, ha, hua⟩ := List.mem_flatMap.1 h1
      rw [← uses_F] at hua
      exact .step (h a ha) hua h2) q hq
def cloB (L : List Inf) (op : Bool) (l C : List ByteArray) : Bool := (l.all fun q => !thr L q || hasB C q) && C.all fun a => (usesF L op a).all fun q => !thr L q || hasB C q
def reach (L : List Inf) (op : Bool) (l : List ByteArray) (k : Nat) : List ByteArray := itr L op k (addD [] (l.filter (thr L)))
theorem reach_law {L : List Inf} {op : Bool} {l : List ByteArray} (k : Nat) (h : cloB L op l (reach L op l k) = true) (q : ByteArray) : Rch L op l q ↔ q ∈ reach L op l k := by
  unfold cloB at h
  simp only [Bool.and_eq_true, List.all_eq_true, Bool.or_eq_true, Bool.not_eq_true', hasB_iff] at h
  constructor
  · intro hq
    induction hq with
    | base h1 h2 => exact (h.1 _ h1).resolve_left fun e => by have e : (findI L _).isSome = false := e; rw [h2] at e; cases e
    | step _ h1 h2 ih => exact (h.2 _ ih _ (by rw [← uses_F]; exact h1)).resolve_left fun e => by have e : (findI L _).isSome = false := e; rw [h2] at e; cases e
  · refine itr_rch k _ (fun u hu => ?_) q
    rcases addD_mem _ _ u hu with hu | hu
    · cases hu
    · obtain ⟨h1, h2⟩ := List.mem_filter.1 hu
      exact .base h1 h2
def sameM (D C : List ByteArray) : Bool := D.all (fun q => hasB C q) && C.all fun q => hasB D q
theorem sameM_law {D C : List ByteArray} (h : sameM D C = true) (q : ByteArray) : q ∈ D ↔ q ∈ C := by
  unfold sameM at h
  simp only [Bool.and_eq_true, List.all_eq_true, hasB_iff] at h
  exact ⟨h.1 q, h.2 q⟩
theorem axF_law {L : List Inf} {op : Bool} {ns l : List ByteArray} (k : Nat) {D : List ByteArray} (hS : SetL (Rch L op ns) l) (h : cloB L op ns (reach L op ns k) = true) (hD : OrdL D) (hm : sameM D (axF L (reach L op ns k)) = true) : axF L l = D := by
  refine SetL.unique (S := fun q => q ∈ axF L l) (S' := fun q => q ∈ D) ⟨hS.1.filter _, fun _ => Iff.rfl⟩ ⟨hD, fun _ => Iff.rfl⟩ fun q => ?_
  rw [sameM_law hm q]
  unfold axF
  rw [List.mem_filter, List.mem_filter, hS.2 q, reach_law k h q]
theorem set_law {S : ByteArray → Prop} {l C D : List ByteArray} (hS : SetL S l) (h : ∀ q, S q ↔ q ∈ C) (hD : OrdL D) (hm : sameM D C = true) : l = D :=
  hS.unique (S' := fun q => q ∈ D) ⟨hD, fun _ => Iff.rfl⟩ fun q => (h q).trans (sameM_law hm q).symm
def tfa : T := apT (tCo sf []) [tCo sa []]
theorem v1 : cloB SL false (nmsF (tCo sswap [])) (reach SL false (nmsF (tCo sswap [])) 4) = true ∧ sameM [] (axF SL (reach SL false (nmsF (tCo sswap [])) 4)) = true := by unfold SL smpL; rw [addAll_F]; decide +kernel
theorem v2 : cloB SL false (nmsF tfa) (reach SL false (nmsF tfa) 4) = true ∧ sameM [sa, sf] (axF SL (reach SL false (nmsF tfa) 4)) = true := by unfold SL smpL; rw [addAll_F]; decide +kernel
theorem v3 : sameM [sN, sN__rec, sN__succ] (usesF SL false sadd) = true := by unfold SL smpL; rw [addAll_F]; decide +kernel
theorem v4 : cloB SL false [sadd] (reach SL false [sadd] 4) = true ∧ sameM [sN, sN__rec, sN__succ, sN__zero, sadd] (reach SL false [sadd] 4) = true := by unfold SL smpL; rw [addAll_F]; decide +kernel
theorem o2 : OrdL [sa, sf] ∧ OrdL [sN, sN__rec, sN__succ] ∧ OrdL [sN, sN__rec, sN__succ, sN__zero, sadd] := by unfold OrdL; decide +kernel
end Go.Proofs.YtfljbnhhkdaobaaGreat

/-
  The chapter's examples, run.
-/
namespace Go.Proofs.YtfljbnhhkdaobaaGreat
open Go Go.RowKit Go.Proofs.Bw
set_option linter.unusedVariables false
set_option linter.unusedSimpArgs false
theorem Same9_eq {w1 w2 : World} {lo lo' el el' c d : Nat} {R R' : Nat → Prop} {A B : Option Addr} {l : List ByteArray} (w : World) (hl : OwnE encS w1 lo el R A c l) (x1 : Ext w1 w) (hm : OwnE encS w2 lo' el' R' B d l) (x2 : Ext w2 w) :
    Runs Tryz.prog 19 #[.slice A l.length c, .slice B l.length d] w fun v w' => v = .bool true ∧ Ext w w' :=
  (Same9_runs A B c d l l w (hl.ext x1).sl (hm.ext x2).sl hl.le hm.le).mono fun v w' ⟨h1, h2⟩ => ⟨by rw [h1, decide_eq_true rfl], h2⟩
set_option maxHeartbeats 4000000 in
set_option maxRecDepth 20000 in
theorem works9_runs (w : World) : Runs Tryz.prog 13 #[] w fun v w' => v = .bool true ∧ Ext w w' := by
  refine Runs.of_vc cx_ok [0, 1, 2, 3, 4, 5, 6, 12] [] Tryz.func13 rfl rfl rfl (Holds.nil _) ?_
  refine (Sample_runs w (fun _ => False) (fun _ h => h.elim)).mono ?_
  rintro _ w1 ⟨x1, e, m, A, c, rfl, hE1⟩
  have hh1 := (Holds.nil w).ext x1
  have z1 := x1.size
  have hE : EnvV w1 (some ⟨e, 0, none⟩) SL := .inr ⟨_, _, _, _, _, _, rfl, hE1⟩
  refine Lands.ret (s := .t [.v (.pointer (some ⟨e, 0, none⟩)), .v (.bool true)]) rfl rfl hh1 ?_
  refine Or.inl (And.intro (fun hx => nomatch (rfl).symm.trans hx) (fun _ => ?_))
  refine (Co0_runs (lo := w1.heap.size) w1 (Nat.le_refl _) sswap (by decide)).mono ?_
  rintro _ w2 ⟨x2, cs2, rfl, h2⟩
  have hh2 := hh1.ext x2
  have k2 : VX w1.heap.size w2 _ (tCo sswap []) := h2
  obtain ⟨ks2, ns2, ss2, lss2, tss2, las2, lcs2, tas2, tcs2, e2, rfl, hks2, hns2, hss2, hlls2, hlts2, hLs2, hTs2⟩ := h2.inv
  refine Lands.ret (s := .a [.v (.int .u8 ks2), .v (.int .i64 ns2), .v (.string ss2), .v (.slice las2 lss2.length lcs2), .v (.slice tas2 tss2.length tcs2)]) rfl rfl hh2 ?_
  refine vcV (Of_runs _ SL _ _ w2 (hE.ext x2) k2) hh2 fun v3 w3 x3 z3 hh3 p3 => ?_
  obtain ⟨A3, c3, l3, f3, q3, S3⟩ := p3
  rw [nms_F] at S3
  rw [axF_law 4 S3 v1.1 List.Pairwise.nil v1.2] at f3 q3
  subst f3
  have y3 := x2.trans x3
  refine (Co0_runs (lo := w1.heap.size) w3 y3.size sf (by decide)).mono ?_
  rintro _ w4 ⟨x4, cs4, rfl, h4⟩
  have hh4 := hh3.ext x4
  have k4 : VX w1.heap.size w4 _ (tCo sf []) := h4
  obtain ⟨ks4, ns4, ss4, lss4, tss4, las4, lcs4, tas4, tcs4, e4, rfl, hks4, hns4, hss4, hlls4, hlts4, hLs4, hTs4⟩ := h4.inv
  refine Lands.ret (s := .a [.v (.int .u8 ks4), .v (.int .i64 ns4), .v (.string ss4), .v (.slice las4 lss4.length lcs4), .v (.slice tas4 tss4.length tcs4)]) rfl rfl hh4 ?_
  have y4 := y3.trans x4
  refine (Co0_runs (lo := w1.heap.size) w4 y4.size sa (by decide)).mono ?_
  rintro _ w5 ⟨x5, cs5, rfl, h5⟩
  have hh5 := hh4.ext x5
  have k5 : VX w1.heap.size w5 _ (tCo sa []) := h5
  obtain ⟨ks5, ns5, ss5, lss5, tss5, las5, lcs5, tas5, tcs5, e5, rfl, hks5, hns5, hss5, hlls5, hlts5, hLs5, hTs5⟩ := h5.inv
  refine Lands.ret (s := .a [.v (.int .u8 ks5), .v (.int .i64 ns5), .v (.string ss5), .v (.slice las5 lss5.length lcs5), .v (.slice tas5 tss5.length tcs5)]) rfl rfl hh5 ?_
  have y5 := y4.trans x5
  refine OpT.buildE (E := encT) (R := (fun k => w1.heap.size ≤ k ∧ k < w5.heap.size)) (vs := [_]) (l := [tCo sa []]) Tryz.zeroValue33 (.cons rfl (.nil)) Tryz.underlying31 Tryz.sizeOf33 rfl rfl (Reps.cons k5 (Reps.nil _ _ _)) rfl rfl hh5 fun w6 g6 e6 x6 z6 o6 hh6 => ?_
  have y6 := y5.trans x6
  refine (A_runs (lo := w1.heap.size) w6 y6.size (R := _) (tCo sf []) _ _ [tCo sa []] 1 (VX.ext k4 (x5.trans x6)) (fun k hk => by rcases hk.1 with h | h; exact h.1; have := y5.size; omega) o6.sl (by simp [lenOk])).mono ?_
  rintro _ w7 ⟨x7, cs7, rfl, h7⟩
  have hh7 := hh6.ext x7
  have k7 : VX w1.heap.size w7 _ tfa := h7
  obtain ⟨ks7, ns7, ss7, lss7, tss7, las7, lcs7, tas7, tcs7, e7, rfl, hks7, hns7, hss7, hlls7, hlts7, hLs7, hTs7⟩ := h7.inv
  refine Lands.ret (s := .a [.v (.int .u8 ks7), .v (.int .i64 ns7), .v (.string ss7), .v (.slice las7 lss7.length lcs7), .v (.slice tas7 tss7.length tcs7)]) rfl rfl hh7 ?_
  have y7 := y6.trans x7
  refine vcV (Of_runs _ SL _ _ w7 (hE.ext y7) k7) hh7 fun v8 w8 x8 z8 hh8 p8 => ?_
  obtain ⟨A8, c8, l8, f8, q8, S8⟩ := p8
  rw [nms_F] at S8
  rw [axF_law 4 S8 v2.1 o2.1 v2.2] at f8 q8
  subst f8
  have y8 := y7.trans x8
  refine vcV (Uses_runs _ SL sadd w8 (hE.ext y8) (by decide)) hh8 fun v9 w9 x9 z9 hh9 p9 => ?_
  obtain ⟨A9, c9, l9, f9, q9, S9⟩ := p9
  have e9 := set_law S9 (fun q => by rw [uses_F]) o2.2.1 v3
  subst e9
  subst f9
  have y9 := y8.trans x9
  refine OpT.buildE (E := encS) (R := (fun _ => False)) (vs := [_]) (l := [sadd]) Tryz.zeroValue9 (.cons rfl (.nil)) Tryz.underlying28 Tryz.sizeOf9 rfl rfl (Reps.cons (⟨rfl, by decide⟩) (Reps.nil _ _ _)) rfl rfl hh9 fun w10 g10 e10 x10 z10 o10 hh10 => ?_
  have y10 := y9.trans x10
  refine vcV (Rests_runs _ SL _ 1 [sadd] w10 (hE.ext y10) o10.sl (fun k hk => hk.2) (by simp)) hh10 fun v11 w11 x11 z11 hh11 p11 => ?_
  obtain ⟨A11, c11, l11, f11, q11, S11⟩ := p11
  have e11 := set_law S11 (reach_law 4 v4.1) o2.2.2 v4.2
  subst e11
  subst f11
  have y11 := y10.trans x11
  refine vyes rfl ?_
  refine OpT.buildE (E := encS) (R := (fun _ => False)) (vs := [_, _]) (l := [sa, sf]) Tryz.zeroValue9 (.cons rfl (.cons rfl (.nil))) Tryz.underlying28 Tryz.sizeOf9 rfl rfl (Reps.cons (⟨rfl, by decide⟩) (Reps.cons (⟨rfl, by decide⟩) (Reps.nil _ _ _))) rfl rfl hh11 fun w12 g12 e12 x12 z12 o12 hh12 => ?_
  refine Or.inl (Exists.intro (.bool true) (And.intro (fun _ => Same9_eq w12 q8 (x9.trans (x10.trans (x11.trans x12))) o12 (Ext.refl _)) (fun w13 x13 hh13 => ?_)))
  refine vyes rfl ?_
  refine OpT.buildE (E := encS) (R := (fun _ => False)) (vs := [_, _, _]) (l := [sN, sN__rec, sN__succ]) Tryz.zeroValue9 (.cons rfl (.cons rfl (.cons rfl (.nil)))) Tryz.underlying28 Tryz.sizeOf9 rfl rfl (Reps.cons (⟨rfl, by decide⟩) (Reps.cons (⟨rfl, by decide⟩) (Reps.cons (⟨rfl, by decide⟩) (Reps.nil _ _ _)))) rfl rfl hh13 fun w14 g14 e14 x14 z14 o14 hh14 => ?_
  refine Or.inl (Exists.intro (.bool true) (And.intro (fun _ => Same9_eq w14 q9 (x10.trans (x11.trans (x12.trans (x13.trans x14)))) o14 (Ext.refl _)) (fun w15 x15 hh15 => ?_)))
  refine vyes rfl ?_
  refine OpT.buildE (E := encS) (R := (fun _ => False)) (vs := [_, _, _, _, _]) (l := [sN, sN__rec, sN__succ, sN__zero, sadd]) Tryz.zeroValue9 (.cons rfl (.cons rfl (.cons rfl (.cons rfl (.cons rfl (.nil)))))) Tryz.underlying28 Tryz.sizeOf9 rfl rfl (Reps.cons (⟨rfl, by decide⟩) (Reps.cons (⟨rfl, by decide⟩) (Reps.cons (⟨rfl, by decide⟩) (Reps.cons (⟨rfl, by decide⟩) (Reps.cons (⟨rfl, by decide⟩) (Reps.nil _ _ _)))))) rfl rfl hh15 fun w16 g16 e16 x16 z16 o16 hh16 => ?_
  refine Or.inl (Exists.intro (.bool true) (And.intro (fun _ => Same9_eq w16 q11 (x12.trans (x13.trans (x14.trans (x15.trans x16)))) o16 (Ext.refl _)) (fun w17 x17 hh17 => ?_)))
  exact ⟨rfl, x1.trans (y11.trans (x12.trans (x13.trans (x14.trans (x15.trans (x16.trans x17))))))⟩
end Go.Proofs.YtfljbnhhkdaobaaGreat
