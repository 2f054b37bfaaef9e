/-
  AxiomsNil.
-/
import Derived.Test.YtfljbnhhkdaobaaGreatC8
import Derived.Test.YtfljbnhhkdaobaaGreatB6
import Derived.Test.YtfljbnhhkdaobaaGreatRows
import Derived.ProofKit
import Derived.SizedLaws
import Derived.ChangeMaps5
namespace Go.Proofs.YtfljbnhhkdaobaaGreat
open Go Go.RowKit Go.Proofs.Bw
set_option linter.unusedVariables false
set_option linter.unusedSimpArgs false
theorem set_nil {S : ByteArray → Prop} {l : List ByteArray} (h : SetL S l) (hs : ∀ q, ¬ S q) : l = [] := by
  cases l with
  | nil => rfl
  | cons a r => exact (hs a ((h.2 a).1 (List.mem_cons_self ..))).elim
theorem rch_nil {op : Bool} {l : List ByteArray} (q : ByteArray) : ¬ Rch [] op l q := fun h => by
  have h := h.there
  cases h
theorem env_nil (w : World) : EnvV w none [] := .inl ⟨rfl, rfl⟩
set_option maxHeartbeats 2000000 in
set_option maxRecDepth 20000 in
theorem nil9_runs {R : Nat → Prop} (t : T) (ct : List Value) (s : ByteArray) (w : World) (ht : VT w R ct t) : Runs Tryz.prog 6 #[.agg ct.toArray, .string s] w fun v w' => v = .bool true ∧ Ext w w' := by
  have ht0 := ht
  obtain ⟨kt, nt, st, lst, tst, lat, lct, tat, tct, et, rfl, hkt, hnt, hst, hllt, hltt, hLt, hTt⟩ := ht.inv
  refine Runs.of_vc (ρ := []) cx_ok [0, 1, 2, 4, 11] [.a [.v (.int .u8 kt), .v (.int .i64 nt), .v (.string st), .v (.slice lat lst.length lct), .v (.slice tat tst.length tct)], .v _] Tryz.func6 rfl rfl rfl (Holds.nil w) ?_
  intro g1 w1 e1 x1 z1 hh1
  refine vcZ (rDeep_runs t _ w1 R (ht0.ext x1)) hh1 fun w2 x2 z2 hh2 => ?_
  have y2 := x1.trans x2
  generalize isDeep t = dt at *
  refine Or.inl (And.intro (fun h => ?_) (fun h => ?_))
  · refine vcZ (works9_runs w2) hh2 fun w3 x3 z3 hh3 => ?_
    exact ⟨rfl, y2.trans x3⟩
  have hs : s.size ≤ 100 := by cases dt <;> simp [sel] at h; omega
  have hs' : s.size ≤ 9223372036854775807 := by omega
  refine vDrw_mk [1, 4, 5, 9, 13, 18] (.one 0 (.one 3 (.one 8 (.one 12 (.alt 1 (.one 2 (.one 4 (.one 5 (.one 6 (.one 7 (.one 9 (.one 10 (.one 11 (.one 13 (.one 14 (.one 15 (.one 16 (.one 17 (.one 18 (.one 19 (.one 20 .nil)))))))))))))))) 4 (.one 1 (.one 2 (.one 5 (.one 6 (.one 7 (.one 9 (.one 10 (.one 11 (.one 13 (.one 14 (.one 15 (.one 16 (.one 17 (.one 18 (.one 19 (.one 20 .nil))))))))))))))))))))) rfl fun w3 x3 hh3 => ?_
  have hE := env_nil w3
  refine And.intro ?_ ?_
  · skip
    refine (Uses_runs none [] s w3 (env_nil _) hs').mono ?_
    rintro _ w4 ⟨x4, A4, c4, l4, f4, o4, S4⟩
    obtain rfl := set_nil S4 fun q hq => by cases hq
    subst f4
    have hh4 := hh3.ext x4
    refine Lands.v hh4 ?_
    refine And.intro x4 ?_
    refine OpT.buildE (E := encS) (R := (fun _ => False)) (vs := [_]) (l := [s]) Tryz.zeroValue9 (.cons rfl (.nil)) Tryz.underlying28 Tryz.sizeOf9 rfl rfl (Reps.cons (⟨rfl, hs'⟩) (Reps.nil _ _ _)) rfl rfl hh4 fun w5 g5 e5 x5 z5 o5 hh5 => ?_
    refine And.intro x5 ?_
    refine (Rests_runs none [] _ 1 [s] w5 (env_nil _) (OwnE.sl o5) (fun k hk => hk.2) (by simp)).mono ?_
    rintro _ w6 ⟨x6, A6, c6, l6, f6, o6, S6⟩
    obtain rfl := set_nil S6 rch_nil
    subst f6
    have hh6 := hh5.ext x6
    refine Lands.v hh6 ?_
    refine And.intro x6 ?_
    refine vsd (by simp [inKind, axF]) ?_
    have y6 : Ext w w6 := (y2.trans x3).trans ((x4.trans x5).trans x6)
    refine (Of_runs none [] t _ w6 (env_nil _) (ht0.ext y6)).mono ?_
    rintro _ w7 ⟨x7, A7, c7, l7, f7, o7, S7⟩
    obtain rfl := set_nil S7 rch_nil
    subst f7
    have hh7 := hh6.ext x7
    refine Lands.v hh7 ?_
    refine And.intro x7 ?_
    refine vsd (by simp [inKind, axF]) ?_
    have y7 := y6.trans x7
    refine (Opaque_runs none [] t _ w7 (env_nil _) (ht0.ext y7)).mono ?_
    rintro _ w8 ⟨x8, A8, c8, l8, f8, o8, S8⟩
    obtain rfl := set_nil S8 rch_nil
    subst f8
    have hh8 := hh7.ext x8
    refine Lands.v hh8 ?_
    refine And.intro x8 ?_
    refine vsd (by simp [inKind, axF]) ?_
    have y8 := y7.trans x8
    refine Or.inl (Exists.intro (.bool true) (And.intro (fun _ => works9_runs w8) (fun w9 x9 hh9 => ?_)))
    exact ⟨rfl, y8.trans x9⟩
  · skip
    refine OpT.buildE (E := encS) (R := (fun _ => False)) (vs := [_]) (l := [s]) Tryz.zeroValue9 (.cons rfl (.nil)) Tryz.underlying28 Tryz.sizeOf9 rfl rfl (Reps.cons (⟨rfl, hs'⟩) (Reps.nil _ _ _)) rfl rfl hh3 fun w5 g5 e5 x5 z5 o5 hh5 => ?_
    refine And.intro x5 ?_
    refine (Uses_runs none [] s w5 (env_nil _) hs').mono ?_
    rintro _ w4 ⟨x4, A4, c4, l4, f4, o4, S4⟩
    obtain rfl := set_nil S4 fun q hq => by cases hq
    subst f4
    have hh4 := hh5.ext x4
    refine Lands.v hh4 ?_
    refine And.intro x4 ?_
    refine (Rests_runs none [] _ 1 [s] w4 (env_nil _) (OwnE.sl (o5.ext x4)) (fun k hk => hk.2) (by simp)).mono ?_
    rintro _ w6 ⟨x6, A6, c6, l6, f6, o6, S6⟩
    obtain rfl := set_nil S6 rch_nil
    subst f6
    have hh6 := hh4.ext x6
    refine Lands.v hh6 ?_
    refine And.intro x6 ?_
    refine vsd (by simp [inKind, axF]) ?_
    have y6 : Ext w w6 := (y2.trans x3).trans ((x5.trans x4).trans x6)
    refine (Of_runs none [] t _ w6 (env_nil _) (ht0.ext y6)).mono ?_
    rintro _ w7 ⟨x7, A7, c7, l7, f7, o7, S7⟩
    obtain rfl := set_nil S7 rch_nil
    subst f7
    have hh7 := hh6.ext x7
    refine Lands.v hh7 ?_
    refine And.intro x7 ?_
    refine vsd (by simp [inKind, axF]) ?_
    have y7 := y6.trans x7
    refine (Opaque_runs none [] t _ w7 (env_nil _) (ht0.ext y7)).mono ?_
    rintro _ w8 ⟨x8, A8, c8, l8, f8, o8, S8⟩
    obtain rfl := set_nil S8 rch_nil
    subst f8
    have hh8 := hh7.ext x8
    refine Lands.v hh8 ?_
    refine And.intro x8 ?_
    refine vsd (by simp [inKind, axF]) ?_
    have y8 := y7.trans x8
    refine Or.inl (Exists.intro (.bool true) (And.intro (fun _ => works9_runs w8) (fun w9 x9 hh9 => ?_)))
    exact ⟨rfl, y8.trans x9⟩
end Go.Proofs.YtfljbnhhkdaobaaGreat

/-
  The row of AxiomsNil: true for every input.
-/
namespace Go.Proofs.YtfljbnhhkdaobaaGreat
open Go Go.ChangeMaps Go.ChangeShapes Go.WideShapes Go.ChangeAt Go.RowKit Go.Proofs.Bw
theorem Tryz.own : ownKnob Tryz.prog.godebug = none := by kernel_rfl
theorem Tryz.laidOut : laidOutB Tryz.prog = true := by kernel_rfl
set_option maxRecDepth 100000 in
theorem nil9_lifted (os : Os) (started : os.Started) (H : Type) (enc : TypeId × Value → H) :
    ReturnsInHanded {} Tryz.checked os 6 .any (Rows.axiomsNilSpec.pre6 enc Tryz.prog Tryz.f6 Rows.axiomsNilRow.domain false) (Rows.axiomsNilSpec.post enc Tryz.prog Tryz.f6 false true false false) := by
  refine returnsInHanded_of_change_sized (C := Tryz.checked) Tryz.own started (by kernel_rfl) Tryz.func6
    (ChangeSpec.witness6 (enc := enc) (C := Tryz.checked) false ⟨#[], #[.agg #[.int .u8 0, .int .i64 0, .string ⟨#[]⟩, .slice none 0 0, .slice none 0 0], .string ⟨#[]⟩], []⟩ 8 (by kernel_rfl) (by kernel_rfl) (by kernel_rfl) (by kernel_rfl)) ?_
  intro W base args ds gs before hval0 hW hcnd hsz0 _
  have hval : ∀ (j : Nat) t v, Tryz.f6.params[j]? = some t → args[j]? = some v → Value.okWide Tryz.prog W .any base t v := hval0
  have hW' := hW
  obtain ⟨p, q, hA0, hV, rfl, hfz, hnd⟩ := hW
  have hA : DataW.TrodAll enc Tryz.prog W 0 (fun _ => true) true Tryz.f6.params.toList args.toList ds p := hA0
  have hsz : (DataW.weightsEach Tryz.prog (Tryz.f6.params.toList ++ Rows.axiomsNilSpec.plain.varTypes Tryz.prog) (ds ++ gs)).all (· ≤ reachBytes) = true := hsz0
  rw [Tryz.params6] at hA hval hsz
  obtain ⟨v0, v1, d0, d1, p0, p1, rfl, rfl, rfl, h0, h1⟩ := trodAll_two hA
  obtain ⟨rfl, rfl⟩ := trodVars_none hV
  obtain ⟨ca0, rfl, hca0⟩ := okWide_struct Tryz.underlying33 (hval 0 33 v0 rfl rfl)
  obtain ⟨x1, rfl, rfl, rfl, w1⟩ := open_string Tryz.underlying9 (hval 1 9 v1 rfl rfl) h1
  clear hA0 hval0
  have hlt := hW'.lt
  obtain ⟨fu0, k0⟩ := h0
  obtain ⟨t0, hv0⟩ := open_T fu0 _ _ k0
  have hsl1 : x1.size ≤ 140737488355328 := by
    have := sized_string hsz (j := 1) (t := 9) (bytes := x1.data.toList) rfl rfl
    have h47 := reachBytes_lt
    have hsz' : x1.data.toList.length = x1.size := rfl
    omega
  have hrun := nil9_runs t0 ca0.toList x1 W hv0
  simp only [Array.toArray_toList] at hrun
  refine Calls.mono (hrun) ?_
  rintro e W' ⟨v, rfl, rfl, hx⟩
  have hb := hx.below
  refine ⟨_, rfl, _, _, _, [], _, [], hW', trodAll_mk1 (shut_bool Tryz.underlying4 true),
    trodAll_mk2 (Below.trod Tryz.laidOut (by kernel_rfl) (by decide +kernel) ⟨fu0, k0⟩ hb (fun x h => hlt x (by simp [h]))) (shut_string Tryz.underlying9 w1), rfl, hb.frame _, fun h => by cases h⟩
theorem nil9_holds : Rows.AxiomsNilSaid :=
  OpenClaim.holds_of_wide 6 Tryz.f6 rfl rfl rfl rfl rfl rfl rfl ⟨rfl, rfl, rfl, rfl, rfl⟩ rfl rfl rfl rfl rfl (by kernel_rfl) Tryz.func6 (by kernel_rfl)
    (of_decide_eq_true (by kernel_rfl)) (by unfold Func.isWrapper; rw [if_neg (by decide +kernel)]; exact ⟨rfl, rfl⟩)
    (fun os started H enc _ => nil9_lifted os started H enc)
end Go.Proofs.YtfljbnhhkdaobaaGreat
