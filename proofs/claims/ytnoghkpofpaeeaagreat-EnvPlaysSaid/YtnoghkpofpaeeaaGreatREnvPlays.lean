/-
  The row of EnvPlays: true for every input.
-/
import Derived.Test.YtnoghkpofpaeeaaGreatDb
import Derived.Test.YtnoghkpofpaeeaaGreatOpI
import Derived.Test.YtnoghkpofpaeeaaGreatOB
import Derived.Test.YtnoghkpofpaeeaaGreatRows
namespace Go.Proofs.YtnoghkpofpaeeaaGreat
open Go Go.ChangeMaps Go.ChangeShapes Go.WideShapes Go.ChangeAt Go.RowKit Go.Proofs.Bw
theorem Tryz.own : ownKnob Tryz.prog.godebug = none := by kernel_rfl
theorem Tryz.laidOut : laidOutB Tryz.prog = true := by kernel_rfl

set_option maxRecDepth 100000 in
theorem plays_lifted (os : Os) (started : os.Started) (H : Type) (enc : TypeId × Value → H) :
    ReturnsInHanded {} Tryz.checked os 3 .any (Rows.envPlaysSpec.pre6 enc Tryz.prog Tryz.f3 Rows.envPlaysRow.domain false) (Rows.envPlaysSpec.post enc Tryz.prog Tryz.f3 false true false false) := by
  refine returnsInHanded_of_change_sized (C := Tryz.checked) Tryz.own started (by kernel_rfl) Tryz.func3
    (ChangeSpec.witness6 (enc := enc) (C := Tryz.checked) false ⟨#[], #[.slice none 0 0, .slice none 0 0, .agg #[.int .u8 0, .int .i64 0, .string ⟨#[]⟩, .slice none 0 0, .slice none 0 0]], []⟩ 8 (by kernel_rfl) (by kernel_rfl) (by kernel_rfl) (by kernel_rfl)) ?_
  intro W base args ds gs before hval0 hW hcnd hsz0 _
  have hval : ∀ (j : Nat) t v, Tryz.f3.params[j]? = some t → args[j]? = some v → Value.okWide Tryz.prog W .any base t v := hval0
  have hW' := hW
  obtain ⟨p, q, hA0, hV, rfl, hfz, hnd⟩ := hW
  have hA : DataW.TrodAll enc Tryz.prog W 0 (fun _ => true) true Tryz.f3.params.toList args.toList ds p := hA0
  have hsz : (DataW.weightsEach Tryz.prog (Tryz.f3.params.toList ++ Rows.envPlaysSpec.plain.varTypes Tryz.prog) (ds ++ gs)).all (· ≤ reachBytes) = true := hsz0
  rw [Tryz.params3] at hA hval hsz
  obtain ⟨v0, v1, v2, d0, d1, d2, p0, p1, p2, rfl, rfl, rfl, h0, h1, h2⟩ := trodAll_three hA
  obtain ⟨rfl, rfl⟩ := trodVars_none hV
  obtain ⟨A0, len0, cap0, rfl⟩ := okWide_slice Tryz.underlying22 (hval 0 22 v0 rfl rfl)
  obtain ⟨A1, len1, cap1, rfl⟩ := okWide_slice Tryz.underlying23 (hval 1 23 v1 rfl rfl)
  obtain ⟨ca2, rfl, hca2⟩ := okWide_struct Tryz.underlying27 (hval 2 27 v2 rfl rfl)
  clear hA0 hval0
  have hlt := hW'.lt
  obtain ⟨fu0, k0⟩ := h0
  obtain ⟨A', ts0, c, e1, hl0, hS0⟩ := open_SI k0
  simp only [Value.cells, List.cons.injEq, Value.slice.injEq, and_true] at e1
  obtain ⟨rfl, rfl, rfl⟩ := e1
  obtain ⟨fu1, k1⟩ := h1
  obtain ⟨A', bs1, c, e1, hl1, hR1, hd1⟩ := open_B k1
  simp only [Value.cells, List.cons.injEq, Value.slice.injEq, and_true] at e1
  obtain ⟨rfl, rfl, rfl⟩ := e1
  have hbl1 : bs1.length ≤ 140737488355328 := by
    rcases hd1 with rfl | ⟨es, sp, rfl, hes⟩
    · exact Nat.zero_le _
    · have := sized_slice hsz (j := 1) (t := 23) (e := 5) rfl rfl Tryz.underlying23
      rw [bytesU8] at this
      have h47 := reachBytes_lt
      omega
  obtain ⟨fu2, k2⟩ := h2
  obtain ⟨t2, hv2⟩ := open_T fu2 _ _ k2
  have hrun := plays_runs (R := fun k => True ∧ k < W.heap.size) A0 A1 ts0 bs1 cap0 cap1 t2 _ W hS0.small hl0 hR1 hv2.small (fun k hk => hk.2)
  simp only [Array.toArray_toList] at hrun
  refine Calls.mono (hrun) ?_
  rintro e W' ⟨v, rfl, rfl, hx⟩
  have hb := hx.below
  refine ⟨_, rfl, _, _, _, [], _, [], hW', trodAll_mk1 (shut_bool Tryz.underlying4 true),
    trodAll_mk3 (Below.trod Tryz.laidOut (by kernel_rfl) (by decide +kernel) ⟨fu0, k0⟩ hb (fun x h => hlt x (by simp [h]))) (Below.trod Tryz.laidOut (by kernel_rfl) (by decide +kernel) ⟨fu1, k1⟩ hb (fun x h => hlt x (by simp [h]))) (Below.trod Tryz.laidOut (by kernel_rfl) (by decide +kernel) ⟨fu2, k2⟩ hb (fun x h => hlt x (by simp [h]))), rfl, hb.frame _, fun h => by cases h⟩

theorem plays_holds : Rows.EnvPlaysSaid :=
  OpenClaim.holds_of_wide 3 Tryz.f3 rfl rfl rfl rfl rfl rfl rfl ⟨rfl, rfl, rfl, rfl, rfl⟩ rfl rfl rfl rfl rfl (by kernel_rfl) Tryz.func3 (by kernel_rfl)
    (of_decide_eq_true (by kernel_rfl)) (by unfold Func.isWrapper; rw [if_neg (by decide +kernel)]; exact ⟨rfl, rfl⟩)
    (fun os started H enc _ => plays_lifted os started H enc)
end Go.Proofs.YtnoghkpofpaeeaaGreat

