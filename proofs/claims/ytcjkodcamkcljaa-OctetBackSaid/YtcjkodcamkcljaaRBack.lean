/-
  The row of OctetBack: true for every input.
-/
import Derived.Test.YtcjkodcamkcljaaOBack
import Derived.Test.YtcjkodcamkcljaaROpenI
import Derived.Test.YtcjkodcamkcljaaRows
namespace Go.Proofs.Ytcjkodcamkcljaa
open Go Go.ChangeMaps Go.ChangeShapes Go.WideShapes Go.ChangeAt Go.RowKit Go.Proofs.Bw

set_option maxRecDepth 100000 in
theorem back_lifted (os : Os) (started : os.Started) (H : Type) (enc : TypeId × Value → H) :
    ReturnsInHanded {} Try.checked os 5 .any (Rows.octetBackSpec.pre6 enc Try.prog Try.f5 Rows.octetBackRow.domain false) (Rows.octetBackSpec.post enc Try.prog Try.f5 false true false false) := by
  refine returnsInHanded_of_change_sized (C := Try.checked) Try.own started (by kernel_rfl) Try.func5
    (ChangeSpec.witness6 (enc := enc) (C := Try.checked) false ⟨#[], #[.slice none 0 0, .slice none 0 0, .slice none 0 0, .int .u16 0], []⟩ 8 (by kernel_rfl) (by kernel_rfl) (by kernel_rfl) (by kernel_rfl)) ?_
  intro W base args ds gs before hval0 hW hcnd hsz0 _
  have hval : ∀ (j : Nat) t v, Try.f5.params[j]? = some t → args[j]? = some v → Value.okWide Try.prog W .any base t v := hval0
  have hW' := hW
  obtain ⟨p, q, hA0, hV, rfl, hfz, hnd⟩ := hW
  have hA : DataW.TrodAll enc Try.prog W 0 (fun _ => true) true Try.f5.params.toList args.toList ds p := hA0
  have hsz : (DataW.weightsEach Try.prog (Try.f5.params.toList ++ Rows.octetBackSpec.plain.varTypes Try.prog) (ds ++ gs)).all (· ≤ reachBytes) = true := hsz0
  rw [Try.params5] at hA hval hsz
  obtain ⟨v0, v1, v2, v3, d0, d1, d2, d3, p0, p1, p2, p3, rfl, rfl, rfl, h0, h1, h2, h3⟩ := trodAll_four hA
  obtain ⟨rfl, rfl⟩ := trodVars_none hV
  obtain ⟨A0, len0, cap0, rfl⟩ := okWide_slice Try.underlying39 (hval 0 39 v0 rfl rfl)
  obtain ⟨A1, len1, cap1, rfl⟩ := okWide_slice Try.underlying22 (hval 1 22 v1 rfl rfl)
  obtain ⟨A2, len2, cap2, rfl⟩ := okWide_slice Try.underlying22 (hval 2 22 v2 rfl rfl)
  obtain ⟨x3, rfl, rfl, rfl, w3⟩ := open_int Try.underlying40 (hval 3 40 v3 rfl rfl) h3
  clear hA0 hval0
  have hlt := hW'.lt
  obtain ⟨fu0, k0⟩ := h0
  obtain ⟨A', l0, c, e1, hl0, hR0, hok0, hd0⟩ := open_SIt k0
  simp only [Value.cells, List.cons.injEq, Value.slice.injEq, and_true] at e1
  obtain ⟨rfl, rfl, rfl⟩ := e1
  obtain ⟨fu1, k1⟩ := h1
  obtain ⟨A', bs1, c, e1, hl1, hR1, hd1⟩ := open_B k1
  simp only [Value.cells, List.cons.injEq, Value.slice.injEq, and_true] at e1
  obtain ⟨rfl, rfl, rfl⟩ := e1
  have hbl1 : bs1.length ≤ 140737488355328 := by
    rcases hd1 with rfl | ⟨es, sp, rfl, hes⟩
    · exact Nat.zero_le _
    · have := sized_slice hsz (j := 1) (t := 22) (e := 5) rfl rfl Try.underlying22
      rw [bytesU8] at this
      have h47 := reachBytes_lt
      omega
  obtain ⟨fu2, k2⟩ := h2
  obtain ⟨A', bs2, c, e1, hl2, hR2, hd2⟩ := open_B k2
  simp only [Value.cells, List.cons.injEq, Value.slice.injEq, and_true] at e1
  obtain ⟨rfl, rfl, rfl⟩ := e1
  have hbl2 : bs2.length ≤ 140737488355328 := by
    rcases hd2 with rfl | ⟨es, sp, rfl, hes⟩
    · exact Nat.zero_le _
    · have := sized_slice hsz (j := 2) (t := 22) (e := 5) rfl rfl Try.underlying22
      rw [bytesU8] at this
      have h47 := reachBytes_lt
      omega
  have hn3 := wfU16 w3
  obtain ⟨m3, rfl⟩ : ∃ m : Nat, x3 = m := ⟨x3.toNat, by omega⟩
  refine Calls.mono (OctetBack_runs _ _ _ l0 bs1 bs2 _ _ _ m3 (by omega) W (iR_small hR0) hl0 hok0 ⟨A1, cap1, rfl, hl1, hR1⟩ ⟨A2, cap2, rfl, hl2, hR2⟩ (fun k hk => hk.2) hbl1 hbl2) ?_
  rintro e W' ⟨v, rfl, rfl, hx⟩
  have hb := hx.below
  refine ⟨_, rfl, _, _, _, [], _, [], hW', trodAll_mk1 (shut_bool Try.underlying4 true),
    trodAll_mk4 (Below.trod Try.laidOut (by kernel_rfl) (by decide +kernel) ⟨fu0, k0⟩ hb (fun x h => hlt x (by simp [h]))) (Below.trod Try.laidOut (by kernel_rfl) (by decide +kernel) ⟨fu1, k1⟩ hb (fun x h => hlt x (by simp [h]))) (Below.trod Try.laidOut (by kernel_rfl) (by decide +kernel) ⟨fu2, k2⟩ hb (fun x h => hlt x (by simp [h]))) (shut_int Try.underlying40 w3), rfl, hb.frame _, fun h => by cases h⟩

theorem back_holds : Rows.OctetBackSaid :=
  OpenClaim.holds_of_wide 5 Try.f5 rfl rfl rfl rfl rfl rfl rfl ⟨rfl, rfl, rfl, rfl, rfl⟩ rfl rfl rfl rfl rfl (by kernel_rfl) Try.func5 (by kernel_rfl)
    (of_decide_eq_true (by kernel_rfl)) (by unfold Func.isWrapper; rw [if_neg (by decide +kernel)]; exact ⟨rfl, rfl⟩)
    (fun os started H enc _ => back_lifted os started H enc)
end Go.Proofs.Ytcjkodcamkcljaa

