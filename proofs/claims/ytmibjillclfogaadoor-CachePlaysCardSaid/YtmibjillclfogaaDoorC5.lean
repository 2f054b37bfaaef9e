/-
  Those that are one are taken out of a row.
-/
import Derived.Test.YtmibjillclfogaaDoorC4
namespace Go.Proofs.YtmibjillclfogaaDoor
open Go Go.RowKit Go.Proofs.Bw
set_option linter.unusedVariables false
set_option linter.unusedSimpArgs false

def flt (p : SP) (l : List SP) : List SP := l.filter fun q => !decide (q = p)
theorem flt_take (p : SP) (l : List SP) (j : Nat) (h : j < l.length) : flt p (l.take (j + 1)) = flt p (l.take j) ++ if l[j] = p then [] else [l[j]] := by
  rw [take_snoc l j h]
  unfold flt
  rw [List.filter_append]
  by_cases e : l[j] = p <;> simp [e]
theorem flt_le (p : SP) (l : List SP) (j : Nat) : (flt p (l.take j)).length ≤ j := by
  have h1 : (flt p (l.take j)).length ≤ (l.take j).length := List.length_filter_le _ _
  rw [List.length_take] at h1; omega
theorem flt_none (p : SP) (l : List SP) (h : p ∉ l) : flt p l = l := by
  unfold flt
  rw [List.filter_eq_self]
  intro q hq
  have : q ≠ p := fun e => h (by rw [← e]; exact hq)
  simp [this]
theorem pix_in (p : SP) (l : List SP) (h : p ∈ l) : ∃ k, ∃ hk : k < l.length, l[k] = p ∧ (∀ j (hj : j < k), l[j]'(by omega) ≠ p) ∧ pix p l 0 = (k : Int) := by
  have key : ∀ n, n ≤ l.length → (∀ j (hj : j < n) (hjl : j < l.length), l[j] ≠ p) ∨ ∃ k, ∃ hk : k < l.length, l[k] = p ∧ ∀ j (hj : j < k), l[j]'(by omega) ≠ p := by
    intro n
    induction n with
    | zero => intro _; exact .inl fun j hj => by omega
    | succ n ih =>
      intro hn
      rcases ih (by omega) with h1 | h1
      · by_cases e : l[n]'(by omega) = p
        · exact .inr ⟨n, by omega, e, fun j hj => h1 j hj (by omega)⟩
        · refine .inl fun j hj hjl => ?_
          by_cases hjn : j = n
          · subst hjn; exact e
          · exact h1 j (by omega) hjl
      · exact .inr h1
  rcases key l.length (Nat.le_refl _) with h1 | ⟨k, hk, he, hn⟩
  · obtain ⟨j, hj, e⟩ := List.mem_iff_getElem.1 h
    exact absurd e (h1 j hj hj)
  · refine ⟨k, hk, he, hn, ?_⟩
    rw [pix_at p l 0 k hk he hn]; simp
theorem pR_set (l : List SP) (i : Nat) (p : SP) : (pR l).set i (prC p) = pR (l.set i p) := by unfold pR; rw [List.map_set]
theorem pR_take (l : List SP) (n : Nat) : (pR l).take n = pR (l.take n) := by simp [pR]
theorem pR_drop (l : List SP) (n : Nat) : (pR l).drop n = pR (l.drop n) := by simp [pR]
set_option maxRecDepth 20000 in
theorem Del_runs {lo : Nat} (A : Option Addr) (c : Nat) (l : List SP) (p : SP) (g : Nat) (w : World) (hO : OwnO w lo 55 2 A c (pR l)) (b : Box w g (prC p)) (hg : ¬ ownOf A g) (hsz : l.length ≤ 1000000) :
    Runs Tryd.prog 22 #[.slice A l.length c, .func (.func 23) #[] #[.pointer (some ⟨g, 0, none⟩)]] w fun v w' =>
      ∃ A' c', v = .slice A' (flt p l).length c' ∧ c' ≤ c ∧ (∀ k, ownOf A' k → ownOf A k) ∧ OwnO w' lo 55 2 A' c' (pR (flt p l)) ∧ Bw.Mod (ownOf A) w w' := by
  have hle := hO.le
  rw [pR_length] at hle
  refine Runs.of_vc (ρ := []) cx_ok [0, 1, 4, 5, 6, 7, 12, 19, 29] [.v (.slice A l.length c), .f 23 [] [.v _]] Tryd.func22 rfl rfl rfl (Holds.nil w) ?_
  refine vcS (Index_runs A c l p g w hO.rd b hsz) (Holds.nil _) fun w1 x1 hh1 => ?_
  refine And.intro (fun h => ?_) (fun h => ?_)
  · have hne : p ∉ l := fun hm => by
      obtain ⟨k, _, _, _, e⟩ := pix_in p l hm
      rw [e] at h
      have := of_decide_eq_true h
      omega
    rw [flt_none p l hne]
    exact ⟨A, c, rfl, Nat.le_refl _, fun _ h => h, hO.ext x1, Mod.mono x1 fun _ h => h.elim⟩
  have hin : p ∈ l := by
    by_cases hm : p ∈ l
    · exact hm
    · rw [pix_no p l 0 hm] at h; simp at h
  obtain ⟨k, hk, he, hn, hpx⟩ := pix_in p l hin
  revert h
  rw [hpx]
  intro h
  refine vsd (by simp only [inKind]; omega) ?_
  have hfk : flt p (l.take k) = l.take k := flt_none p _ fun hm => by
    obtain ⟨j, hj, e⟩ := List.mem_iff_getElem.1 hm
    rw [List.length_take] at hj
    rw [List.getElem_take] at e
    exact hn j (by omega) e
  refine vLoop_mk (σ := Nat × List SP) (fun q => [(0, .v (.slice A l.length c)), (1, .f 23 [] [.v (.pointer (some ⟨g, 0, none⟩))]), (5, .v (.int .i64 (flt p (l.take q.1)).length)), (6, .v (.int .i64 q.1))]) (fun _ => [])
    (fun q w' => k < q.1 ∧ q.1 ≤ l.length ∧ q.2.length = l.length ∧ q.2.take (flt p (l.take q.1)).length = flt p (l.take q.1) ∧ q.2.drop q.1 = l.drop q.1 ∧ OwnO w' lo 55 2 A c (pR q.2) ∧ Bw.Mod (ownOf A) w w') (fun q => l.length - q.1) (k + 1, l) (fun _ => ⟨rfl, rfl⟩)
    ⟨⟨rfl, rfl, by simp only; rw [flt_take p l k hk, if_pos he, hfk, List.append_nil, List.length_take, Nat.min_eq_left (by omega)]; rfl, rfl, trivial⟩, trivial, by simp only; omega, hk, rfl, by simp only; rw [flt_take p l k hk, if_pos he, hfk, List.append_nil, List.length_take, Nat.min_eq_left (by omega)], rfl, hO.ext x1, Mod.mono x1 fun _ h => h.elim⟩ ?_
  rintro ⟨j, cl⟩ w2 hh2 ⟨hkj, hj, hcl, hfront, hback, o2, m2⟩
  simp only at hkj hj hcl hfront hback o2
  have hil := flt_le p l j
  have hilt : (flt p (l.take j)).length < j := by
    have h1 : (flt p (l.take j)).length < (l.take j).length := by
      refine List.length_filter_lt_length_iff_exists.2 ⟨p, ?_, by simp⟩
      rw [← he]
      exact List.mem_iff_getElem.2 ⟨k, by rw [List.length_take]; omega, by rw [List.getElem_take]⟩
    rw [List.length_take] at h1; omega
  refine And.intro (fun h2 => ?_) (fun h2 => ?_)
  · have hlt := of_decide_eq_true h2
    simp only at hlt
    have hjl : j < l.length := by omega
    have hjc : j < cl.length := by omega
    have hcj : cl[j] = l[j] := by
      have := congrArg (fun x => x[0]?) hback
      simp only [List.getElem?_drop, Nat.add_zero] at this
      rw [List.getElem?_eq_getElem hjc, List.getElem?_eq_getElem hjl] at this
      injection this
    obtain ⟨a1, ha1, hR1, hrow⟩ := o2.rd.at (pR_get hjc)
    refine OpT.indexAddr Tryd.underlying51 Tryd.sizeOf55 rfl rfl ha1 (by omega) ?_
    refine Lands.v hh2 ?_
    rw [hcj] at hrow
    refine OpT.loadA (cs := [encStr l[j].1, encStr l[j].2]) Tryd.isAgg55 Tryd.sizeOf55 rfl hrow ?_
    refine Lands.v hh2 ?_
    intro g3 w3 e3 x3 z3 hh3
    intro w4 m4 z4 hh4
    replace m4 : Upd g3 w3 w4 := m4
    have x4 : Ext w2 w4 := x3.upd m4 (by omega)
    have b4 := (b.mod m2 hg).ext x4
    refine vcS (Put1_runs l[j] p g w4 b4) hh4 fun w5 x5 hh5 => ?_
    have x25 := x4.trans x5
    have o5 := o2.ext x25
    have m5 : Bw.Mod (ownOf A) w w5 := m2.trans (Mod.mono x25 fun _ h => h.elim)
    refine And.intro (fun h3 => ?_) (fun h3 => ?_)
    · have hne : l[j] ≠ p := by simpa using h3
      refine OpT.indexAddr Tryd.underlying51 Tryd.sizeOf55 rfl rfl ha1 (by simp only; omega) ?_
      refine Lands.v hh5 ?_
      refine OpT.storeO (r := prC l[j]) (css := pR cl) (i := (flt p (l.take j)).length) Tryd.sizeOf55 ha1 rfl rfl rfl rfl rfl o5 (by rw [pR_length]; omega) fun w6 m6 z6 o6 => ?_
      rw [pR_set] at o6
      have hh6 := hh5.mod m6 (fun i hi hk => by
        have hs := (o2.block ha1).2
        obtain ⟨a, ha, hk⟩ := hk
        rw [ha1] at ha; injection ha with ha; subst ha
        match i, hi with
        | 0, _ => have e : g3 = a1.block := hk; omega)
      refine Lands.v hh6 ?_
      refine vsd (by simp only [inKind]; omega) ?_
      refine vsd (by simp only [inKind]; omega) ?_
      have ef : flt p (l.take (j + 1)) = flt p (l.take j) ++ [l[j]] := by rw [flt_take p l j hjl, if_neg hne]
      refine Exists.intro (j + 1, cl.set (flt p (l.take j)).length l[j]) ⟨by simp only; omega, ⟨rfl, rfl, by simp only; rw [ef, List.length_append]; rfl, rfl, trivial⟩, trivial, by simp only; omega, hjl, by simp only [List.length_set]; exact hcl, ?_, ?_, o6, m5.trans m6⟩
      · simp only
        rw [ef, List.length_append, List.length_cons, List.length_nil, Nat.zero_add, List.take_succ_eq_append_getElem (by rw [List.length_set]; omega), List.take_set_of_le (Nat.le_refl _), hfront]
        simp
      · simp only
        rw [List.drop_set_of_lt (by omega), ← List.drop_drop, hback, List.drop_drop]
    · have heq : l[j] = p := by simpa using h3
      refine vsd (by simp only [inKind]; omega) ?_
      have ef : flt p (l.take (j + 1)) = flt p (l.take j) := by rw [flt_take p l j hjl, if_pos heq, List.append_nil]
      exact Exists.intro (j + 1, cl) ⟨by simp only; omega, ⟨rfl, rfl, by simp only; rw [ef]; rfl, rfl, trivial⟩, trivial, by simp only; omega, hjl, hcl, by simp only; rw [ef]; exact hfront, by simp only; rw [← List.drop_drop, hback, List.drop_drop], o5, m5⟩
  · have hge := of_decide_eq_false h2
    simp only at hge
    have hjl : j = l.length := by omega
    subst hjl
    rw [List.take_length] at hfront hilt hil
    have efl : flt p (l.take l.length) = flt p l := by rw [List.take_length]
    refine OpT.slice (i := ((flt p (l.take l.length)).length : Int)) (j := (l.length : Int)) Tryd.underlying51 Tryd.sizeOf55 rfl rfl rfl (by rw [efl]; omega) ?_
    refine Lands.v hh2 ?_
    refine OpT.clearO (bytes := 0) (A := A) (c := c) (css := pR cl) (i := (flt p (l.take l.length)).length) (m := l.length - (flt p (l.take l.length)).length) (z := .agg #[.string ⟨#[]⟩, .string ⟨#[]⟩]) Tryd.underlying51 Tryd.zeroValue55 rfl rfl rfl o2 (by rw [pR_length, efl]; omega) fun w3 m3 z3 o3 => ?_
    refine Lands.v (Holds.nil' rfl hh2) ?_
    refine OpT.sliceO (i := 0) (j := ((flt p (l.take l.length)).length : Int)) (m := (flt p (l.take l.length)).length) Tryd.underlying51 Tryd.sizeOf55 rfl rfl rfl o3 (Nat.zero_le _) (by rw [efl]; omega) (by simp) fun A' hA' o4 => ?_
    refine Lands.v (Holds.nil' rfl hh2) ?_
    rw [pR_take, efl, hfront] at o4
    rw [efl]
    exact ⟨A', c - Int.toNat 0, rfl, Nat.sub_le _ _, hA', o4, m2.trans m3⟩
end Go.Proofs.YtmibjillclfogaaDoor

