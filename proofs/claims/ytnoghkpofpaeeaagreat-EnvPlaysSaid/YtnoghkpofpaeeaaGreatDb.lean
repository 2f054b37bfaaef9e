import Derived.Test.YtnoghkpofpaeeaaGreatDa
/-
  The document's levels: with levels as parameters.
-/
namespace Go.Proofs.YtnoghkpofpaeeaaGreat
open Go Go.RowKit Go.Proofs.Bw
set_option linter.unusedVariables false
set_option linter.unusedSimpArgs false

theorem four {i : Nat} (h : (i : Int) < 4) : i = 0 ∨ i = 1 ∨ i = 2 ∨ i = 3 := by omega
theorem setP_p (l : L) (i j : Nat) (v : Int) (h : i < j) (hj : j < 4) : (setP l i v).p j = l.p j := by
  have hi : i = 0 ∨ i = 1 ∨ i = 2 := by omega
  have hj : j = 1 ∨ j = 2 ∨ j = 3 := by omega
  rcases hi with rfl | rfl | rfl <;> rcases hj with rfl | rfl | rfl <;> first | rfl | omega
def fC (l : L) : Nat → Int
  | 0 => l.c
  | i + 1 => if 0 ≤ l.p i ∧ fC l i ≤ l.p i then 0 else fC l i
theorem fC_form (l : L) : L.form l = { l with c := fC l 4 } := by
  unfold L.form
  simp only [fC, L.p]
  split
  · rename_i h
    congr 1
    repeat' split
    all_goals omega
  · rename_i h
    cases l
    simp only at h ⊢
    congr 1
    repeat' split
    all_goals omega
set_option maxRecDepth 20000 in
theorem rform_runs (l : L) (w : World) : Runs Tryz.prog 118 #[.agg l.cells.toArray] w fun v w' => v = .agg (L.form l).cells.toArray ∧ Ext w w' := by
  refine Runs.of_vc (ρ := []) cx_ok [0, 1, 2, 3, 5, 21] [.a [.v (.int .i64 l.c), .v (.int .i64 l.p0), .v (.int .i64 l.p1), .v (.int .i64 l.p2), .v (.int .i64 l.p3)]] Tryz.func118 rfl rfl rfl (Holds.nil w) ?_
  intro g1 w1 e1 x1 z1 hh1
  intro g2 w2 e2 x2 z2 hh2
  refine vLoop_upd (σ := Nat × Int) [3, 4, 5, 6, 7, 8, 9, 10, 11, 12, 13, 14, 15, 16, 17, 18, 19, 20, 21, 22] (fun s => [(3, .v (.int .i64 s.1))]) [0] (fun s => [(0, [.v (.int .i64 s.2), .v (.int .i64 l.p0), .v (.int .i64 l.p1), .v (.int .i64 l.p2), .v (.int .i64 l.p3)])]) (fun s w' => Ext w w' ∧ w2.heap.size ≤ w'.heap.size ∧ s.1 ≤ 4 ∧ s.2 = fC l s.1) (fun s => 4 - s.1) (0, l.c) (fun _ => ⟨rfl, rfl⟩)
    ⟨(by repeat (first | exact trivial | refine And.intro rfl ?_)), (by repeat (first | exact trivial | refine And.intro rfl ?_)), (by repeat (first | exact trivial | refine And.intro rfl ?_)), (by repeat (first | exact trivial | refine And.intro rfl ?_)), x1.trans x2, Nat.le_refl _, by simp, rfl⟩ ?_
  rintro ⟨i, c⟩ w3 hh3 ⟨x3, q3, hi, hc⟩
  simp only at hi hc
  refine Or.inl (And.intro (fun h => ?_) (fun h => ?_))
  · rcases four (of_decide_eq_true h) with rfl | rfl | rfl | rfl
    · refine vDrw_mk [] (.one 0 (.one 1 (.one 2 (.one 3 (.one 4 (.one 5 (.one 6 (.one 7 (.one 8 (.one 9 (.one 10 (.one 11 (.one 12 (.one 13 .nil)))))))))))))) rfl fun w4 x4 hh4 => ?_
      refine Exists.intro (.p 0 1) (And.intro rfl (And.intro (fun w' xx hh => OpT.indexAddrArr Tryz.underlying67 Tryz.sizeOf3 rfl rfl (by simp) ⟨rfl, rfl⟩) ?_))
      refine Exists.intro (.p 0 1) (And.intro rfl (And.intro (fun w' xx hh _ => OpT.indexAddrArr Tryz.underlying67 Tryz.sizeOf3 rfl rfl (by simp) ⟨rfl, rfl⟩) ?_))
      have hs : fC l (0 + 1) = if 0 ≤ l.p0 ∧ fC l 0 ≤ l.p0 then 0 else fC l 0 := rfl
      rw [← hc] at hs
      have q4 := x4.size
      refine Or.inl (And.intro (fun h => ?_) (fun h => ?_))
      · have hp : 0 ≤ l.p0 ∧ c ≤ l.p0 := by revert h; unfold sel; by_cases h1 : 0 ≤ l.p0 <;> simp [h1]
        rw [if_pos hp] at hs
        intro w5 m5 z5 hh5
        replace m5 : Upd g1 w4 w5 := m5
        refine vsd (by simp only [inKind]; omega) ?_
        exact Exists.intro ((1, 0)) ⟨by simp, esub_over (by repeat (first | exact trivial | refine And.intro rfl ?_)) (by repeat (first | exact trivial | refine And.intro rfl ?_)), hsub_over (by repeat (first | exact trivial | refine And.intro rfl ?_)) (by repeat (first | exact trivial | refine And.intro rfl ?_)), (x3.trans x4).upd m5 (by omega), by omega, by simp, hs.symm⟩
      · have hp : ¬ (0 ≤ l.p0 ∧ c ≤ l.p0) := by revert h; unfold sel; by_cases h1 : 0 ≤ l.p0 <;> simp [h1]
        rw [if_neg hp] at hs
        refine vsd (by simp only [inKind]; omega) ?_
        exact Exists.intro ((1, c)) ⟨by simp, esub_over (by repeat (first | exact trivial | refine And.intro rfl ?_)) (by repeat (first | exact trivial | refine And.intro rfl ?_)), hsub_over (by repeat (first | exact trivial | refine And.intro rfl ?_)) (by repeat (first | exact trivial | refine And.intro rfl ?_)), x3.trans x4, by omega, by simp, hs.symm⟩
    · refine vDrw_mk [] (.one 0 (.one 1 (.one 2 (.one 3 (.one 4 (.one 5 (.one 6 (.one 7 (.one 8 (.one 9 (.one 10 (.one 11 (.one 12 (.one 13 .nil)))))))))))))) rfl fun w4 x4 hh4 => ?_
      refine Exists.intro (.p 0 2) (And.intro rfl (And.intro (fun w' xx hh => OpT.indexAddrArr Tryz.underlying67 Tryz.sizeOf3 rfl rfl (by simp) ⟨rfl, rfl⟩) ?_))
      refine Exists.intro (.p 0 2) (And.intro rfl (And.intro (fun w' xx hh _ => OpT.indexAddrArr Tryz.underlying67 Tryz.sizeOf3 rfl rfl (by simp) ⟨rfl, rfl⟩) ?_))
      have hs : fC l (1 + 1) = if 0 ≤ l.p1 ∧ fC l 1 ≤ l.p1 then 0 else fC l 1 := rfl
      rw [← hc] at hs
      have q4 := x4.size
      refine Or.inl (And.intro (fun h => ?_) (fun h => ?_))
      · have hp : 0 ≤ l.p1 ∧ c ≤ l.p1 := by revert h; unfold sel; by_cases h1 : 0 ≤ l.p1 <;> simp [h1]
        rw [if_pos hp] at hs
        intro w5 m5 z5 hh5
        replace m5 : Upd g1 w4 w5 := m5
        refine vsd (by simp only [inKind]; omega) ?_
        exact Exists.intro ((2, 0)) ⟨by simp, esub_over (by repeat (first | exact trivial | refine And.intro rfl ?_)) (by repeat (first | exact trivial | refine And.intro rfl ?_)), hsub_over (by repeat (first | exact trivial | refine And.intro rfl ?_)) (by repeat (first | exact trivial | refine And.intro rfl ?_)), (x3.trans x4).upd m5 (by omega), by omega, by simp, hs.symm⟩
      · have hp : ¬ (0 ≤ l.p1 ∧ c ≤ l.p1) := by revert h; unfold sel; by_cases h1 : 0 ≤ l.p1 <;> simp [h1]
        rw [if_neg hp] at hs
        refine vsd (by simp only [inKind]; omega) ?_
        exact Exists.intro ((2, c)) ⟨by simp, esub_over (by repeat (first | exact trivial | refine And.intro rfl ?_)) (by repeat (first | exact trivial | refine And.intro rfl ?_)), hsub_over (by repeat (first | exact trivial | refine And.intro rfl ?_)) (by repeat (first | exact trivial | refine And.intro rfl ?_)), x3.trans x4, by omega, by simp, hs.symm⟩
    · refine vDrw_mk [] (.one 0 (.one 1 (.one 2 (.one 3 (.one 4 (.one 5 (.one 6 (.one 7 (.one 8 (.one 9 (.one 10 (.one 11 (.one 12 (.one 13 .nil)))))))))))))) rfl fun w4 x4 hh4 => ?_
      refine Exists.intro (.p 0 3) (And.intro rfl (And.intro (fun w' xx hh => OpT.indexAddrArr Tryz.underlying67 Tryz.sizeOf3 rfl rfl (by simp) ⟨rfl, rfl⟩) ?_))
      refine Exists.intro (.p 0 3) (And.intro rfl (And.intro (fun w' xx hh _ => OpT.indexAddrArr Tryz.underlying67 Tryz.sizeOf3 rfl rfl (by simp) ⟨rfl, rfl⟩) ?_))
      have hs : fC l (2 + 1) = if 0 ≤ l.p2 ∧ fC l 2 ≤ l.p2 then 0 else fC l 2 := rfl
      rw [← hc] at hs
      have q4 := x4.size
      refine Or.inl (And.intro (fun h => ?_) (fun h => ?_))
      · have hp : 0 ≤ l.p2 ∧ c ≤ l.p2 := by revert h; unfold sel; by_cases h1 : 0 ≤ l.p2 <;> simp [h1]
        rw [if_pos hp] at hs
        intro w5 m5 z5 hh5
        replace m5 : Upd g1 w4 w5 := m5
        refine vsd (by simp only [inKind]; omega) ?_
        exact Exists.intro ((3, 0)) ⟨by simp, esub_over (by repeat (first | exact trivial | refine And.intro rfl ?_)) (by repeat (first | exact trivial | refine And.intro rfl ?_)), hsub_over (by repeat (first | exact trivial | refine And.intro rfl ?_)) (by repeat (first | exact trivial | refine And.intro rfl ?_)), (x3.trans x4).upd m5 (by omega), by omega, by simp, hs.symm⟩
      · have hp : ¬ (0 ≤ l.p2 ∧ c ≤ l.p2) := by revert h; unfold sel; by_cases h1 : 0 ≤ l.p2 <;> simp [h1]
        rw [if_neg hp] at hs
        refine vsd (by simp only [inKind]; omega) ?_
        exact Exists.intro ((3, c)) ⟨by simp, esub_over (by repeat (first | exact trivial | refine And.intro rfl ?_)) (by repeat (first | exact trivial | refine And.intro rfl ?_)), hsub_over (by repeat (first | exact trivial | refine And.intro rfl ?_)) (by repeat (first | exact trivial | refine And.intro rfl ?_)), x3.trans x4, by omega, by simp, hs.symm⟩
    · refine vDrw_mk [] (.one 0 (.one 1 (.one 2 (.one 3 (.one 4 (.one 5 (.one 6 (.one 7 (.one 8 (.one 9 (.one 10 (.one 11 (.one 12 (.one 13 .nil)))))))))))))) rfl fun w4 x4 hh4 => ?_
      refine Exists.intro (.p 0 4) (And.intro rfl (And.intro (fun w' xx hh => OpT.indexAddrArr Tryz.underlying67 Tryz.sizeOf3 rfl rfl (by simp) ⟨rfl, rfl⟩) ?_))
      refine Exists.intro (.p 0 4) (And.intro rfl (And.intro (fun w' xx hh _ => OpT.indexAddrArr Tryz.underlying67 Tryz.sizeOf3 rfl rfl (by simp) ⟨rfl, rfl⟩) ?_))
      have hs : fC l (3 + 1) = if 0 ≤ l.p3 ∧ fC l 3 ≤ l.p3 then 0 else fC l 3 := rfl
      rw [← hc] at hs
      have q4 := x4.size
      refine Or.inl (And.intro (fun h => ?_) (fun h => ?_))
      · have hp : 0 ≤ l.p3 ∧ c ≤ l.p3 := by revert h; unfold sel; by_cases h1 : 0 ≤ l.p3 <;> simp [h1]
        rw [if_pos hp] at hs
        intro w5 m5 z5 hh5
        replace m5 : Upd g1 w4 w5 := m5
        refine vsd (by simp only [inKind]; omega) ?_
        exact Exists.intro ((4, 0)) ⟨by simp, esub_over (by repeat (first | exact trivial | refine And.intro rfl ?_)) (by repeat (first | exact trivial | refine And.intro rfl ?_)), hsub_over (by repeat (first | exact trivial | refine And.intro rfl ?_)) (by repeat (first | exact trivial | refine And.intro rfl ?_)), (x3.trans x4).upd m5 (by omega), by omega, by simp, hs.symm⟩
      · have hp : ¬ (0 ≤ l.p3 ∧ c ≤ l.p3) := by revert h; unfold sel; by_cases h1 : 0 ≤ l.p3 <;> simp [h1]
        rw [if_neg hp] at hs
        refine vsd (by simp only [inKind]; omega) ?_
        exact Exists.intro ((4, c)) ⟨by simp, esub_over (by repeat (first | exact trivial | refine And.intro rfl ?_)) (by repeat (first | exact trivial | refine And.intro rfl ?_)), hsub_over (by repeat (first | exact trivial | refine And.intro rfl ?_)) (by repeat (first | exact trivial | refine And.intro rfl ?_)), x3.trans x4, by omega, by simp, hs.symm⟩
  · obtain rfl : i = 4 := by have := of_decide_eq_false h; simp only at this; omega
    intro w4 m4 z4 hh4
    replace m4 : Upd g2 w3 w4 := m4
    rw [fC_form l, ← hc]
    exact ⟨rfl, x3.upd m4 (by omega)⟩
def moreTo (l : L) (n : Int) : Nat → L
  | 0 => { l with c := l.c + n }
  | i + 1 => if 0 ≤ l.p i then setP (moreTo l n i) i (l.p i + n) else moreTo l n i
def moreP (l : L) (n : Int) : L := ⟨l.c + n, if 0 ≤ l.p0 then l.p0 + n else l.p0, if 0 ≤ l.p1 then l.p1 + n else l.p1, if 0 ≤ l.p2 then l.p2 + n else l.p2, if 0 ≤ l.p3 then l.p3 + n else l.p3⟩
theorem moreTo_4 (l : L) (n : Int) : moreTo l n 4 = moreP l n := by
  simp only [moreTo, moreP, L.p]
  by_cases h0 : 0 ≤ l.p0 <;> by_cases h1 : 0 ≤ l.p1 <;> by_cases h2 : 0 ≤ l.p2 <;> by_cases h3 : 0 ≤ l.p3 <;> simp [h0, h1, h2, h3, setP]
theorem moreTo_p (l : L) (n : Int) : ∀ i j, i ≤ j → (moreTo l n i).p j = l.p j ∨ 4 ≤ j
  | 0, j, _ => .inl (by match j with | 0 => rfl | 1 => rfl | 2 => rfl | j + 3 => rfl)
  | i + 1, j, h => by
    by_cases hj : 4 ≤ j
    · exact .inr hj
    · left
      simp only [moreTo]
      have ih := (moreTo_p l n i j (by omega)).resolve_right hj
      split
      · rw [← ih]; exact setP_p _ _ _ _ (by omega) (by omega)
      · exact ih
set_option maxRecDepth 20000 in
theorem rmore_runs (l : L) (n : Int) (w : World) (hl : L.sm l) (hn : -1 ≤ n ∧ n ≤ 1099511627776) : Runs Tryz.prog 101 #[.agg l.cells.toArray, .int .i64 n] w fun v w' => v = .agg (L.form (moreP l n)).cells.toArray ∧ Ext w w' := by
  refine Runs.of_vc (ρ := []) cx_ok [0, 1, 2, 4, 5, 12, 19] [.a [.v (.int .i64 l.c), .v (.int .i64 l.p0), .v (.int .i64 l.p1), .v (.int .i64 l.p2), .v (.int .i64 l.p3)], .v _] Tryz.func101 rfl rfl rfl (Holds.nil w) ?_
  intro g1 w1 e1 x1 z1 hh1
  intro g2 w2 e2 x2 z2 hh2
  have hc := hl.1
  refine vsd (by simp only [inKind]; omega) ?_
  intro w3 m3 z3 hh3
  replace m3 : Upd g1 w2 w3 := m3
  have x3 : Ext w w3 := (x1.trans x2).upd m3 (by omega)
  refine vLoop_upd (σ := Nat × L) [5, 11, 12, 13, 14, 15, 16, 17, 18, 19, 20, 21, 22, 23, 24, 25, 26, 27] (fun s => [(5, .v (.int .i64 s.1))]) [0] (fun s => [(0, [.v (.int .i64 s.2.c), .v (.int .i64 s.2.p0), .v (.int .i64 s.2.p1), .v (.int .i64 s.2.p2), .v (.int .i64 s.2.p3)])]) (fun s w' => Ext w w' ∧ w3.heap.size ≤ w'.heap.size ∧ s.1 ≤ 4 ∧ s.2 = moreTo l n s.1) (fun s => 4 - s.1) (0, { l with c := l.c + n }) (fun _ => ⟨rfl, rfl⟩)
    ⟨(by repeat (first | exact trivial | refine And.intro rfl ?_)), (by repeat (first | exact trivial | refine And.intro rfl ?_)), (by repeat (first | exact trivial | refine And.intro rfl ?_)), (by repeat (first | exact trivial | refine And.intro rfl ?_)), x3, Nat.le_refl _, by simp, rfl⟩ ?_
  rintro ⟨i, q⟩ w4 hh4 ⟨x4, q4, hi, hq⟩
  simp only at hi hq
  refine Or.inl (And.intro (fun h => ?_) (fun h => ?_))
  · rcases four (of_decide_eq_true h) with rfl | rfl | rfl | rfl
    · have hp := hl.2 0
      simp only [L.p] at hp
      have hqp : q.p0 = l.p0 := by have := (moreTo_p l n 0 0 (by omega)).resolve_right (by omega); rw [← hq] at this; exact this
      have hs : moreTo l n (0 + 1) = if 0 ≤ l.p0 then setP (moreTo l n 0) 0 (l.p0 + n) else moreTo l n 0 := rfl
      rw [← hq, ← hqp] at hs
      rw [← hqp] at hp
      refine OpT.indexAddrArr Tryz.underlying67 Tryz.sizeOf3 rfl rfl (by simp) ?_
      refine Lands.ret (s := .p 0 1) rfl rfl hh4 ?_
      refine Or.inl (And.intro (fun h => ?_) (fun h => ?_))
      · have hp0 : 0 ≤ q.p0 := of_decide_eq_true h
        rw [if_pos hp0] at hs
        refine OpT.indexAddrArr Tryz.underlying67 Tryz.sizeOf3 rfl rfl (by simp) ?_
        refine Lands.ret (s := .p 0 1) rfl rfl hh4 ?_
        refine vsd (by simp only [inKind]; omega) ?_
        refine OpT.indexAddrArr Tryz.underlying67 Tryz.sizeOf3 rfl rfl (by simp) ?_
        refine Lands.ret (s := .p 0 1) rfl rfl hh4 ?_
        intro w5 m5 z5 hh5
        replace m5 : Upd g1 w4 w5 := m5
        refine vsd (by simp only [inKind]; omega) ?_
        exact Exists.intro ((1, setP q 0 (q.p0 + n))) ⟨by simp, esub_over (by repeat (first | exact trivial | refine And.intro rfl ?_)) (by repeat (first | exact trivial | refine And.intro rfl ?_)), hsub_over (by repeat (first | exact trivial | refine And.intro rfl ?_)) (by repeat (first | exact trivial | refine And.intro rfl ?_)), x4.upd m5 (by omega), by omega, by simp, hs.symm⟩
      · have hp0 : ¬ 0 ≤ q.p0 := of_decide_eq_false h
        rw [if_neg hp0] at hs
        refine vsd (by simp only [inKind]; omega) ?_
        exact Exists.intro ((1, q)) ⟨by simp, esub_over (by repeat (first | exact trivial | refine And.intro rfl ?_)) (by repeat (first | exact trivial | refine And.intro rfl ?_)), hsub_over (by repeat (first | exact trivial | refine And.intro rfl ?_)) (by repeat (first | exact trivial | refine And.intro rfl ?_)), x4, by omega, by simp, hs.symm⟩
    · have hp := hl.2 1
      simp only [L.p] at hp
      have hqp : q.p1 = l.p1 := by have := (moreTo_p l n 1 1 (by omega)).resolve_right (by omega); rw [← hq] at this; exact this
      have hs : moreTo l n (1 + 1) = if 0 ≤ l.p1 then setP (moreTo l n 1) 1 (l.p1 + n) else moreTo l n 1 := rfl
      rw [← hq, ← hqp] at hs
      rw [← hqp] at hp
      refine OpT.indexAddrArr Tryz.underlying67 Tryz.sizeOf3 rfl rfl (by simp) ?_
      refine Lands.ret (s := .p 0 2) rfl rfl hh4 ?_
      refine Or.inl (And.intro (fun h => ?_) (fun h => ?_))
      · have hp0 : 0 ≤ q.p1 := of_decide_eq_true h
        rw [if_pos hp0] at hs
        refine OpT.indexAddrArr Tryz.underlying67 Tryz.sizeOf3 rfl rfl (by simp) ?_
        refine Lands.ret (s := .p 0 2) rfl rfl hh4 ?_
        refine vsd (by simp only [inKind]; omega) ?_
        refine OpT.indexAddrArr Tryz.underlying67 Tryz.sizeOf3 rfl rfl (by simp) ?_
        refine Lands.ret (s := .p 0 2) rfl rfl hh4 ?_
        intro w5 m5 z5 hh5
        replace m5 : Upd g1 w4 w5 := m5
        refine vsd (by simp only [inKind]; omega) ?_
        exact Exists.intro ((2, setP q 1 (q.p1 + n))) ⟨by simp, esub_over (by repeat (first | exact trivial | refine And.intro rfl ?_)) (by repeat (first | exact trivial | refine And.intro rfl ?_)), hsub_over (by repeat (first | exact trivial | refine And.intro rfl ?_)) (by repeat (first | exact trivial | refine And.intro rfl ?_)), x4.upd m5 (by omega), by omega, by simp, hs.symm⟩
      · have hp0 : ¬ 0 ≤ q.p1 := of_decide_eq_false h
        rw [if_neg hp0] at hs
        refine vsd (by simp only [inKind]; omega) ?_
        exact Exists.intro ((2, q)) ⟨by simp, esub_over (by repeat (first | exact trivial | refine And.intro rfl ?_)) (by repeat (first | exact trivial | refine And.intro rfl ?_)), hsub_over (by repeat (first | exact trivial | refine And.intro rfl ?_)) (by repeat (first | exact trivial | refine And.intro rfl ?_)), x4, by omega, by simp, hs.symm⟩
    · have hp := hl.2 2
      simp only [L.p] at hp
      have hqp : q.p2 = l.p2 := by have := (moreTo_p l n 2 2 (by omega)).resolve_right (by omega); rw [← hq] at this; exact this
      have hs : moreTo l n (2 + 1) = if 0 ≤ l.p2 then setP (moreTo l n 2) 2 (l.p2 + n) else moreTo l n 2 := rfl
      rw [← hq, ← hqp] at hs
      rw [← hqp] at hp
      refine OpT.indexAddrArr Tryz.underlying67 Tryz.sizeOf3 rfl rfl (by simp) ?_
      refine Lands.ret (s := .p 0 3) rfl rfl hh4 ?_
      refine Or.inl (And.intro (fun h => ?_) (fun h => ?_))
      · have hp0 : 0 ≤ q.p2 := of_decide_eq_true h
        rw [if_pos hp0] at hs
        refine OpT.indexAddrArr Tryz.underlying67 Tryz.sizeOf3 rfl rfl (by simp) ?_
        refine Lands.ret (s := .p 0 3) rfl rfl hh4 ?_
        refine vsd (by simp only [inKind]; omega) ?_
        refine OpT.indexAddrArr Tryz.underlying67 Tryz.sizeOf3 rfl rfl (by simp) ?_
        refine Lands.ret (s := .p 0 3) rfl rfl hh4 ?_
        intro w5 m5 z5 hh5
        replace m5 : Upd g1 w4 w5 := m5
        refine vsd (by simp only [inKind]; omega) ?_
        exact Exists.intro ((3, setP q 2 (q.p2 + n))) ⟨by simp, esub_over (by repeat (first | exact trivial | refine And.intro rfl ?_)) (by repeat (first | exact trivial | refine And.intro rfl ?_)), hsub_over (by repeat (first | exact trivial | refine And.intro rfl ?_)) (by repeat (first | exact trivial | refine And.intro rfl ?_)), x4.upd m5 (by omega), by omega, by simp, hs.symm⟩
      · have hp0 : ¬ 0 ≤ q.p2 := of_decide_eq_false h
        rw [if_neg hp0] at hs
        refine vsd (by simp only [inKind]; omega) ?_
        exact Exists.intro ((3, q)) ⟨by simp, esub_over (by repeat (first | exact trivial | refine And.intro rfl ?_)) (by repeat (first | exact trivial | refine And.intro rfl ?_)), hsub_over (by repeat (first | exact trivial | refine And.intro rfl ?_)) (by repeat (first | exact trivial | refine And.intro rfl ?_)), x4, by omega, by simp, hs.symm⟩
    · have hp := hl.2 3
      simp only [L.p] at hp
      have hqp : q.p3 = l.p3 := by have := (moreTo_p l n 3 3 (by omega)).resolve_right (by omega); rw [← hq] at this; exact this
      have hs : moreTo l n (3 + 1) = if 0 ≤ l.p3 then setP (moreTo l n 3) 3 (l.p3 + n) else moreTo l n 3 := rfl
      rw [← hq, ← hqp] at hs
      rw [← hqp] at hp
      refine OpT.indexAddrArr Tryz.underlying67 Tryz.sizeOf3 rfl rfl (by simp) ?_
      refine Lands.ret (s := .p 0 4) rfl rfl hh4 ?_
      refine Or.inl (And.intro (fun h => ?_) (fun h => ?_))
      · have hp0 : 0 ≤ q.p3 := of_decide_eq_true h
        rw [if_pos hp0] at hs
        refine OpT.indexAddrArr Tryz.underlying67 Tryz.sizeOf3 rfl rfl (by simp) ?_
        refine Lands.ret (s := .p 0 4) rfl rfl hh4 ?_
        refine vsd (by simp only [inKind]; omega) ?_
        refine OpT.indexAddrArr Tryz.underlying67 Tryz.sizeOf3 rfl rfl (by simp) ?_
        refine Lands.ret (s := .p 0 4) rfl rfl hh4 ?_
        intro w5 m5 z5 hh5
        replace m5 : Upd g1 w4 w5 := m5
        refine vsd (by simp only [inKind]; omega) ?_
        exact Exists.intro ((4, setP q 3 (q.p3 + n))) ⟨by simp, esub_over (by repeat (first | exact trivial | refine And.intro rfl ?_)) (by repeat (first | exact trivial | refine And.intro rfl ?_)), hsub_over (by repeat (first | exact trivial | refine And.intro rfl ?_)) (by repeat (first | exact trivial | refine And.intro rfl ?_)), x4.upd m5 (by omega), by omega, by simp, hs.symm⟩
      · have hp0 : ¬ 0 ≤ q.p3 := of_decide_eq_false h
        rw [if_neg hp0] at hs
        refine vsd (by simp only [inKind]; omega) ?_
        exact Exists.intro ((4, q)) ⟨by simp, esub_over (by repeat (first | exact trivial | refine And.intro rfl ?_)) (by repeat (first | exact trivial | refine And.intro rfl ?_)), hsub_over (by repeat (first | exact trivial | refine And.intro rfl ?_)) (by repeat (first | exact trivial | refine And.intro rfl ?_)), x4, by omega, by simp, hs.symm⟩
  · obtain rfl : i = 4 := by have := of_decide_eq_false h; simp only at this; omega
    rw [moreTo_4] at hq
    subst hq
    refine (rform_runs (moreP l n) w4).mono ?_
    rintro _ w5 ⟨rfl, x5⟩
    have hh5 := hh4.ext x5
    have z5 := x5.size
    refine Lands.ret (s := .a [.v (.int .i64 (L.form (moreP l n)).c), .v (.int .i64 (L.form (moreP l n)).p0), .v (.int .i64 (L.form (moreP l n)).p1), .v (.int .i64 (L.form (moreP l n)).p2), .v (.int .i64 (L.form (moreP l n)).p3)]) rfl rfl hh5 ?_
    intro w6 m6 z6 hh6
    replace m6 : Upd g2 w5 w6 := m6
    exact ⟨rfl, (x4.trans x5).upd m6 (by omega)⟩
def bothTo (a b : L) : Nat → L
  | 0 => { a with c := mx a.c b.c }
  | i + 1 => setP (bothTo a b i) i (mx (a.p i) (b.p i))
def bothP (a b : L) : L := ⟨mx a.c b.c, mx a.p0 b.p0, mx a.p1 b.p1, mx a.p2 b.p2, mx a.p3 b.p3⟩
theorem bothTo_4 (a b : L) : bothTo a b 4 = bothP a b := rfl
theorem bothTo_p (a b : L) : ∀ i j, i ≤ j → (bothTo a b i).p j = a.p j ∨ 4 ≤ j
  | 0, j, _ => .inl (by match j with | 0 => rfl | 1 => rfl | 2 => rfl | j + 3 => rfl)
  | i + 1, j, h => by
    by_cases hj : 4 ≤ j
    · exact .inr hj
    · left
      have ih := (bothTo_p a b i j (by omega)).resolve_right hj
      rw [← ih]; exact setP_p _ _ _ _ (by omega) (by omega)
set_option maxRecDepth 20000 in
theorem rboth_runs (a b : L) (w : World) : Runs Tryz.prog 100 #[.agg a.cells.toArray, .agg b.cells.toArray] w fun v w' => v = .agg (L.form (bothP a b)).cells.toArray ∧ Ext w w' := by
  refine Runs.of_vc (ρ := []) cx_ok [0, 1, 2, 3, 4, 5, 13] [.a [.v (.int .i64 a.c), .v (.int .i64 a.p0), .v (.int .i64 a.p1), .v (.int .i64 a.p2), .v (.int .i64 a.p3)], .a [.v (.int .i64 b.c), .v (.int .i64 b.p0), .v (.int .i64 b.p1), .v (.int .i64 b.p2), .v (.int .i64 b.p3)]] Tryz.func100 rfl rfl rfl (Holds.nil w) ?_
  intro g0 w0 e0 x0 z0 hh0
  intro g1 w1 e1 x1 z1 hh1
  intro g2 w2 e2 x2 z2 hh2
  intro w3 m3 z3 hh3
  replace m3 : Upd g0 w2 w3 := m3
  have x3 : Ext w w3 := (x0.trans (x1.trans x2)).upd m3 (by omega)
  refine vLoop_upd (σ := Nat × L) [5, 12, 13, 14, 15, 16, 17, 18, 19, 20, 21, 22, 23, 24, 25, 26, 27] (fun s => [(5, .v (.int .i64 s.1))]) [0] (fun s => [(0, [.v (.int .i64 s.2.c), .v (.int .i64 s.2.p0), .v (.int .i64 s.2.p1), .v (.int .i64 s.2.p2), .v (.int .i64 s.2.p3)])]) (fun s w' => Ext w w' ∧ w3.heap.size ≤ w'.heap.size ∧ s.1 ≤ 4 ∧ s.2 = bothTo a b s.1) (fun s => 4 - s.1) (0, { a with c := mx a.c b.c }) (fun _ => ⟨rfl, rfl⟩)
    ⟨(by repeat (first | exact trivial | refine And.intro rfl ?_)), (by repeat (first | exact trivial | refine And.intro rfl ?_)), (by repeat (first | exact trivial | refine And.intro rfl ?_)), (by repeat (first | exact trivial | refine And.intro rfl ?_)), x3, Nat.le_refl _, by simp, rfl⟩ ?_
  rintro ⟨i, q⟩ w4 hh4 ⟨x4, q4, hi, hq⟩
  simp only at hi hq
  refine Or.inl (And.intro (fun h => ?_) (fun h => ?_))
  · rcases four (of_decide_eq_true h) with rfl | rfl | rfl | rfl
    · have hqp : q.p0 = a.p0 := by have := (bothTo_p a b 0 0 (by omega)).resolve_right (by omega); rw [← hq] at this; exact this
      have hs : bothTo a b (0 + 1) = setP (bothTo a b 0) 0 (mx a.p0 b.p0) := rfl
      rw [← hq, ← hqp] at hs
      refine vDrw_mk [12] (.one 0 (.one 1 (.one 2 (.one 3 (.one 4 (.one 5 (.one 6 (.one 7 (.one 8 (.one 9 (.one 10 (.one 11 (.one 12 .nil))))))))))))) rfl fun w5 x5 hh5 => ?_
      refine Exists.intro (.p 0 1) (And.intro rfl (And.intro (fun w' xx hh => OpT.indexAddrArr Tryz.underlying67 Tryz.sizeOf3 rfl rfl (by simp) ⟨rfl, rfl⟩) ?_))
      refine Exists.intro (.p 1 1) (And.intro rfl (And.intro (fun w' xx hh => OpT.indexAddrArr Tryz.underlying67 Tryz.sizeOf3 rfl rfl (by simp) ⟨rfl, rfl⟩) ?_))
      refine Exists.intro (.p 0 1) (And.intro rfl (And.intro (fun w' xx hh => OpT.indexAddrArr Tryz.underlying67 Tryz.sizeOf3 rfl rfl (by simp) ⟨rfl, rfl⟩) ?_))
      have q5 := x5.size
      intro w6 m6 z6 hh6
      replace m6 : Upd g0 w5 w6 := m6
      refine vsd (by simp only [inKind]; omega) ?_
      exact Exists.intro ((1, setP q 0 (mx q.p0 b.p0))) ⟨by simp, esub_over (by repeat (first | exact trivial | refine And.intro rfl ?_)) (by repeat (first | exact trivial | refine And.intro rfl ?_)), hsub_over (by repeat (first | exact trivial | refine And.intro rfl ?_)) (by repeat (first | exact trivial | refine And.intro rfl ?_)), (x4.trans x5).upd m6 (by omega), by omega, by simp, hs.symm⟩
    · have hqp : q.p1 = a.p1 := by have := (bothTo_p a b 1 1 (by omega)).resolve_right (by omega); rw [← hq] at this; exact this
      have hs : bothTo a b (1 + 1) = setP (bothTo a b 1) 1 (mx a.p1 b.p1) := rfl
      rw [← hq, ← hqp] at hs
      refine vDrw_mk [12] (.one 0 (.one 1 (.one 2 (.one 3 (.one 4 (.one 5 (.one 6 (.one 7 (.one 8 (.one 9 (.one 10 (.one 11 (.one 12 .nil))))))))))))) rfl fun w5 x5 hh5 => ?_
      refine Exists.intro (.p 0 2) (And.intro rfl (And.intro (fun w' xx hh => OpT.indexAddrArr Tryz.underlying67 Tryz.sizeOf3 rfl rfl (by simp) ⟨rfl, rfl⟩) ?_))
      refine Exists.intro (.p 1 2) (And.intro rfl (And.intro (fun w' xx hh => OpT.indexAddrArr Tryz.underlying67 Tryz.sizeOf3 rfl rfl (by simp) ⟨rfl, rfl⟩) ?_))
      refine Exists.intro (.p 0 2) (And.intro rfl (And.intro (fun w' xx hh => OpT.indexAddrArr Tryz.underlying67 Tryz.sizeOf3 rfl rfl (by simp) ⟨rfl, rfl⟩) ?_))
      have q5 := x5.size
      intro w6 m6 z6 hh6
      replace m6 : Upd g0 w5 w6 := m6
      refine vsd (by simp only [inKind]; omega) ?_
      exact Exists.intro ((2, setP q 1 (mx q.p1 b.p1))) ⟨by simp, esub_over (by repeat (first | exact trivial | refine And.intro rfl ?_)) (by repeat (first | exact trivial | refine And.intro rfl ?_)), hsub_over (by repeat (first | exact trivial | refine And.intro rfl ?_)) (by repeat (first | exact trivial | refine And.intro rfl ?_)), (x4.trans x5).upd m6 (by omega), by omega, by simp, hs.symm⟩
    · have hqp : q.p2 = a.p2 := by have := (bothTo_p a b 2 2 (by omega)).resolve_right (by omega); rw [← hq] at this; exact this
      have hs : bothTo a b (2 + 1) = setP (bothTo a b 2) 2 (mx a.p2 b.p2) := rfl
      rw [← hq, ← hqp] at hs
      refine vDrw_mk [12] (.one 0 (.one 1 (.one 2 (.one 3 (.one 4 (.one 5 (.one 6 (.one 7 (.one 8 (.one 9 (.one 10 (.one 11 (.one 12 .nil))))))))))))) rfl fun w5 x5 hh5 => ?_
      refine Exists.intro (.p 0 3) (And.intro rfl (And.intro (fun w' xx hh => OpT.indexAddrArr Tryz.underlying67 Tryz.sizeOf3 rfl rfl (by simp) ⟨rfl, rfl⟩) ?_))
      refine Exists.intro (.p 1 3) (And.intro rfl (And.intro (fun w' xx hh => OpT.indexAddrArr Tryz.underlying67 Tryz.sizeOf3 rfl rfl (by simp) ⟨rfl, rfl⟩) ?_))
      refine Exists.intro (.p 0 3) (And.intro rfl (And.intro (fun w' xx hh => OpT.indexAddrArr Tryz.underlying67 Tryz.sizeOf3 rfl rfl (by simp) ⟨rfl, rfl⟩) ?_))
      have q5 := x5.size
      intro w6 m6 z6 hh6
      replace m6 : Upd g0 w5 w6 := m6
      refine vsd (by simp only [inKind]; omega) ?_
      exact Exists.intro ((3, setP q 2 (mx q.p2 b.p2))) ⟨by simp, esub_over (by repeat (first | exact trivial | refine And.intro rfl ?_)) (by repeat (first | exact trivial | refine And.intro rfl ?_)), hsub_over (by repeat (first | exact trivial | refine And.intro rfl ?_)) (by repeat (first | exact trivial | refine And.intro rfl ?_)), (x4.trans x5).upd m6 (by omega), by omega, by simp, hs.symm⟩
    · have hqp : q.p3 = a.p3 := by have := (bothTo_p a b 3 3 (by omega)).resolve_right (by omega); rw [← hq] at this; exact this
      have hs : bothTo a b (3 + 1) = setP (bothTo a b 3) 3 (mx a.p3 b.p3) := rfl
      rw [← hq, ← hqp] at hs
      refine vDrw_mk [12] (.one 0 (.one 1 (.one 2 (.one 3 (.one 4 (.one 5 (.one 6 (.one 7 (.one 8 (.one 9 (.one 10 (.one 11 (.one 12 .nil))))))))))))) rfl fun w5 x5 hh5 => ?_
      refine Exists.intro (.p 0 4) (And.intro rfl (And.intro (fun w' xx hh => OpT.indexAddrArr Tryz.underlying67 Tryz.sizeOf3 rfl rfl (by simp) ⟨rfl, rfl⟩) ?_))
      refine Exists.intro (.p 1 4) (And.intro rfl (And.intro (fun w' xx hh => OpT.indexAddrArr Tryz.underlying67 Tryz.sizeOf3 rfl rfl (by simp) ⟨rfl, rfl⟩) ?_))
      refine Exists.intro (.p 0 4) (And.intro rfl (And.intro (fun w' xx hh => OpT.indexAddrArr Tryz.underlying67 Tryz.sizeOf3 rfl rfl (by simp) ⟨rfl, rfl⟩) ?_))
      have q5 := x5.size
      intro w6 m6 z6 hh6
      replace m6 : Upd g0 w5 w6 := m6
      refine vsd (by simp only [inKind]; omega) ?_
      exact Exists.intro ((4, setP q 3 (mx q.p3 b.p3))) ⟨by simp, esub_over (by repeat (first | exact trivial | refine And.intro rfl ?_)) (by repeat (first | exact trivial | refine And.intro rfl ?_)), hsub_over (by repeat (first | exact trivial | refine And.intro rfl ?_)) (by repeat (first | exact trivial | refine And.intro rfl ?_)), (x4.trans x5).upd m6 (by omega), by omega, by simp, hs.symm⟩
  · obtain rfl : i = 4 := by have := of_decide_eq_false h; simp only at this; omega
    rw [bothTo_4] at hq
    subst hq
    refine (rform_runs (bothP a b) w4).mono ?_
    rintro _ w5 ⟨rfl, x5⟩
    have hh5 := hh4.ext x5
    have z5 := x5.size
    refine Lands.ret (s := .a [.v (.int .i64 (L.form (bothP a b)).c), .v (.int .i64 (L.form (bothP a b)).p0), .v (.int .i64 (L.form (bothP a b)).p1), .v (.int .i64 (L.form (bothP a b)).p2), .v (.int .i64 (L.form (bothP a b)).p3)]) rfl rfl hh5 ?_
    intro w6 m6 z6 hh6
    replace m6 : Upd g2 w5 w6 := m6
    exact ⟨rfl, (x4.trans x5).upd m6 (by omega)⟩
set_option maxRecDepth 20000 in
theorem rwhole_runs (l : L) (w : World) : Runs Tryz.prog 102 #[.agg l.cells.toArray] w fun v w' => v = .tuple #[.agg (toldL l).1.cells.toArray, .int .i64 (toldL l).2] ∧ Ext w w' := by
  refine Runs.of_vc (ρ := []) cx_ok [0, 1, 2, 3, 8] [.a [.v (.int .i64 l.c), .v (.int .i64 l.p0), .v (.int .i64 l.p1), .v (.int .i64 l.p2), .v (.int .i64 l.p3)]] Tryz.func102 rfl rfl rfl (Holds.nil w) ?_
  intro g1 w1 e1 x1 z1 hh1
  intro g2 w2 e2 x2 z2 hh2
  refine (rform_runs l w2).mono ?_
  rintro _ w3 ⟨rfl, x3⟩
  have z3 := x3.size
  have hh3 := hh2.ext x3
  refine Lands.ret (s := .a [.v (.int .i64 (L.form l).c), .v (.int .i64 (L.form l).p0), .v (.int .i64 (L.form l).p1), .v (.int .i64 (L.form l).p2), .v (.int .i64 (L.form l).p3)]) rfl rfl hh3 ?_
  intro w4 m4 z4 hh4
  replace m4 : Upd g1 w3 w4 := m4
  have y4 : Ext w w4 := ((x1.trans x2).trans x3).upd m4 (by omega)
  refine vcZ (rmay_runs (L.form l) w4) hh4 fun w5 x5 z5 hh5 => ?_
  refine Or.inl (And.intro (fun h => ?_) (fun h => ?_))
  · have h : (L.form l).may = false := by simpa using h
    have e : toldL l = (l00, 4) := by unfold toldL; rw [if_neg (by rw [h]; decide)]
    rw [e]
    intro w6 m6 z6 hh6
    replace m6 : Upd g2 w5 w6 := m6
    exact ⟨rfl, (y4.trans x5).upd m6 (by omega)⟩
  · have h : (L.form l).may = true := by simpa using h
    have e : toldL l = (L.form l, 0) := by unfold toldL; rw [if_pos h]
    rw [e]
    intro w6 m6 z6 hh6
    replace m6 : Upd g2 w5 w6 := m6
    exact ⟨rfl, (y4.trans x5).upd m6 (by omega)⟩
end Go.Proofs.YtnoghkpofpaeeaaGreat


/-
  The document's levels: Inst.
-/
namespace Go.Proofs.YtnoghkpofpaeeaaGreat
open Go Go.RowKit Go.Proofs.Bw
set_option linter.unusedVariables false
set_option linter.unusedSimpArgs false

theorem plusL_eq (l : L) (b : Int) : plusL l b = moreP l b := by
  unfold plusL plusF moreP
  by_cases h0 : 0 ≤ l.p0 <;> by_cases h1 : 0 ≤ l.p1 <;> by_cases h2 : 0 ≤ l.p2 <;> by_cases h3 : 0 ≤ l.p3 <;> simp [upF, L.p, h0, h1, h2, h3, setP]
theorem mx_neg {a c : Int} (h : ¬ 0 ≤ c) (ha : -1 ≤ a) : mx a c = a := by unfold mx; split <;> omega
theorem joinL_eq (a b : L) (ha : -1 ≤ a.p0 ∧ -1 ≤ a.p1 ∧ -1 ≤ a.p2 ∧ -1 ≤ a.p3) : joinL a b = bothP a b := by
  obtain ⟨a0, a1, a2, a3⟩ := ha
  unfold joinL joinF bothP
  by_cases h0 : 0 ≤ b.p0 <;> by_cases h1 : 0 ≤ b.p1 <;> by_cases h2 : 0 ≤ b.p2 <;> by_cases h3 : 0 ≤ b.p3 <;> simp [upF, L.p, h0, h1, h2, h3, setP, mx_neg, a0, a1, a2, a3]
def mxP (l : L) : Int := max (max l.p0 l.p1) (max l.p2 l.p3)
theorem form_c (l : L) : L.form l = { l with c := if 0 ≤ mxP l ∧ l.c ≤ mxP l then 0 else l.c } := by
  unfold L.form mxP
  cases l with
  | mk c p0 p1 p2 p3 =>
  simp only
  by_cases h : 0 ≤ max (max p0 p1) (max p2 p3) ∧ c ≤ max (max p0 p1) (max p2 p3)
  · rw [if_pos h, if_pos (by omega)]
  · rw [if_neg h, if_neg (by omega)]
structure Rel (d p : L) : Prop where
  e0 : d.p0 = p.p0
  e1 : d.p1 = p.p1
  e2 : d.p2 = p.p2
  e3 : d.p3 = p.p3
  c : d.c = p.c ∨ (0 ≤ mxP p ∧ d.c ≤ mxP p ∧ p.c ≤ mxP p)
  lo : -1 ≤ p.p0 ∧ -1 ≤ p.p1 ∧ -1 ≤ p.p2 ∧ -1 ≤ p.p3
theorem Rel.form {d p : L} (h : Rel d p) : L.form d = L.form p := by
  have hm : mxP d = mxP p := by unfold mxP; rw [h.e0, h.e1, h.e2, h.e3]
  rw [form_c, form_c, hm, h.e0, h.e1, h.e2, h.e3]
  have hc := h.c
  congr 1
  repeat' split
  all_goals omega
theorem rel_arith (dc pc yc m my : Int) (h : dc = pc ∨ (0 ≤ m ∧ dc ≤ m ∧ pc ≤ m)) (cy : Int) (hcy : cy = if 0 ≤ my ∧ yc ≤ my then 0 else yc) (M D : Int) (hM : M = max m my) (hD : D = max dc cy) :
    (if 0 ≤ M ∧ D ≤ M then 0 else D) = max pc yc ∨ 0 ≤ M ∧ (if 0 ≤ M ∧ D ≤ M then 0 else D) ≤ M ∧ max pc yc ≤ M := by
  by_cases h1 : 0 ≤ my ∧ yc ≤ my
  · rw [if_pos h1] at hcy
    by_cases h2 : 0 ≤ M ∧ D ≤ M
    · rw [if_pos h2]; omega
    · rw [if_neg h2]; omega
  · rw [if_neg h1] at hcy
    by_cases h2 : 0 ≤ M ∧ D ≤ M
    · rw [if_pos h2]; omega
    · rw [if_neg h2]; omega
theorem max4 (a b c d e f g h : Int) : max (max (max a e) (max b f)) (max (max c g) (max d h)) = max (max (max a b) (max c d)) (max (max e f) (max g h)) := by ac_rfl
theorem Rel.step {d p x : L} (h : Rel d p) (hx : -1 ≤ x.p0 ∧ -1 ≤ x.p1 ∧ -1 ≤ x.p2 ∧ -1 ≤ x.p3) {n : Int} (hn : 0 ≤ n) : Rel (L.form (bothP d (L.form (moreP x n)))) (joinL p (plusL x n)) := by
  rw [plusL_eq, joinL_eq _ _ h.lo]
  obtain ⟨e0, e1, e2, e3, hc, hl⟩ := h
  have hy : -1 ≤ (moreP x n).p0 ∧ -1 ≤ (moreP x n).p1 ∧ -1 ≤ (moreP x n).p2 ∧ -1 ≤ (moreP x n).p3 := by
    unfold moreP; simp only; refine ⟨?_, ?_, ?_, ?_⟩ <;> split <;> omega
  generalize moreP x n = y at *
  rw [form_c (bothP d (L.form y)), form_c y]
  have hq : ∀ a b : Int, mx a b = max a b := fun a b => by unfold mx; split <;> omega
  have hm : mxP (bothP p y) = max (mxP p) (mxP y) := by unfold mxP bothP; simp only [hq]; exact max4 ..
  have hm2 : mxP (bothP d { y with c := if 0 ≤ mxP y ∧ y.c ≤ mxP y then 0 else y.c }) = max (mxP p) (mxP y) := by
    unfold mxP bothP; simp only [hq, e0, e1, e2, e3]; exact max4 ..
  refine ⟨?_, ?_, ?_, ?_, ?_, ?_⟩
  · show mx d.p0 y.p0 = mx p.p0 y.p0; rw [e0]
  · show mx d.p1 y.p1 = mx p.p1 y.p1; rw [e1]
  · show mx d.p2 y.p2 = mx p.p2 y.p2; rw [e2]
  · show mx d.p3 y.p3 = mx p.p3 y.p3; rw [e3]
  · rw [hm, hm2]
    show (if 0 ≤ max (mxP p) (mxP y) ∧ mx d.c (if 0 ≤ mxP y ∧ y.c ≤ mxP y then 0 else y.c) ≤ max (mxP p) (mxP y) then 0 else mx d.c (if 0 ≤ mxP y ∧ y.c ≤ mxP y then 0 else y.c)) = mx p.c y.c ∨ 0 ≤ max (mxP p) (mxP y) ∧ (if 0 ≤ max (mxP p) (mxP y) ∧ mx d.c (if 0 ≤ mxP y ∧ y.c ≤ mxP y then 0 else y.c) ≤ max (mxP p) (mxP y) then 0 else mx d.c (if 0 ≤ mxP y ∧ y.c ≤ mxP y then 0 else y.c)) ≤ max (mxP p) (mxP y) ∧ mx p.c y.c ≤ max (mxP p) (mxP y)
    rw [hq p.c y.c]
    exact rel_arith d.c p.c y.c (mxP p) (mxP y) hc _ rfl _ _ rfl (hq _ _)
  · show -1 ≤ mx p.p0 y.p0 ∧ -1 ≤ mx p.p1 y.p1 ∧ -1 ≤ mx p.p2 y.p2 ∧ -1 ≤ mx p.p3 y.p3
    simp only [hq]; omega
def instDs (l : L) (bs : List L) : List (Fin 4) → L → Option L
  | [], o => some o
  | i :: r, o => if l.p i.val < 0 then instDs l bs r o else if h : i.val < bs.length then instDs l bs r (L.form (bothP o (L.form (moreP bs[i.val] (l.p i.val))))) else none
theorem may_p {x : L} (h : x.may = true) : -1 ≤ x.p0 ∧ -1 ≤ x.p1 ∧ -1 ≤ x.p2 ∧ -1 ≤ x.p3 := by
  have := (sm_may h).2
  exact ⟨(this 0).1, (this 1).1, (this 2).1, (this 3).1⟩
theorem instDs_eq (l : L) (bs : List L) (hb : ∀ x ∈ bs, x.may = true) : ∀ (r : List (Fin 4)) {d p : L}, Rel d p →
    (instDs l bs r d = none ∧ instF l bs (r.filter fun i => decide (0 ≤ l.p i.val)) p = none) ∨ (∃ d' p', instDs l bs r d = some d' ∧ instF l bs (r.filter fun i => decide (0 ≤ l.p i.val)) p = some p' ∧ Rel d' p')
  | [], d, p, h => .inr ⟨d, p, rfl, rfl, h⟩
  | i :: r, d, p, h => by
    by_cases hp : 0 ≤ l.p i.val
    · rw [List.filter_cons_of_pos (by simpa using hp)]
      simp only [instDs, instF]
      rw [if_neg (by omega)]
      by_cases hi : i.val < bs.length
      · rw [dif_pos hi, dif_pos hi]
        exact instDs_eq l bs hb r (h.step (may_p (hb _ (List.getElem_mem hi))) hp)
      · rw [dif_neg hi, dif_neg hi]
        exact .inl ⟨rfl, rfl⟩
    · rw [List.filter_cons_of_neg (by simpa using hp)]
      simp only [instDs]
      rw [if_pos (by omega)]
      exact instDs_eq l bs hb r h
def all4 : List (Fin 4) := [⟨0, by omega⟩, ⟨1, by omega⟩, ⟨2, by omega⟩, ⟨3, by omega⟩]
theorem upF_all (l : L) : upF l 4 = all4.filter fun i => decide (0 ≤ l.p i.val) := by
  unfold all4
  by_cases h0 : 0 ≤ l.p0 <;> by_cases h1 : 0 ≤ l.p1 <;> by_cases h2 : 0 ≤ l.p2 <;> by_cases h3 : 0 ≤ l.p3 <;> simp [upF, L.p, h0, h1, h2, h3]
theorem instL_doc {l : L} {bs : List L} (hl : l.may = true) (hb : ∀ x ∈ bs, x.may = true) : instL l bs = match instDs l bs all4 (inst0 l) with
    | none => (l00, 8)
    | some o => toldL o := by
  have hok : lvsOk l bs = true := (lvsOk_iff bs l.may).2 ⟨hl, hb⟩
  unfold instL
  rw [if_neg (by rw [hok]; decide), upF_all]
  have h0 : Rel (inst0 l) (inst0 l) := ⟨rfl, rfl, rfl, rfl, .inl rfl, by simp [inst0, lZero]⟩
  rcases instDs_eq l bs hb all4 h0 with ⟨h1, h2⟩ | ⟨d, p, h1, h2, h3⟩
  · rw [h1, h2]
  · rw [h1, h2]
    simp only
    unfold toldL
    rw [h3.form]
theorem instL_no {l : L} {bs : List L} (h : ¬ (l.may = true ∧ ∀ x ∈ bs, x.may = true)) : instL l bs = (l00, 1) := by
  unfold instL
  rw [if_pos]
  cases hh : lvsOk l bs with
  | false => rfl
  | true => exact absurd ((lvsOk_iff bs l.may).1 hh) h
set_option maxHeartbeats 1000000 in
set_option maxRecDepth 20000 in
theorem rInst_runs {R : Nat → Prop} (l : L) (A : Option Addr) (bs : List L) (c : Nat) (w : World) (hb : Sl encL w R A bs) (hsz : bs.length ≤ 1000000) :
    Runs Tryz.prog 77 #[.agg l.cells.toArray, .slice A bs.length c] w fun v w' => v = .tuple #[.agg (instL l bs).1.cells.toArray, .int .i64 (instL l bs).2] ∧ Ext w w' := by
  refine Runs.of_vc (ρ := []) cx_ok [0, 1, 2, 4, 5, 6, 7, 8, 11, 16, 24, 31, 38, 42] [.a [.v (.int .i64 l.c), .v (.int .i64 l.p0), .v (.int .i64 l.p1), .v (.int .i64 l.p2), .v (.int .i64 l.p3)], .v _] Tryz.func77 rfl rfl rfl (Holds.nil w) ?_
  intro g1 w1 e1 x1 z1 hh1
  intro g2 w2 e2 x2 z2 hh2
  have y2 := x1.trans x2
  refine vcZ (rmay_runs l w2) hh2 fun w3 x3 z3 hh3 => ?_
  have y3 := y2.trans x3
  refine Or.inl (And.intro (fun h => ?_) (fun h => ?_))
  · have hl : l.may = false := notT h
    rw [instL_no (fun h => by rw [hl] at h; exact absurd h.1 (by decide))]
    intro w4 m4 z4 hh4
    replace m4 : Upd g2 w3 w4 := m4
    exact ⟨rfl, y3.upd m4 (by omega)⟩
  have hl : l.may = true := notF h
  refine vLoop_upd (σ := Nat) [5, 6, 13, 14, 15, 16, 17, 18, 19, 20, 21, 22, 23, 24, 25] (fun i => [(6, .v (.int .i64 i))]) [] (fun _ => []) (fun i w' => Ext w w' ∧ w3.heap.size ≤ w'.heap.size ∧ i ≤ bs.length ∧ ∀ x ∈ bs.take i, x.may = true) (fun i => bs.length - i) 0 (fun _ => ⟨rfl, rfl⟩)
    ⟨(by repeat (first | exact trivial | refine And.intro rfl ?_)), (by repeat (first | exact trivial | refine And.intro rfl ?_)), (by repeat (first | exact trivial | refine And.intro rfl ?_)), (by repeat (first | exact trivial | refine And.intro rfl ?_)), y3, Nat.le_refl _, Nat.zero_le _, by simp⟩ ?_
  rintro i w4 hh4 ⟨x4, q4, hi, hall⟩
  refine Or.inl (And.intro (fun h => ?_) (fun h => ?_))
  · have hil : i < bs.length := by have := of_decide_eq_true h; omega
    obtain ⟨a1, cs, ha1, _, hrow, hv⟩ := (hb.ext x4).at hil
    obtain ⟨rfl, hwf⟩ := hv
    have htk : bs.take (i + 1) = bs.take i ++ [bs[i]] := take_snoc _ _ hil
    have hmem := List.getElem_mem hil
    generalize bs[i] = b at *
    refine OpT.indexAddr Tryz.underlying24 Tryz.sizeOf69 rfl rfl ha1 (by first | omega | (simp only [lenOk] at *; omega)) ?_; refine Lands.v hh4 ?_
    refine OpT.loadA Tryz.isAgg69 (by exact Tryz.sizeOf69) rfl hrow ?_; refine Lands.ret (s := .a [.v (.int .i64 b.c), .v (.int .i64 b.p0), .v (.int .i64 b.p1), .v (.int .i64 b.p2), .v (.int .i64 b.p3)]) rfl rfl hh4 ?_
    refine vcZ (rmay_runs b w4) hh4 fun w5 x5 z5 hh5 => ?_
    have y5 := x4.trans x5
    refine Or.inl (And.intro (fun h => ?_) (fun h => ?_))
    · have hbm : b.may = false := notT h
      rw [instL_no (fun h => by have := h.2 b hmem; rw [hbm] at this; cases this)]
      intro w6 m6 z6 hh6
      replace m6 : Upd g2 w5 w6 := m6
      exact ⟨rfl, y5.upd m6 (by omega)⟩
    · have hbm : b.may = true := notF h
      refine vsd (by simp only [inKind]; omega) ?_
      have hall' : ∀ x ∈ bs.take (i + 1), x.may = true := fun x hx => by
        rw [htk] at hx
        rcases List.mem_append.1 hx with hx | hx
        · exact hall x hx
        · rw [List.mem_singleton.1 hx]; exact hbm
      exact Exists.intro (i + 1) ⟨by omega, esub_over (by repeat (first | exact trivial | refine And.intro rfl ?_)) (by repeat (first | exact trivial | refine And.intro rfl ?_)), hsub_over (by repeat (first | exact trivial | refine And.intro rfl ?_)) (by repeat (first | exact trivial | refine And.intro rfl ?_)), y5, by omega, hil, hall'⟩
  obtain rfl : i = bs.length := by have := of_decide_eq_false h; omega
  rw [List.take_length] at hall
  rw [instL_doc hl hall]
  refine (rZero_runs w4).mono ?_
  rintro _ w5 ⟨rfl, x5⟩
  have hh5 := hh4.ext x5
  have z5 := x5.size
  refine Lands.ret (s := .a [.v (.int .i64 lZero.c), .v (.int .i64 lZero.p0), .v (.int .i64 lZero.p1), .v (.int .i64 lZero.p2), .v (.int .i64 lZero.p3)]) rfl rfl hh5 ?_
  intro g6 w6 e6 x6 z6 hh6; intro w7 m7 z7 hh7; replace m7 : Upd g6 w6 w7 := m7; have x7 : Ext w5 w7 := x6.upd m7 (by omega); have q7 := x7.size
  intro w8 m8 z8 hh8
  replace m8 : Upd g6 w7 w8 := m8
  have y8 : Ext w w8 := (x4.trans (x5.trans x7)).upd m8 (by omega)
  have hsm := sm_may hl
  refine vLoop_upd (σ := Nat × L) [5, 8, 30, 31, 32, 33, 34, 35, 36, 37, 38, 39, 40, 41, 42, 43, 44, 45, 46, 47, 48, 49, 50, 51, 52, 53, 54] (fun s => [(8, .v (.int .i64 s.1))]) [2] (fun s => [(2, [.v (.int .i64 s.2.c), .v (.int .i64 s.2.p0), .v (.int .i64 s.2.p1), .v (.int .i64 s.2.p2), .v (.int .i64 s.2.p3)])]) (fun s w' => Ext w w' ∧ w8.heap.size ≤ w'.heap.size ∧ s.1 ≤ 4 ∧ instDs l bs (all4.drop s.1) s.2 = instDs l bs all4 (inst0 l)) (fun s => 4 - s.1) (0, inst0 l) (fun _ => ⟨rfl, rfl⟩)
    ⟨(by repeat (first | exact trivial | refine And.intro rfl ?_)), (by repeat (first | exact trivial | refine And.intro rfl ?_)), (by repeat (first | exact trivial | refine And.intro rfl ?_)), (by repeat (first | exact trivial | refine And.intro rfl ?_)), y8, Nat.le_refl _, by simp, rfl⟩ ?_
  rintro ⟨i, q⟩ w9 hh9 ⟨x9, q9, hi, hq⟩
  simp only at hi hq
  refine Or.inl (And.intro (fun h => ?_) (fun h => ?_))
  · rcases four (of_decide_eq_true h) with rfl | rfl | rfl | rfl
    · have hd : all4.drop 0 = ⟨0, by omega⟩ :: all4.drop 1 := rfl
      rw [hd, instDs] at hq
      have hp := hsm.2 0
      simp only [L.p] at hp hq
      refine OpT.indexAddrArr Tryz.underlying67 Tryz.sizeOf3 rfl rfl (by simp) ?_
      refine Lands.ret (s := .p 0 1) rfl rfl hh9 ?_
      refine Or.inl (And.intro (fun h => ?_) (fun h => ?_))
      · rw [if_pos (of_decide_eq_true h)] at hq
        refine vsd (by simp only [inKind]; omega) ?_
        exact Exists.intro ((1, q)) ⟨by simp, esub_over (by repeat (first | exact trivial | refine And.intro rfl ?_)) (by repeat (first | exact trivial | refine And.intro rfl ?_)), hsub_over (by repeat (first | exact trivial | refine And.intro rfl ?_)) (by repeat (first | exact trivial | refine And.intro rfl ?_)), x9, by omega, by simp, hq⟩
      · have hp0 := of_decide_eq_false h
        rw [if_neg hp0] at hq
        by_cases hlen : 0 < bs.length
        · rw [dif_pos hlen] at hq
          refine Or.inl (And.intro (fun hx => nomatch ((show decide ((0 : Int) ≥ (bs.length : Int)) = false from decide_eq_false (by omega))).symm.trans hx) (fun _ => ?_))
          obtain ⟨a1, cs, ha1, _, hrow, hv⟩ := (hb.ext x9).at hlen
          obtain ⟨rfl, hwf⟩ := hv
          have hbm := hall _ (List.getElem_mem hlen)
          generalize bs[0] = b at *
          refine vDrw_mk [9, 10, 11] (.one 0 (.one 1 (.one 2 (.one 3 (.one 4 (.one 5 (.one 6 (.one 7 (.one 8 (.one 9 (.one 10 (.one 11 .nil)))))))))))) rfl fun w10 x10 hh10 => ?_
          have y10 := x9.trans x10
          have q10 := x10.size
          refine Exists.intro (.v (.pointer (some (a1.add (0 * 5))))) (And.intro rfl (And.intro (fun w' xx hh => OpT.indexAddr Tryz.underlying24 Tryz.sizeOf69 rfl rfl ha1 (by simp only [lenOk] at *; omega) ⟨rfl, rfl⟩) ?_))
          refine Exists.intro (.a [.v (.int .i64 b.c), .v (.int .i64 b.p0), .v (.int .i64 b.p1), .v (.int .i64 b.p2), .v (.int .i64 b.p3)]) (And.intro rfl (And.intro (fun w' xx hh => OpT.loadA Tryz.isAgg69 (by exact Tryz.sizeOf69) rfl (hrow.ext (x10.trans xx)) ⟨rfl, rfl⟩) ?_))
          refine Exists.intro (.p 0 1) (And.intro rfl (And.intro (fun w' xx hh => OpT.indexAddrArr Tryz.underlying67 Tryz.sizeOf3 rfl rfl (by simp) ⟨rfl, rfl⟩) ?_))
          refine (rmore_runs b l.p0 w10 (sm_may hbm) ⟨by omega, by omega⟩).mono ?_
          rintro _ w11 ⟨rfl, x11⟩
          have hh11 := hh10.ext x11
          have z11 := x11.size
          refine Lands.ret (s := .a [.v (.int .i64 (L.form (moreP b l.p0)).c), .v (.int .i64 (L.form (moreP b l.p0)).p0), .v (.int .i64 (L.form (moreP b l.p0)).p1), .v (.int .i64 (L.form (moreP b l.p0)).p2), .v (.int .i64 (L.form (moreP b l.p0)).p3)]) rfl rfl hh11 ?_
          refine And.intro x11 ?_
          refine (rboth_runs q (L.form (moreP b l.p0)) w11).mono ?_
          rintro _ w12 ⟨rfl, x12⟩
          have hh12 := hh11.ext x12
          have z12 := x12.size
          refine Lands.ret (s := .a [.v (.int .i64 (L.form (bothP q (L.form (moreP b l.p0)))).c), .v (.int .i64 (L.form (bothP q (L.form (moreP b l.p0)))).p0), .v (.int .i64 (L.form (bothP q (L.form (moreP b l.p0)))).p1), .v (.int .i64 (L.form (bothP q (L.form (moreP b l.p0)))).p2), .v (.int .i64 (L.form (bothP q (L.form (moreP b l.p0)))).p3)]) rfl rfl hh12 ?_
          intro w13 m13 z13 hh13
          replace m13 : Upd g6 w12 w13 := m13
          refine vsd (by simp only [inKind]; omega) ?_
          exact Exists.intro ((1, L.form (bothP q (L.form (moreP b l.p0))))) ⟨by simp, esub_over (by repeat (first | exact trivial | refine And.intro rfl ?_)) (by repeat (first | exact trivial | refine And.intro rfl ?_)), hsub_over (by repeat (first | exact trivial | refine And.intro rfl ?_)) (by repeat (first | exact trivial | refine And.intro rfl ?_)), (y10.trans (x11.trans x12)).upd m13 (by omega), by omega, by simp, hq⟩
        · rw [dif_neg hlen] at hq
          refine Or.inl (And.intro (fun _ => ?_) (fun hx => nomatch ((show decide ((0 : Int) ≥ (bs.length : Int)) = true from decide_eq_true (by omega))).symm.trans hx))
          rw [← hq]
          intro w10 m10 z10 hh10
          replace m10 : Upd g2 w9 w10 := m10
          exact ⟨rfl, x9.upd m10 (by omega)⟩
    · have hd : all4.drop 1 = ⟨1, by omega⟩ :: all4.drop 2 := rfl
      rw [hd, instDs] at hq
      have hp := hsm.2 1
      simp only [L.p] at hp hq
      refine OpT.indexAddrArr Tryz.underlying67 Tryz.sizeOf3 rfl rfl (by simp) ?_
      refine Lands.ret (s := .p 0 2) rfl rfl hh9 ?_
      refine Or.inl (And.intro (fun h => ?_) (fun h => ?_))
      · rw [if_pos (of_decide_eq_true h)] at hq
        refine vsd (by simp only [inKind]; omega) ?_
        exact Exists.intro ((2, q)) ⟨by simp, esub_over (by repeat (first | exact trivial | refine And.intro rfl ?_)) (by repeat (first | exact trivial | refine And.intro rfl ?_)), hsub_over (by repeat (first | exact trivial | refine And.intro rfl ?_)) (by repeat (first | exact trivial | refine And.intro rfl ?_)), x9, by omega, by simp, hq⟩
      · have hp0 := of_decide_eq_false h
        rw [if_neg hp0] at hq
        by_cases hlen : 1 < bs.length
        · rw [dif_pos hlen] at hq
          refine Or.inl (And.intro (fun hx => nomatch ((show decide ((1 : Int) ≥ (bs.length : Int)) = false from decide_eq_false (by omega))).symm.trans hx) (fun _ => ?_))
          obtain ⟨a1, cs, ha1, _, hrow, hv⟩ := (hb.ext x9).at hlen
          obtain ⟨rfl, hwf⟩ := hv
          have hbm := hall _ (List.getElem_mem hlen)
          generalize bs[1] = b at *
          refine vDrw_mk [9, 10, 11] (.one 0 (.one 1 (.one 2 (.one 3 (.one 4 (.one 5 (.one 6 (.one 7 (.one 8 (.one 9 (.one 10 (.one 11 .nil)))))))))))) rfl fun w10 x10 hh10 => ?_
          have y10 := x9.trans x10
          have q10 := x10.size
          refine Exists.intro (.v (.pointer (some (a1.add (1 * 5))))) (And.intro rfl (And.intro (fun w' xx hh => OpT.indexAddr Tryz.underlying24 Tryz.sizeOf69 rfl rfl ha1 (by simp only [lenOk] at *; omega) ⟨rfl, rfl⟩) ?_))
          refine Exists.intro (.a [.v (.int .i64 b.c), .v (.int .i64 b.p0), .v (.int .i64 b.p1), .v (.int .i64 b.p2), .v (.int .i64 b.p3)]) (And.intro rfl (And.intro (fun w' xx hh => OpT.loadA Tryz.isAgg69 (by exact Tryz.sizeOf69) rfl (hrow.ext (x10.trans xx)) ⟨rfl, rfl⟩) ?_))
          refine Exists.intro (.p 0 2) (And.intro rfl (And.intro (fun w' xx hh => OpT.indexAddrArr Tryz.underlying67 Tryz.sizeOf3 rfl rfl (by simp) ⟨rfl, rfl⟩) ?_))
          refine (rmore_runs b l.p1 w10 (sm_may hbm) ⟨by omega, by omega⟩).mono ?_
          rintro _ w11 ⟨rfl, x11⟩
          have hh11 := hh10.ext x11
          have z11 := x11.size
          refine Lands.ret (s := .a [.v (.int .i64 (L.form (moreP b l.p1)).c), .v (.int .i64 (L.form (moreP b l.p1)).p0), .v (.int .i64 (L.form (moreP b l.p1)).p1), .v (.int .i64 (L.form (moreP b l.p1)).p2), .v (.int .i64 (L.form (moreP b l.p1)).p3)]) rfl rfl hh11 ?_
          refine And.intro x11 ?_
          refine (rboth_runs q (L.form (moreP b l.p1)) w11).mono ?_
          rintro _ w12 ⟨rfl, x12⟩
          have hh12 := hh11.ext x12
          have z12 := x12.size
          refine Lands.ret (s := .a [.v (.int .i64 (L.form (bothP q (L.form (moreP b l.p1)))).c), .v (.int .i64 (L.form (bothP q (L.form (moreP b l.p1)))).p0), .v (.int .i64 (L.form (bothP q (L.form (moreP b l.p1)))).p1), .v (.int .i64 (L.form (bothP q (L.form (moreP b l.p1)))).p2), .v (.int .i64 (L.form (bothP q (L.form (moreP b l.p1)))).p3)]) rfl rfl hh12 ?_
          intro w13 m13 z13 hh13
          replace m13 : Upd g6 w12 w13 := m13
          refine vsd (by simp only [inKind]; omega) ?_
          exact Exists.intro ((2, L.form (bothP q (L.form (moreP b l.p1))))) ⟨by simp, esub_over (by repeat (first | exact trivial | refine And.intro rfl ?_)) (by repeat (first | exact trivial | refine And.intro rfl ?_)), hsub_over (by repeat (first | exact trivial | refine And.intro rfl ?_)) (by repeat (first | exact trivial | refine And.intro rfl ?_)), (y10.trans (x11.trans x12)).upd m13 (by omega), by omega, by simp, hq⟩
        · rw [dif_neg hlen] at hq
          refine Or.inl (And.intro (fun _ => ?_) (fun hx => nomatch ((show decide ((1 : Int) ≥ (bs.length : Int)) = true from decide_eq_true (by omega))).symm.trans hx))
          rw [← hq]
          intro w10 m10 z10 hh10
          replace m10 : Upd g2 w9 w10 := m10
          exact ⟨rfl, x9.upd m10 (by omega)⟩
    · have hd : all4.drop 2 = ⟨2, by omega⟩ :: all4.drop 3 := rfl
      rw [hd, instDs] at hq
      have hp := hsm.2 2
      simp only [L.p] at hp hq
      refine OpT.indexAddrArr Tryz.underlying67 Tryz.sizeOf3 rfl rfl (by simp) ?_
      refine Lands.ret (s := .p 0 3) rfl rfl hh9 ?_
      refine Or.inl (And.intro (fun h => ?_) (fun h => ?_))
      · rw [if_pos (of_decide_eq_true h)] at hq
        refine vsd (by simp only [inKind]; omega) ?_
        exact Exists.intro ((3, q)) ⟨by simp, esub_over (by repeat (first | exact trivial | refine And.intro rfl ?_)) (by repeat (first | exact trivial | refine And.intro rfl ?_)), hsub_over (by repeat (first | exact trivial | refine And.intro rfl ?_)) (by repeat (first | exact trivial | refine And.intro rfl ?_)), x9, by omega, by simp, hq⟩
      · have hp0 := of_decide_eq_false h
        rw [if_neg hp0] at hq
        by_cases hlen : 2 < bs.length
        · rw [dif_pos hlen] at hq
          refine Or.inl (And.intro (fun hx => nomatch ((show decide ((2 : Int) ≥ (bs.length : Int)) = false from decide_eq_false (by omega))).symm.trans hx) (fun _ => ?_))
          obtain ⟨a1, cs, ha1, _, hrow, hv⟩ := (hb.ext x9).at hlen
          obtain ⟨rfl, hwf⟩ := hv
          have hbm := hall _ (List.getElem_mem hlen)
          generalize bs[2] = b at *
          refine vDrw_mk [9, 10, 11] (.one 0 (.one 1 (.one 2 (.one 3 (.one 4 (.one 5 (.one 6 (.one 7 (.one 8 (.one 9 (.one 10 (.one 11 .nil)))))))))))) rfl fun w10 x10 hh10 => ?_
          have y10 := x9.trans x10
          have q10 := x10.size
          refine Exists.intro (.v (.pointer (some (a1.add (2 * 5))))) (And.intro rfl (And.intro (fun w' xx hh => OpT.indexAddr Tryz.underlying24 Tryz.sizeOf69 rfl rfl ha1 (by simp only [lenOk] at *; omega) ⟨rfl, rfl⟩) ?_))
          refine Exists.intro (.a [.v (.int .i64 b.c), .v (.int .i64 b.p0), .v (.int .i64 b.p1), .v (.int .i64 b.p2), .v (.int .i64 b.p3)]) (And.intro rfl (And.intro (fun w' xx hh => OpT.loadA Tryz.isAgg69 (by exact Tryz.sizeOf69) rfl (hrow.ext (x10.trans xx)) ⟨rfl, rfl⟩) ?_))
          refine Exists.intro (.p 0 3) (And.intro rfl (And.intro (fun w' xx hh => OpT.indexAddrArr Tryz.underlying67 Tryz.sizeOf3 rfl rfl (by simp) ⟨rfl, rfl⟩) ?_))
          refine (rmore_runs b l.p2 w10 (sm_may hbm) ⟨by omega, by omega⟩).mono ?_
          rintro _ w11 ⟨rfl, x11⟩
          have hh11 := hh10.ext x11
          have z11 := x11.size
          refine Lands.ret (s := .a [.v (.int .i64 (L.form (moreP b l.p2)).c), .v (.int .i64 (L.form (moreP b l.p2)).p0), .v (.int .i64 (L.form (moreP b l.p2)).p1), .v (.int .i64 (L.form (moreP b l.p2)).p2), .v (.int .i64 (L.form (moreP b l.p2)).p3)]) rfl rfl hh11 ?_
          refine And.intro x11 ?_
          refine (rboth_runs q (L.form (moreP b l.p2)) w11).mono ?_
          rintro _ w12 ⟨rfl, x12⟩
          have hh12 := hh11.ext x12
          have z12 := x12.size
          refine Lands.ret (s := .a [.v (.int .i64 (L.form (bothP q (L.form (moreP b l.p2)))).c), .v (.int .i64 (L.form (bothP q (L.form (moreP b l.p2)))).p0), .v (.int .i64 (L.form (bothP q (L.form (moreP b l.p2)))).p1), .v (.int .i64 (L.form (bothP q (L.form (moreP b l.p2)))).p2), .v (.int .i64 (L.form (bothP q (L.form (moreP b l.p2)))).p3)]) rfl rfl hh12 ?_
          intro w13 m13 z13 hh13
          replace m13 : Upd g6 w12 w13 := m13
          refine vsd (by simp only [inKind]; omega) ?_
          exact Exists.intro ((3, L.form (bothP q (L.form (moreP b l.p2))))) ⟨by simp, esub_over (by repeat (first | exact trivial | refine And.intro rfl ?_)) (by repeat (first | exact trivial | refine And.intro rfl ?_)), hsub_over (by repeat (first | exact trivial | refine And.intro rfl ?_)) (by repeat (first | exact trivial | refine And.intro rfl ?_)), (y10.trans (x11.trans x12)).upd m13 (by omega), by omega, by simp, hq⟩
        · rw [dif_neg hlen] at hq
          refine Or.inl (And.intro (fun _ => ?_) (fun hx => nomatch ((show decide ((2 : Int) ≥ (bs.length : Int)) = true from decide_eq_true (by omega))).symm.trans hx))
          rw [← hq]
          intro w10 m10 z10 hh10
          replace m10 : Upd g2 w9 w10 := m10
          exact ⟨rfl, x9.upd m10 (by omega)⟩
    · have hd : all4.drop 3 = ⟨3, by omega⟩ :: all4.drop 4 := rfl
      rw [hd, instDs] at hq
      have hp := hsm.2 3
      simp only [L.p] at hp hq
      refine OpT.indexAddrArr Tryz.underlying67 Tryz.sizeOf3 rfl rfl (by simp) ?_
      refine Lands.ret (s := .p 0 4) rfl rfl hh9 ?_
      refine Or.inl (And.intro (fun h => ?_) (fun h => ?_))
      · rw [if_pos (of_decide_eq_true h)] at hq
        refine vsd (by simp only [inKind]; omega) ?_
        exact Exists.intro ((4, q)) ⟨by simp, esub_over (by repeat (first | exact trivial | refine And.intro rfl ?_)) (by repeat (first | exact trivial | refine And.intro rfl ?_)), hsub_over (by repeat (first | exact trivial | refine And.intro rfl ?_)) (by repeat (first | exact trivial | refine And.intro rfl ?_)), x9, by omega, by simp, hq⟩
      · have hp0 := of_decide_eq_false h
        rw [if_neg hp0] at hq
        by_cases hlen : 3 < bs.length
        · rw [dif_pos hlen] at hq
          refine Or.inl (And.intro (fun hx => nomatch ((show decide ((3 : Int) ≥ (bs.length : Int)) = false from decide_eq_false (by omega))).symm.trans hx) (fun _ => ?_))
          obtain ⟨a1, cs, ha1, _, hrow, hv⟩ := (hb.ext x9).at hlen
          obtain ⟨rfl, hwf⟩ := hv
          have hbm := hall _ (List.getElem_mem hlen)
          generalize bs[3] = b at *
          refine vDrw_mk [9, 10, 11] (.one 0 (.one 1 (.one 2 (.one 3 (.one 4 (.one 5 (.one 6 (.one 7 (.one 8 (.one 9 (.one 10 (.one 11 .nil)))))))))))) rfl fun w10 x10 hh10 => ?_
          have y10 := x9.trans x10
          have q10 := x10.size
          refine Exists.intro (.v (.pointer (some (a1.add (3 * 5))))) (And.intro rfl (And.intro (fun w' xx hh => OpT.indexAddr Tryz.underlying24 Tryz.sizeOf69 rfl rfl ha1 (by simp only [lenOk] at *; omega) ⟨rfl, rfl⟩) ?_))
          refine Exists.intro (.a [.v (.int .i64 b.c), .v (.int .i64 b.p0), .v (.int .i64 b.p1), .v (.int .i64 b.p2), .v (.int .i64 b.p3)]) (And.intro rfl (And.intro (fun w' xx hh => OpT.loadA Tryz.isAgg69 (by exact Tryz.sizeOf69) rfl (hrow.ext (x10.trans xx)) ⟨rfl, rfl⟩) ?_))
          refine Exists.intro (.p 0 4) (And.intro rfl (And.intro (fun w' xx hh => OpT.indexAddrArr Tryz.underlying67 Tryz.sizeOf3 rfl rfl (by simp) ⟨rfl, rfl⟩) ?_))
          refine (rmore_runs b l.p3 w10 (sm_may hbm) ⟨by omega, by omega⟩).mono ?_
          rintro _ w11 ⟨rfl, x11⟩
          have hh11 := hh10.ext x11
          have z11 := x11.size
          refine Lands.ret (s := .a [.v (.int .i64 (L.form (moreP b l.p3)).c), .v (.int .i64 (L.form (moreP b l.p3)).p0), .v (.int .i64 (L.form (moreP b l.p3)).p1), .v (.int .i64 (L.form (moreP b l.p3)).p2), .v (.int .i64 (L.form (moreP b l.p3)).p3)]) rfl rfl hh11 ?_
          refine And.intro x11 ?_
          refine (rboth_runs q (L.form (moreP b l.p3)) w11).mono ?_
          rintro _ w12 ⟨rfl, x12⟩
          have hh12 := hh11.ext x12
          have z12 := x12.size
          refine Lands.ret (s := .a [.v (.int .i64 (L.form (bothP q (L.form (moreP b l.p3)))).c), .v (.int .i64 (L.form (bothP q (L.form (moreP b l.p3)))).p0), .v (.int .i64 (L.form (bothP q (L.form (moreP b l.p3)))).p1), .v (.int .i64 (L.form (bothP q (L.form (moreP b l.p3)))).p2), .v (.int .i64 (L.form (bothP q (L.form (moreP b l.p3)))).p3)]) rfl rfl hh12 ?_
          intro w13 m13 z13 hh13
          replace m13 : Upd g6 w12 w13 := m13
          refine vsd (by simp only [inKind]; omega) ?_
          exact Exists.intro ((4, L.form (bothP q (L.form (moreP b l.p3))))) ⟨by simp, esub_over (by repeat (first | exact trivial | refine And.intro rfl ?_)) (by repeat (first | exact trivial | refine And.intro rfl ?_)), hsub_over (by repeat (first | exact trivial | refine And.intro rfl ?_)) (by repeat (first | exact trivial | refine And.intro rfl ?_)), (y10.trans (x11.trans x12)).upd m13 (by omega), by omega, by simp, hq⟩
        · rw [dif_neg hlen] at hq
          refine Or.inl (And.intro (fun _ => ?_) (fun hx => nomatch ((show decide ((3 : Int) ≥ (bs.length : Int)) = true from decide_eq_true (by omega))).symm.trans hx))
          rw [← hq]
          intro w10 m10 z10 hh10
          replace m10 : Upd g2 w9 w10 := m10
          exact ⟨rfl, x9.upd m10 (by omega)⟩
  · obtain rfl : i = 4 := by have := of_decide_eq_false h; simp only at this; omega
    rw [show all4.drop 4 = [] from rfl, instDs] at hq
    rw [← hq]
    refine (rwhole_runs q w9).mono ?_
    rintro _ w10 ⟨rfl, x10⟩
    have hh10 := hh9.ext x10
    have z10 := x10.size
    refine Lands.ret (s := .t [.a [.v (.int .i64 (toldL q).1.c), .v (.int .i64 (toldL q).1.p0), .v (.int .i64 (toldL q).1.p1), .v (.int .i64 (toldL q).1.p2), .v (.int .i64 (toldL q).1.p3)], .v (.int .i64 (toldL q).2)]) rfl rfl hh10 ?_
    intro w11 m11 z11 hh11
    replace m11 : Upd g2 w10 w11 := m11
    exact ⟨rfl, (x9.trans x10).upd m11 (by omega)⟩
end Go.Proofs.YtnoghkpofpaeeaaGreat


/-
  The document's terms with levels in the place of parameters.
-/
namespace Go.Proofs.YtnoghkpofpaeeaaGreat
open Go Go.RowKit Go.Proofs.Bw
set_option linter.unusedVariables false
set_option linter.unusedSimpArgs false

set_option maxRecDepth 20000 in
theorem rwith4_runs (k n : Int) (s : ByteArray) (la ta A : Option Addr) (ln lc tn tc m c : Nat) (w : World) :
    Runs Tryz.prog 78 #[.agg #[.int .u8 k, .int .i64 n, .string s, .slice la ln lc, .slice ta tn tc], .slice A m c] w fun v w' => v = .agg #[.int .u8 k, .int .i64 n, .string s, .slice la ln lc, .slice A m c] ∧ Ext w w' := by
  refine Runs.of_vc (ρ := []) cx_ok [0, 1, 2, 4] [.a [.v (.int .u8 k), .v (.int .i64 n), .v (.string s), .v (.slice la ln lc), .v (.slice ta tn tc)], .v _] Tryz.func78 rfl rfl rfl (Holds.nil w) ?_
  intro g1 w1 e1 x1 z1 hh1
  intro g2 w2 e2 x2 z2 hh2
  intro w3 m3 z3 hh3
  replace m3 : Upd g1 w2 w3 := m3
  intro w4 m4 z4 hh4
  replace m4 : Upd g2 w3 w4 := m4
  exact ⟨rfl, ((x1.trans x2).upd m3 (by omega)).upd m4 (by omega)⟩
set_option maxHeartbeats 1000000 in
set_option maxRecDepth 20000 in
theorem rlevels_runs (A : Option Addr) (bs : List L) (c : Nat) (hlen : lenOk bs.length c) (hsz : bs.length ≤ 1000000) (t : T) : ∀ (cs : List Value) (w : World) (R : Nat → Prop) (hv : VT w R cs t) (hb : Sl encL w R A bs) (hR : ∀ k, R k → k < w.heap.size) (hm : nodes t = true),
    Runs Tryz.prog 61 #[.agg cs.toArray, .slice A bs.length c] w fun v w' => Ext w w' ∧ ∃ cs' : List Value, v = .tuple #[.agg cs'.toArray, .int .i64 (lvE bs t)] ∧ VT w' (fun k => R k ∨ w.heap.size ≤ k) cs' (lvR bs t) := by
  induction t using T.ind with
  | h k n s ls ts ih =>
  intro cs w R hv hb hR hm
  have hv0 := hv
  obtain ⟨k', n', s', ls', ts', la, lc, ta, tc, et, rfl, hk, hn, hs, hll, hlt, hL, hT⟩ := hv.inv
  injection et with e1 e2 e3 e4 e5
  subst e1; subst e2; subst e3; subst e4; subst e5
  refine Runs.of_vc (ρ := []) cx_ok [0, 1, 2, 4, 5, 6, 7, 8, 9, 10, 11, 12, 13, 18, 32, 45, 59] [.a [.v (.int .u8 k), .v (.int .i64 n), .v (.string s), .v (.slice la ls.length lc), .v (.slice ta ts.length tc)], .v _] Tryz.func61 rfl rfl rfl (Holds.nil w) ?_
  intro g1 w1 e1 x1 z1 hh1
  intro g2 w2 e2 x2 z2 hh2
  have y2 := x1.trans x2
  have hnb := node_small (nodes_mk hm).1
  have hlsz := hnb.1
  have htsz := hnb.2
  have hE : lvE bs (.mk k n s ls ts) = if firstB (fun l => (instL l bs).2) ls ≠ 0 then firstB (fun l => (instL l bs).2) ls else firstB (lvE bs) ts := by rw [lvE, lvEs_eq]
  refine vLoop_upd (σ := Nat × Option Addr × Nat) [5, 6, 7, 8, 9, 14, 15, 16, 17, 18, 19, 20, 21, 22, 23, 24, 25, 26, 27, 28, 29, 30, 31, 32, 33, 34, 35, 36, 37, 38] (fun q => [(7, .v (.int .i64 q.1)), (6, .v (.slice q.2.1 ((ls.take q.1).map fun l => (instL l bs).1).length q.2.2))]) [] (fun _ => [])
    (fun q w' => Ext w w' ∧ w2.heap.size ≤ w'.heap.size ∧ q.1 ≤ ls.length ∧ OwnE encL w' w2.heap.size 69 (fun _ => False) q.2.1 q.2.2 ((ls.take q.1).map fun l => (instL l bs).1) ∧ firstB (fun l => (instL l bs).2) ls = firstB (fun l => (instL l bs).2) (ls.drop q.1)) (fun q => ls.length - q.1) (0, none, 0) (fun _ => ⟨rfl, rfl⟩)
    ⟨(by repeat (first | exact trivial | refine And.intro rfl ?_)), (by repeat (first | exact trivial | refine And.intro rfl ?_)), (by repeat (first | exact trivial | refine And.intro rfl ?_)), (by repeat (first | exact trivial | refine And.intro rfl ?_)), y2, Nat.le_refl _, Nat.zero_le _, OwnE.nil _ _ _ _ _, rfl⟩ ?_
  rintro ⟨i, A3, c3⟩ w3 hh3 ⟨x3, q3, hi, o3, hx⟩
  simp only at hi o3 hx
  refine Or.inl (And.intro (fun h => ?_) (fun h => ?_))
  · have hil : i < ls.length := by have := of_decide_eq_true h; simp only at this; omega
    rw [firstB_drop _ ls i hil] at hx
    obtain ⟨a1, ha1, _, hrow, hwf⟩ := (hL.ext x3).at hil
    have htk : ls.take (i + 1) = ls.take i ++ [ls[i]] := take_snoc _ _ hil
    generalize ls[i] = l at *
    refine OpT.indexAddr Tryz.underlying24 Tryz.sizeOf69 rfl rfl ha1 (by first | omega | (simp only [lenOk] at *; omega)) ?_; refine Lands.v hh3 ?_
    refine OpT.loadA Tryz.isAgg69 (by exact Tryz.sizeOf69) rfl hrow ?_; refine Lands.ret (s := .a [.v (.int .i64 l.c), .v (.int .i64 l.p0), .v (.int .i64 l.p1), .v (.int .i64 l.p2), .v (.int .i64 l.p3)]) rfl rfl hh3 ?_
    refine (rInst_runs l A bs c w3 (hb.ext x3) hsz).mono ?_
    rintro _ w6 ⟨rfl, x6⟩
    have z6 := x6.size
    have hh6 := hh3.ext x6
    refine Lands.ret (s := .t [.a [.v (.int .i64 (instL l bs).1.c), .v (.int .i64 (instL l bs).1.p0), .v (.int .i64 (instL l bs).1.p1), .v (.int .i64 (instL l bs).1.p2), .v (.int .i64 (instL l bs).1.p3)], .v (.int .i64 (instL l bs).2)]) rfl rfl hh6 ?_
    intro g7 w7 e7 x7 z7 hh7; intro w8 m8 z8 hh8; replace m8 : Upd g7 w7 w8 := m8; have x8 : Ext w6 w8 := x7.upd m8 (by omega); have q8 := x8.size
    have y8 := x3.trans (x6.trans x8)
    refine Or.inl (And.intro (fun h => ?_) (fun h => ?_))
    · have h : (instL l bs).2 ≠ 0 := by simpa using h
      rw [if_pos h] at hx
      have hEE : lvE bs (.mk k n s ls ts) = (instL l bs).2 := by rw [hE, hx, if_pos h]
      intro w9 m9 z9 hh9
      replace m9 : Upd g2 w8 w9 := m9
      rw [hEE]
      refine ⟨y8.upd m9 (by omega), [.int .u8 0, .int .i64 0, .string noS, .slice none 0 0, .slice none 0 0], rfl, ?_⟩
      unfold lvR; rw [if_neg (by rw [hEE]; exact h)]; exact tZ_rep _ _
    · have h : ¬ (instL l bs).2 ≠ 0 := by simpa using h
      rw [if_neg h] at hx
      refine OpT.buildE (E := encL) (R := (fun _ => False)) (vs := [_]) (l := [(instL l bs).1]) Tryz.zeroValue69 (.cons rfl (.nil)) Tryz.underlying24 Tryz.sizeOf69 rfl rfl (Reps.cons (⟨rfl, instL_wf l bs⟩) (Reps.nil _ _ _)) rfl rfl hh8 fun w9 g9 e9 x9 z9 o9 hh9 => ?_
      refine OpT.appendO (E := encL) elLv Tryz.underlying24 Tryz.underlying24 rfl rfl rfl rfl (l3 := (ls.take (i + 1)).map (fun l => (instL l bs).1)) (by rw [htk]; simp) rfl o3 (x6.trans (x8.trans x9)) o9 (by omega) (fun k hk => by have := noR k hk; omega) (y8.trans x9) (by omega) hh9 (by repeat (first | exact trivial | refine And.intro (by omega) ?_)) (by simp; omega) fun w10 A10 c10 y10 z10 o10 hh10 => ?_
      refine vsd (by simp only [inKind]; omega) ?_
      exact Exists.intro ((i + 1, A10, c10)) ⟨by simp only; omega, esub_over (by repeat (first | exact trivial | refine And.intro rfl ?_)) (by repeat (first | exact trivial | refine And.intro rfl ?_)), hsub_over (by repeat (first | exact trivial | refine And.intro rfl ?_)) (by repeat (first | exact trivial | refine And.intro rfl ?_)), y10, by omega, hil, o10, hx⟩
  · obtain rfl : i = ls.length := by have := of_decide_eq_false h; simp only at this; omega
    rw [List.drop_length] at hx
    rw [List.take_length] at o3 ⊢
    intro w3' m3' z3' hh3'
    replace m3' : Upd g1 w3 w3' := m3'
    have x3' : Ext w w3' := x3.upd m3' (by omega)
    replace o3 := o3.mod (S := fun k => k = g1) m3' fun k _ (hk : k = g1) => ⟨fun h => h, by omega⟩
    refine vLoop_upd (σ := Nat × Option Addr × Nat) [5, 10, 11, 12, 13, 41, 42, 43, 44, 45, 46, 47, 48, 49, 50, 51, 52, 53, 54, 55, 56, 57, 58, 59, 60, 61, 62, 63, 64, 65] (fun q => [(11, .v (.int .i64 q.1)), (10, .v (.slice q.2.1 ((ts.take q.1).map (lvO bs)).length q.2.2))]) [] (fun _ => [])
      (fun q w' => Ext w3' w' ∧ q.1 ≤ ts.length ∧ OwnE encT w' w3'.heap.size 27 R q.2.1 q.2.2 ((ts.take q.1).map (lvO bs)) ∧ firstB (lvE bs) ts = firstB (lvE bs) (ts.drop q.1)) (fun q => ts.length - q.1) (0, none, 0) (fun _ => ⟨rfl, rfl⟩)
      ⟨(by repeat (first | exact trivial | refine And.intro rfl ?_)), (by repeat (first | exact trivial | refine And.intro rfl ?_)), (by repeat (first | exact trivial | refine And.intro rfl ?_)), (by repeat (first | exact trivial | refine And.intro rfl ?_)), Ext.refl _, Nat.zero_le _, OwnE.nil _ _ _ _ _, rfl⟩ ?_
    rintro ⟨i, A4, c4⟩ w4 hh4 ⟨x34, hi, o4, hx2⟩
    simp only at hi o4 hx2
    have q3' := x3'.size
    have q4 := x34.size
    have x4 := x3'.trans x34
    refine Or.inl (And.intro (fun h => ?_) (fun h => ?_))
    · have hil : i < ts.length := by have := of_decide_eq_true h; simp only at this; omega
      rw [firstB_drop _ ts i hil] at hx2
      obtain ⟨a1, cs, ha1, _, hrow, hvi⟩ := (hT.ext x4).at hil
      have htk : ts.take (i + 1) = ts.take i ++ [ts[i]] := take_snoc _ _ hil
      have hih := ih _ (List.getElem_mem hil)
      have hmi : nodes ts[i] = true := nodess_at (nodes_mk hm).2 i hil
      generalize ts[i] = u at *
      have hvi0 := hvi
      obtain ⟨ku, nu, su, lsu, tsu, lau, lcu, tau, tcu, eu, rfl, hku, hnu, hsu, hllu, hltu, hLu, hTu⟩ := hvi.inv
      refine OpT.indexAddr Tryz.underlying25 Tryz.sizeOf27 rfl rfl ha1 (by first | omega | (simp only [lenOk] at *; omega)) ?_; refine Lands.v hh4 ?_
      refine OpT.loadA Tryz.isAgg27 (by exact Tryz.sizeOf27) rfl hrow ?_; refine Lands.ret (s := .a [.v (.int .u8 ku), .v (.int .i64 nu), .v (.string su), .v (.slice lau lsu.length lcu), .v (.slice tau tsu.length tcu)]) rfl rfl hh4 ?_
      refine (hih _ w4 R hvi0 (hb.ext x4) (fun k hk => by have := hR k hk; omega) hmi).mono ?_
      rintro _ w7 ⟨x7, cs7, rfl, hv7⟩
      have z7 := x7.size
      have hh7 := hh4.ext x7
      have hv70 := hv7
      obtain ⟨kv, nv, sv, lsv, tsv, lav, lcv, tav, tcv, ev7, rfl, hkv, hnv, hsv, hllv, hltv, hLv, hTv⟩ := hv7.inv
      refine Lands.ret (s := .t [.a [.v (.int .u8 kv), .v (.int .i64 nv), .v (.string sv), .v (.slice lav lsv.length lcv), .v (.slice tav tsv.length tcv)], .v (.int .i64 (lvE bs u))]) rfl rfl hh7 ?_
      intro g8 w8 e8 x8 z8 hh8; intro w9 m9 z9 hh9; replace m9 : Upd g8 w8 w9 := m9; have x9 : Ext w7 w9 := x8.upd m9 (by omega); have q9 := x9.size
      have y9 := x4.trans (x7.trans x9)
      refine Or.inl (And.intro (fun h => ?_) (fun h => ?_))
      · have h : lvE bs u ≠ 0 := by simpa using h
        rw [if_pos h] at hx2
        have hEE : lvE bs (.mk k n s ls ts) = lvE bs u := by rw [hE, hx, if_neg (by simp [firstB]), hx2]
        intro w10 m10 z10 hh10
        replace m10 : Upd g2 w9 w10 := m10
        rw [hEE]
        refine ⟨y9.upd m10 (by omega), [.int .u8 0, .int .i64 0, .string noS, .slice none 0 0, .slice none 0 0], rfl, ?_⟩
        unfold lvR; rw [if_neg (by rw [hEE]; exact h)]; exact tZ_rep _ _
      · have h : ¬ lvE bs u ≠ 0 := by simpa using h
        rw [if_neg h] at hx2
        have hru : lvR bs u = lvO bs u := by unfold lvR; rw [if_pos (by simpa using h)]
        rw [hru] at hv70
        refine OpT.buildE (E := encT) (R := (fun k => R k ∨ w4.heap.size ≤ k)) (vs := [_]) (l := [lvO bs u]) Tryz.zeroValue27 (.cons rfl (.nil)) Tryz.underlying25 Tryz.sizeOf27 rfl rfl (Reps.cons (hv70.ext x9) (Reps.nil _ _ _)) rfl rfl hh9 fun w10 g10 e10 x10 z10 o10 hh10 => ?_
        have hR2 : ∀ k, ((R k ∨ w4.heap.size ≤ k) ∨ w9.heap.size ≤ k) ∧ k < w10.heap.size → k < w10.heap.size → R k ∨ (w3'.heap.size ≤ k ∧ w4.heap.size ≤ k) := fun k hk _ => by
          rcases hk.1 with (h | h) | h
          · exact .inl h
          · exact .inr (by omega)
          · exact .inr (by omega)
        have htl : ((ts.take (i + 1)).map (lvO bs)).length ≤ 65536 := by rw [List.length_map, List.length_take]; omega
        refine OpT.appendL (E := encT) elT Tryz.underlying25 Tryz.underlying25 rfl rfl rfl rfl (l3 := (ts.take (i + 1)).map (lvO bs)) (by rw [htk]; simp) rfl o4 (x7.trans (x9.trans x10)) o10.sl hR2 (fun k hk => by have := hR k hk; omega) (x34.trans (x7.trans (x9.trans x10))) (by omega) hh10 (by repeat (first | exact trivial | refine And.intro (by omega) ?_)) (by omega) fun w11 A11 c11 y11 z11 o11 hh11 => ?_
        refine vsd (by simp only [inKind]; omega) ?_
        exact Exists.intro ((i + 1, A11, c11)) ⟨by simp only; omega, esub_over (by repeat (first | exact trivial | refine And.intro rfl ?_)) (by repeat (first | exact trivial | refine And.intro rfl ?_)), hsub_over (by repeat (first | exact trivial | refine And.intro rfl ?_)) (by repeat (first | exact trivial | refine And.intro rfl ?_)), y11, hil, o11, hx2⟩
    · obtain rfl : i = ts.length := by have := of_decide_eq_false h; simp only at this; omega
      rw [List.drop_length] at hx2
      rw [List.take_length] at o4 ⊢
      have hEE : lvE bs (.mk k n s ls ts) = 0 := by rw [hE, hx, if_neg (by simp [firstB]), hx2]; rfl
      have hRR : lvR bs (.mk k n s ls ts) = .mk k n s (ls.map fun l => (instL l bs).1) (ts.map (lvO bs)) := by
        unfold lvR; rw [if_pos hEE, lvO, lvOs_eq]
      rw [hEE, hRR]
      refine (rwith4_runs k n s A3 ta A4 (ls.map fun l => (instL l bs).1).length c3 ts.length tc (ts.map (lvO bs)).length c4 w4).mono ?_
      rintro _ w5 ⟨rfl, x5⟩
      have hh5 := hh4.ext x5
      have z5 := x5.size
      refine Lands.ret (s := .a [.v (.int .u8 k), .v (.int .i64 n), .v (.string s), .v (.slice A3 (ls.map fun l => (instL l bs).1).length c3), .v (.slice A4 (ts.map (lvO bs)).length c4)]) rfl rfl hh5 ?_
      intro w7 m7 z7 hh7
      replace m7 : Upd g2 w5 w7 := m7
      have y7 : Ext w w7 := (x4.trans x5).upd m7 (by omega)
      refine ⟨y7, [.int .u8 k, .int .i64 n, .string s, .slice A3 (ls.map fun l => (instL l bs).1).length c3, .slice A4 (ts.map (lvO bs)).length c4], rfl, ?_⟩
      have M7 : Bw.Mod (fun q => q = g2) w4 w7 := (Mod.mono x5 fun _ h => h.elim).trans m7
      have oL := (o3.ext x34).mod M7 fun q _ hq => ⟨fun h => h, by omega⟩
      have oT := o4.mod M7 fun q _ hq => ⟨fun h => by have := hR q h; omega, by omega⟩
      exact VT.intro hk hn hs oL.le oT.le (L_sl (oL.sl.mono fun q hq => .inr (by rcases hq.1 with h | h; exact h.elim; omega))) (T_sl (oT.sl.mono fun q hq => hq.1.imp id fun h => by omega))
set_option maxRecDepth 20000 in
theorem rtold_runs {R : Nat → Prop} (A : Option Addr) (bs : List L) (c : Nat) (hlen : lenOk bs.length c) (hsz : bs.length ≤ 1000000) (t : T) (cs : List Value) (w : World) (hv : VT w R cs t) (hb : Sl encL w R A bs) (hR : ∀ k, R k → k < w.heap.size) (hm : mayT t = true) :
    Runs Tryz.prog 35 #[.agg cs.toArray, .slice A bs.length c] w fun v w' => Ext w w' ∧ ∃ cs' : List Value, v = .tuple #[.agg cs'.toArray, .int .i64 (lvlE t bs)] ∧ VT w' (fun k => R k ∨ w.heap.size ≤ k) cs' (lvlT t bs) := by
  have hv0 := hv
  obtain ⟨k, n, s, ls, ts, la, lc, ta, tc, et, rfl, hk, hn, hs, hll, hlt, hL, hT⟩ := hv.inv
  refine Runs.of_vc (ρ := []) cx_ok [0, 1, 2, 4, 5] [.a [.v (.int .u8 k), .v (.int .i64 n), .v (.string s), .v (.slice la ls.length lc), .v (.slice ta ts.length tc)], .v _] Tryz.func35 rfl rfl rfl (Holds.nil w) ?_
  intro g1 w1 e1 x1 z1 hh1
  intro g2 w2 e2 x2 z2 hh2
  have y2 := x1.trans x2
  unfold lvlE lvlT
  rw [if_pos hm, if_pos hm]
  refine (rlevels_runs A bs c hlen hsz t _ w2 R (hv0.ext y2) (hb.ext y2) (fun k hk => by have := hR k hk; omega) (may_nodes hm)).mono ?_
  rintro _ w4 ⟨x4, cs4, rfl, hv4⟩
  have z4 := x4.size
  have hh4 := hh2.ext x4
  have hv40 := hv4
  obtain ⟨kv, nv, sv, lsv, tsv, lav, lcv, tav, tcv, ev4, rfl, hkv, hnv, hsv, hllv, hltv, hLv, hTv⟩ := hv4.inv
  refine Lands.ret (s := .t [.a [.v (.int .u8 kv), .v (.int .i64 nv), .v (.string sv), .v (.slice lav lsv.length lcv), .v (.slice tav tsv.length tcv)], .v (.int .i64 (lvE bs t))]) rfl rfl hh4 ?_
  intro w5 m5 z5 hh5
  replace m5 : Upd g2 w4 w5 := m5
  refine ⟨(y2.trans x4).upd m5 (by omega), _, rfl, (hv40.mod m5 fun k hk e => ?_).mono fun k hk => hk.imp id fun h => by omega⟩
  have e : k = g2 := e
  rcases hk with h | h
  · have := hR k h; omega
  · omega
end Go.Proofs.YtnoghkpofpaeeaaGreat


/-
  The document's environment: types and values.
-/
namespace Go.Proofs.YtnoghkpofpaeeaaGreat
open Go Go.RowKit Go.Proofs.Bw
set_option linter.unusedVariables false
set_option linter.unusedSimpArgs false

set_option maxHeartbeats 1000000 in
set_option maxRecDepth 20000 in
theorem rat_runs {R R' : Nat → Prop} (e : Nat) (A : Option Addr) (c : Nat) (l : List Inf) (t : T) (cs : List Value) (w : World) (b : Box w e [.slice A l.length c]) (hA : Sl encInf w R A l) (hRw : ∀ q, R q → q < w.heap.size) (hsl : l.length ≤ 1000000) (hv : VT w R' cs t) :
    Runs Tryz.prog 34 #[.pointer (some ⟨e, 0, none⟩), .agg cs.toArray] w fun v w' => Ext w w' ∧ ∃ cs' : List Value, v = .tuple #[.agg cs'.toArray, .int .i64 (atE l t)] ∧ VI w' R cs' (atI l t) := by
  have hv0 := hv
  obtain ⟨k, n, s, ls, ts, la, lc, ta, tc, et, rfl, hk, hn, hs, hll, hlt, hL, hT⟩ := hv.inv
  have hk3 : t.k = k := by rw [et]; rfl
  have hts : T.s' t = s := by rw [et]; rfl
  have htl : T.ls' t = ls := by rw [et]; rfl
  refine Runs.of_vc (ρ := []) cx_ok [0, 1, 3, 4, 5, 6, 7, 15, 25, 32] [.v _, .a [.v (.int .u8 k), .v (.int .i64 n), .v (.string s), .v (.slice la ls.length lc), .v (.slice ta ts.length tc)]] Tryz.func34 rfl rfl rfl (Holds.nil w) ?_
  intro g1 w1 e1 x1 z1 hh1
  intro g2 w2 e2 x2 z2 hh2
  have y2 := x1.trans x2
  have bad : ∀ w' : World, Ext w w' → atBad t → Ext w w' ∧ ∃ cs' : List Value, Value.tuple #[.agg noIc.toArray, .int .i64 1] = .tuple #[.agg cs'.toArray, .int .i64 (atE l t)] ∧ VI w' R cs' (atI l t) := by
    intro w' hx hb
    have e1 : atE l t = 1 := by unfold atE; rw [if_pos hb]
    have e2 : atI l t = noI := by unfold atI; rw [if_pos hb]
    rw [e1, e2]
    exact ⟨hx, noIc, rfl, noI_rep _ _⟩
  refine Or.inl (Exists.intro (.bool (mayT t)) (And.intro (fun _ => rMay_runs t _ w2 R' (hv0.ext y2)) (fun w3 x3 hh3 => ?_)))
  have y3 := y2.trans x3
  have q3 := x3.size
  refine Or.inl (And.intro (fun h => ?_) (fun h => ?_))
  · have hb : atBad t := by
      unfold atBad; rw [hk3]
      revert h; unfold sel
      by_cases h3 : k = 3
      · simp [h3]
      · intro _; exact .inl h3
    intro w4 m4 z4 hh4
    replace m4 : Upd g2 w3 w4 := m4
    exact bad _ (y3.upd m4 (by omega)) hb
  · have hnb : ¬ atBad t := by
      unfold atBad; rw [hk3]
      revert h; unfold sel
      by_cases h3 : k = 3 <;> cases mayT t <;> simp [h3]
    have hEq : atE l t = if (findI l s).isSome = false then 6 else if (ls.length : Int) ≠ (getI l s).params then 8 else 0 := by unfold atE; rw [if_neg hnb, hts, htl]
    have hIq : atI l t = getI l s := by unfold atI; rw [if_neg hnb, hts]
    rw [hEq, hIq]
    refine (rFind_runs e A c l s w3 (b.ext y3) (hA.ext y3) hsl).mono ?_
    rintro _ w4 ⟨x4, cs4, rfl, hI⟩
    have hh4 := hh3.ext x4
    have z4 := x4.size
    have y4 := y3.trans x4
    generalize getI l s = X at *
    have hI0 := hI
    obtain ⟨ctY, cvY, raY, rcY, rfl, htyY, hvlY, hruY, hrlY, hokY⟩ := hI; obtain ⟨kYt, nYt, sYt, lsYt, tsYt, laYt, lcYt, taYt, tcYt, etyY, rfl, hkYt, hnYt, hsYt, hllYt, hltYt, hLYt, hTYt⟩ := htyY.inv; obtain ⟨kYv, nYv, sYv, lsYv, tsYv, laYv, lcYv, taYv, tcYv, evlY, rfl, hkYv, hnYv, hsYv, hllYv, hltYv, hLYv, hTYv⟩ := hvlY.inv
    refine Lands.ret (s := .t [.a [.v (.int .u8 X.kind), .v (.string X.name), .v (.int .i64 X.params), .v (.int .u8 kYt), .v (.int .i64 nYt), .v (.string sYt), .v (.slice laYt lsYt.length lcYt), .v (.slice taYt tsYt.length tcYt), .v (.int .u8 kYv), .v (.int .i64 nYv), .v (.string sYv), .v (.slice laYv lsYv.length lcYv), .v (.slice taYv tsYv.length tcYv), .v (.int .i64 X.height), .v (.string X.block), .v (.string X.of_), .v (.int .i64 X.fixed), .v (.int .i64 X.index), .v (.int .i64 X.no), .v (.int .i64 X.fields), .v (.int .i64 X.motives), .v (.int .i64 X.minors), .v (.slice raY X.rules.length rcY), .v (.int .i64 X.ctors), .v (.bool X.record)], .v (.bool (findI l s).isSome)]) rfl rfl hh4 ?_
    intro g5 w5 e5 x5 z5 hh5; intro w6 m6 z6 hh6; replace m6 : Upd g5 w5 w6 := m6; have x6 : Ext w4 w6 := x5.upd m6 (by omega); have q6 := x6.size
    have y6 := y4.trans x6
    have q6' := y6.size
    have hXw : ∀ w7, Upd g2 w6 w7 → VI w7 R (X.cells [.int .u8 kYt, .int .i64 nYt, .string sYt, .slice laYt lsYt.length lcYt, .slice taYt tsYt.length tcYt] [.int .u8 kYv, .int .i64 nYv, .string sYv, .slice laYv lsYv.length lcYv, .slice taYv tsYv.length tcYv] raY rcY) X := fun w7 m7 => encInf.mod (S := fun q => q = g2) (encInf.ext hI0 x6) m7 fun q hq e => by have := hRw q hq; omega
    refine Or.inl (And.intro (fun h => ?_) (fun h => ?_))
    · have h : (findI l s).isSome = false := notT h
      rw [if_pos h]
      intro w7 m7 z7 hh7
      replace m7 : Upd g2 w6 w7 := m7
      exact ⟨y6.upd m7 (by omega), _, rfl, hXw w7 m7⟩
    · have h : ¬ (findI l s).isSome = false := fun hc => by rw [hc] at h; cases h
      rw [if_neg h]
      refine Or.inl (And.intro (fun h => ?_) (fun h => ?_))
      · have h : (ls.length : Int) ≠ X.params := by simpa using h
        rw [if_pos h]
        intro w7 m7 z7 hh7
        replace m7 : Upd g2 w6 w7 := m7
        exact ⟨y6.upd m7 (by omega), _, rfl, hXw w7 m7⟩
      · have h : ¬ (ls.length : Int) ≠ X.params := by simpa using h
        rw [if_neg h]
        intro w7 m7 z7 hh7
        replace m7 : Upd g2 w6 w7 := m7
        exact ⟨y6.upd m7 (by omega), _, rfl, hXw w7 m7⟩
def closeds (l : List Inf) : Prop := ∀ x ∈ l, mayT x.ty = true ∧ (x.kind = 2 → mayT x.val = true)
theorem at_mem {l : List Inf} {t : T} (h : atE l t = 0) : atI l t ∈ l := by
  unfold atE at h
  by_cases hb : atBad t
  · rw [if_pos hb] at h; cases h
  · rw [if_neg hb] at h
    unfold atI getI
    rw [if_neg hb]
    cases hf : findI l (T.s' t) with
    | none => rw [hf] at h; simp at h
    | some x => exact (findI_mem hf).1
set_option maxHeartbeats 1000000 in
set_option maxRecDepth 20000 in
theorem rType_runs {R : Nat → Prop} (e : Nat) (A : Option Addr) (c : Nat) (l : List Inf) (t : T) (cs : List Value) (w : World) (b : Box w e [.slice A l.length c]) (hA : Sl encInf w R A l) (hRw : ∀ q, R q → q < w.heap.size) (hsl : l.length ≤ 1000000) (hcl : closeds l) {R' : Nat → Prop} (hv : VT w R' cs t) (hR' : ∀ k, R' k → k < w.heap.size) :
    Runs Tryz.prog 16 #[.pointer (some ⟨e, 0, none⟩), .agg cs.toArray] w fun v w' => Ext w w' ∧ ∃ cs' : List Value, v = .tuple #[.agg cs'.toArray, .int .i64 (typE l t)] ∧ VT w' (fun k => (R k ∨ R' k) ∨ w.heap.size ≤ k) cs' (typT l t) := by
  have hv0 := hv
  obtain ⟨k, n, s, ls, ts, la, lc, ta, tc, et, rfl, hk, hn, hs, hll, hlt, hL, hT⟩ := hv.inv
  refine Runs.of_vc (ρ := []) cx_ok [0, 1, 3, 4, 5, 6, 7, 15] [.v _, .a [.v (.int .u8 k), .v (.int .i64 n), .v (.string s), .v (.slice la ls.length lc), .v (.slice ta ts.length tc)]] Tryz.func16 rfl rfl rfl (Holds.nil w) ?_
  intro g1 w1 e1 x1 z1 hh1
  intro g2 w2 e2 x2 z2 hh2
  have y2 := x1.trans x2
  refine (rat_runs e A c l t _ w2 (b.ext y2) (hA.ext y2) (fun k hk => by have := hRw k hk; omega) hsl (hv0.ext y2)).mono ?_
  rintro _ w3 ⟨x3, cs3, rfl, hI⟩
  have z3 := x3.size
  have hh3 := hh2.ext x3
  have hla := at_small (l := l) (t := t)
  have hmm := at_mem (l := l) (t := t)
  have htl : T.ls' t = ls := by rw [et]; rfl
  rw [htl] at hla
  unfold typE typT
  rw [htl]
  generalize atI l t = X at *
  generalize atE l t = E at *
  obtain ⟨ctY, cvY, raY, rcY, rfl, htyY, hvlY, hruY, hrlY, hokY⟩ := hI; obtain ⟨kYt, nYt, sYt, lsYt, tsYt, laYt, lcYt, taYt, tcYt, etyY, rfl, hkYt, hnYt, hsYt, hllYt, hltYt, hLYt, hTYt⟩ := htyY.inv; obtain ⟨kYv, nYv, sYv, lsYv, tsYv, laYv, lcYv, taYv, tcYv, evlY, rfl, hkYv, hnYv, hsYv, hllYv, hltYv, hLYv, hTYv⟩ := hvlY.inv
  refine Lands.ret (s := .t [.a [.v (.int .u8 X.kind), .v (.string X.name), .v (.int .i64 X.params), .v (.int .u8 kYt), .v (.int .i64 nYt), .v (.string sYt), .v (.slice laYt lsYt.length lcYt), .v (.slice taYt tsYt.length tcYt), .v (.int .u8 kYv), .v (.int .i64 nYv), .v (.string sYv), .v (.slice laYv lsYv.length lcYv), .v (.slice taYv tsYv.length tcYv), .v (.int .i64 X.height), .v (.string X.block), .v (.string X.of_), .v (.int .i64 X.fixed), .v (.int .i64 X.index), .v (.int .i64 X.no), .v (.int .i64 X.fields), .v (.int .i64 X.motives), .v (.int .i64 X.minors), .v (.slice raY X.rules.length rcY), .v (.int .i64 X.ctors), .v (.bool X.record)], .v (.int .i64 E)]) rfl rfl hh3 ?_
  intro g4 w4 e4 x4 z4 hh4; intro w5 m5 z5 hh5; replace m5 : Upd g4 w4 w5 := m5; have x5 : Ext w3 w5 := x4.upd m5 (by omega); have q5 := x5.size
  have y5 := y2.trans (x3.trans x5)
  refine Or.inl (And.intro (fun h => ?_) (fun h => ?_))
  · have h : E ≠ 0 := by simpa using h
    intro w6 m6 z6 hh6
    replace m6 : Upd g2 w5 w6 := m6
    rw [if_pos h, if_pos h]
    exact ⟨y5.upd m6 (by omega), [.int .u8 0, .int .i64 0, .string noS, .slice none 0 0, .slice none 0 0], rfl, tZ_rep _ _⟩
  · have h : ¬ E ≠ 0 := by simpa using h
    rw [if_neg h, if_neg h]
    have h0 : E = 0 := by simpa using h
    refine (rtold_runs (R := fun k => R k ∨ R' k) la ls lc hll (by have := hla h0; omega) X.ty _ w5 ((htyY.ext x5).mono fun k hk => .inl hk) ((sl_L hL).mono (fun k hk => .inr hk) |>.ext y5) (fun k hk => by rcases hk with hk | hk; have := hRw k hk; have := y5.size; omega; have := hR' k hk; have := y5.size; omega) (hcl X (hmm h0)).1).mono ?_
    rintro _ w6 ⟨x6, cs6, rfl, hv6⟩
    have hh6 := hh5.ext x6
    have hv60 := hv6
    obtain ⟨kv6, nv6, sv6, lsv6, tsv6, lav6, lcv6, tav6, tcv6, ev6, rfl, hkv6, hnv6, hsv6, hllv6, hltv6, hLv6, hTv6⟩ := hv6.inv
    refine Lands.ret (s := .t [.a [.v (.int .u8 kv6), .v (.int .i64 nv6), .v (.string sv6), .v (.slice lav6 lsv6.length lcv6), .v (.slice tav6 tsv6.length tcv6)], .v (.int .i64 (lvlE X.ty ls))]) rfl rfl hh6 ?_
    intro w7 m7 z7 hh7
    replace m7 : Upd g2 w6 w7 := m7
    have q6 := x6.size
    have q5' := y5.size
    refine ⟨(y5.trans x6).upd m7 (by omega), _, rfl, (hv60.mod m7 fun k hk e => ?_).mono fun k hk => ?_⟩
    · have e : k = g2 := e
      rcases hk with (hk | hk) | hk
      · have := hRw k hk; omega
      · have := hR' k hk; omega
      · omega
    · rcases hk with hk | hk
      · exact .inl hk
      · exact .inr (by omega)
set_option maxHeartbeats 1000000 in
set_option maxRecDepth 20000 in
theorem rValue_runs {R : Nat → Prop} (e : Nat) (A : Option Addr) (c : Nat) (l : List Inf) (t : T) (cs : List Value) (w : World) (b : Box w e [.slice A l.length c]) (hA : Sl encInf w R A l) (hRw : ∀ q, R q → q < w.heap.size) (hsl : l.length ≤ 1000000) (hcl : closeds l) {R' : Nat → Prop} (hv : VT w R' cs t) (hR' : ∀ k, R' k → k < w.heap.size) :
    Runs Tryz.prog 18 #[.pointer (some ⟨e, 0, none⟩), .agg cs.toArray] w fun v w' => Ext w w' ∧ ∃ cs' : List Value, v = .tuple #[.agg cs'.toArray, .int .i64 (valE l t)] ∧ VT w' (fun k => (R k ∨ R' k) ∨ w.heap.size ≤ k) cs' (valT l t) := by
  have hv0 := hv
  obtain ⟨k, n, s, ls, ts, la, lc, ta, tc, et, rfl, hk, hn, hs, hll, hlt, hL, hT⟩ := hv.inv
  refine Runs.of_vc (ρ := []) cx_ok [0, 1, 3, 4, 5, 6, 7, 15, 20] [.v _, .a [.v (.int .u8 k), .v (.int .i64 n), .v (.string s), .v (.slice la ls.length lc), .v (.slice ta ts.length tc)]] Tryz.func18 rfl rfl rfl (Holds.nil w) ?_
  intro g1 w1 e1 x1 z1 hh1
  intro g2 w2 e2 x2 z2 hh2
  have y2 := x1.trans x2
  refine (rat_runs e A c l t _ w2 (b.ext y2) (hA.ext y2) (fun k hk => by have := hRw k hk; omega) hsl (hv0.ext y2)).mono ?_
  rintro _ w3 ⟨x3, cs3, rfl, hI⟩
  have z3 := x3.size
  have hh3 := hh2.ext x3
  have hla := at_small (l := l) (t := t)
  have hmm := at_mem (l := l) (t := t)
  have htl : T.ls' t = ls := by rw [et]; rfl
  rw [htl] at hla
  unfold valE valT
  rw [htl]
  generalize atI l t = X at *
  generalize atE l t = E at *
  obtain ⟨ctY, cvY, raY, rcY, rfl, htyY, hvlY, hruY, hrlY, hokY⟩ := hI; obtain ⟨kYt, nYt, sYt, lsYt, tsYt, laYt, lcYt, taYt, tcYt, etyY, rfl, hkYt, hnYt, hsYt, hllYt, hltYt, hLYt, hTYt⟩ := htyY.inv; obtain ⟨kYv, nYv, sYv, lsYv, tsYv, laYv, lcYv, taYv, tcYv, evlY, rfl, hkYv, hnYv, hsYv, hllYv, hltYv, hLYv, hTYv⟩ := hvlY.inv
  refine Lands.ret (s := .t [.a [.v (.int .u8 X.kind), .v (.string X.name), .v (.int .i64 X.params), .v (.int .u8 kYt), .v (.int .i64 nYt), .v (.string sYt), .v (.slice laYt lsYt.length lcYt), .v (.slice taYt tsYt.length tcYt), .v (.int .u8 kYv), .v (.int .i64 nYv), .v (.string sYv), .v (.slice laYv lsYv.length lcYv), .v (.slice taYv tsYv.length tcYv), .v (.int .i64 X.height), .v (.string X.block), .v (.string X.of_), .v (.int .i64 X.fixed), .v (.int .i64 X.index), .v (.int .i64 X.no), .v (.int .i64 X.fields), .v (.int .i64 X.motives), .v (.int .i64 X.minors), .v (.slice raY X.rules.length rcY), .v (.int .i64 X.ctors), .v (.bool X.record)], .v (.int .i64 E)]) rfl rfl hh3 ?_
  intro g4 w4 e4 x4 z4 hh4; intro w5 m5 z5 hh5; replace m5 : Upd g4 w4 w5 := m5; have x5 : Ext w3 w5 := x4.upd m5 (by omega); have q5 := x5.size
  have y5 := y2.trans (x3.trans x5)
  refine Or.inl (And.intro (fun h => ?_) (fun h => ?_))
  · have h : E ≠ 0 := by simpa using h
    intro w6 m6 z6 hh6
    replace m6 : Upd g2 w5 w6 := m6
    rw [if_pos h, if_pos h]
    exact ⟨y5.upd m6 (by omega), [.int .u8 0, .int .i64 0, .string noS, .slice none 0 0, .slice none 0 0], rfl, tZ_rep _ _⟩
  · have h : ¬ E ≠ 0 := by simpa using h
    rw [if_neg h, if_neg h]
    have h0 : E = 0 := by simpa using h
    refine Or.inl (And.intro (fun h => ?_) (fun h => ?_))
    · have hk : X.kind ≠ 2 := by simpa using h
      intro w6 m6 z6 hh6
      replace m6 : Upd g2 w5 w6 := m6
      rw [if_pos hk, if_pos hk]
      exact ⟨y5.upd m6 (by omega), [.int .u8 0, .int .i64 0, .string noS, .slice none 0 0, .slice none 0 0], rfl, tZ_rep _ _⟩
    have hk : ¬ X.kind ≠ 2 := by simpa using h
    rw [if_neg hk, if_neg hk]
    refine (rtold_runs (R := fun k => R k ∨ R' k) la ls lc hll (by have := hla h0; omega) X.val _ w5 ((hvlY.ext x5).mono fun k hk => .inl hk) ((sl_L hL).mono (fun k hk => .inr hk) |>.ext y5) (fun k hk => by rcases hk with hk | hk; have := hRw k hk; have := y5.size; omega; have := hR' k hk; have := y5.size; omega) ((hcl X (hmm h0)).2 (by simpa using hk))).mono ?_
    rintro _ w6 ⟨x6, cs6, rfl, hv6⟩
    have hh6 := hh5.ext x6
    have hv60 := hv6
    obtain ⟨kv6, nv6, sv6, lsv6, tsv6, lav6, lcv6, tav6, tcv6, ev6, rfl, hkv6, hnv6, hsv6, hllv6, hltv6, hLv6, hTv6⟩ := hv6.inv
    refine Lands.ret (s := .t [.a [.v (.int .u8 kv6), .v (.int .i64 nv6), .v (.string sv6), .v (.slice lav6 lsv6.length lcv6), .v (.slice tav6 tsv6.length tcv6)], .v (.int .i64 (lvlE X.val ls))]) rfl rfl hh6 ?_
    intro w7 m7 z7 hh7
    replace m7 : Upd g2 w6 w7 := m7
    have q6 := x6.size
    have q5' := y5.size
    refine ⟨(y5.trans x6).upd m7 (by omega), _, rfl, (hv60.mod m7 fun k hk e => ?_).mono fun k hk => ?_⟩
    · have e : k = g2 := e
      rcases hk with (hk | hk) | hk
      · have := hRw k hk; omega
      · have := hR' k hk; omega
      · omega
    · rcases hk with hk | hk
      · exact .inl hk
      · exact .inr (by omega)
theorem addAll_mem {l : List Inf} : ∀ {xs : List Inf} {y : Inf}, y ∈ addAll l xs → y ∈ l ∨ ∃ x ∈ xs, y.ty = x.ty ∧ y.kind = x.kind ∧ y.val = valI x := by
  intro xs
  induction xs using snoc_ind with
  | h0 => intro y h; exact .inl h
  | h xs x ih =>
    intro y h
    rw [addAll_snoc] at h
    rcases List.mem_append.1 h with h | h
    · exact (ih h).imp id fun ⟨z, hz, h⟩ => ⟨z, by simp [hz], h⟩
    · rw [List.mem_singleton] at h; subst h
      exact .inr ⟨x, by simp, rfl, rfl, rfl⟩
theorem closeds.add {l : List Inf} (h : closeds l) (xs : List Inf) : closeds (addL l xs) := by
  unfold addL
  by_cases h0 : addE l xs = 0
  · rw [if_pos h0]
    have hch : addE l xs = checksB l xs xs 0 := by
      have := checks_fst h0
      unfold addE; rw [if_neg (by omega)]
    have hck := checks_ok xs 0 (by rw [← hch]; exact h0)
    intro y hy
    rcases addAll_mem hy with hy | ⟨x, hx, e1, e2, e3⟩
    · exact h y hy
    · obtain ⟨j, hj, rfl⟩ := List.mem_iff_getElem.1 hx
      have hc := checkB_may (hck j hj)
      rw [e1, e2, e3]
      refine ⟨hc _ (mem_ty _), fun hk => ?_⟩
      have hv : valB xs[j].kind = true := by unfold valB; rw [hk]; rfl
      unfold valI; rw [if_pos hv]
      exact hc _ (mem_val hv)
  · rw [if_neg h0]; exact h
end Go.Proofs.YtnoghkpofpaeeaaGreat


/-
  EnvPlays.
-/
namespace Go.Proofs.YtnoghkpofpaeeaaGreat
open Go Go.RowKit Go.Proofs.Bw
set_option linter.unusedVariables false
set_option linter.unusedSimpArgs false

theorem fewB_len' {l : List Inf} (h : fewB l = true) : l.length ≤ 40 := by
  unfold fewB at h
  have := (Bool.and_eq_true _ _ ▸ h).1
  simp at this
  omega
theorem fewB_rls' {l : List Inf} (h : fewB l = true) : ∀ x ∈ l, x.rules.length ≤ 1000 := by
  intro x hx
  unfold fewB at h
  have h1 := (Bool.and_eq_true _ _ ▸ h).2
  have h2 := List.all_eq_true.1 h1 x hx
  unfold fewI at h2
  simp at h2
  omega
theorem addL_len (L xs : List Inf) : L.length ≤ (addL L xs).length := by
  unfold addL; split
  · rw [addAll_len]; omega
  · exact Nat.le_refl _
structure LG (L : List Inf) : Prop where
  cl : closeds L
  nd : (L.map (·.name)).Nodup
  nm : ∀ x ∈ L, nameB x.name = true
theorem LG.nil : LG [] := ⟨(fun _ h => nomatch h), by simp, (fun _ h => nomatch h)⟩
theorem addAll_names {l : List Inf} : ∀ xs : List Inf, (addAll l xs).map (·.name) = l.map (·.name) ++ xs.map (·.name) := by
  intro xs
  induction xs using snoc_ind with
  | h0 => simp [addAll]
  | h xs x ih => rw [addAll_snoc, List.map_append, ih]; simp [addOne]
theorem checkB_name {l xs : List Inf} {i : Nat} {x : Inf} (h : checkB l xs i x = 0) : nameB x.name = true := by
  unfold checkB at h
  split at h
  · omega
  · rename_i h1
    cases hq : nameB x.name with
    | true => rfl
    | false => exact absurd (.inl hq) h1
theorem LG.add {L : List Inf} (h : LG L) (xs : List Inf) : LG (addL L xs) := by
  refine ⟨h.cl.add xs, ?_, ?_⟩
  · unfold addL
    split
    · rename_i h0
      have hch : addE L xs = checksB L xs xs 0 := by
        have := checks_fst h0
        unfold addE; rw [if_neg (by omega)]
      have hck := checks_ok xs 0 (by rw [← hch]; exact h0)
      rw [addAll_names]
      have key : ∀ j, j ≤ xs.length → (L.map (·.name) ++ (xs.take j).map (·.name)).Nodup := by
        intro j
        induction j with
        | zero => intro _; simpa using h.nd
        | succ j ih =>
          intro hj
          have hfr := checkB_fresh (hck j hj)
          rw [Nat.zero_add] at hfr
          rw [take_snoc xs j hj, List.map_append, ← List.append_assoc]
          refine List.nodup_append.2 ⟨ih (by omega), by simp, ?_⟩
          intro a ha b hb hab
          rw [List.map_singleton, List.mem_singleton] at hb
          subst hab; subst hb
          rcases List.mem_append.1 ha with ha | ha
          · obtain ⟨x, hx, hxn⟩ := List.mem_map.1 ha
            have : findI L xs[j].name = none := Option.not_isSome_iff_eq_none.1 (by rw [hfr.1]; decide)
            exact findI_none.1 this x hx hxn
          · obtain ⟨x, hx, hxn⟩ := List.mem_map.1 ha
            have h2 := hfr.2
            unfold nameIn at h2
            rw [List.any_eq_false] at h2
            exact h2 x hx (by simpa using hxn)
      have := key xs.length (Nat.le_refl _)
      rwa [List.take_length] at this
    · exact h.nd
  · intro y hy
    unfold addL at hy
    split at hy
    · rename_i h0
      have hch : addE L xs = checksB L xs xs 0 := by
        have := checks_fst h0
        unfold addE; rw [if_neg (by omega)]
      have hck := checks_ok xs 0 (by rw [← hch]; exact h0)
      have hm : y.name ∈ (addAll L xs).map (·.name) := List.mem_map_of_mem hy
      rw [addAll_names] at hm
      rcases List.mem_append.1 hm with hm | hm
      · obtain ⟨x, hx, hxn⟩ := List.mem_map.1 hm
        rw [← hxn]; exact h.nm x hx
      · obtain ⟨x, hx, hxn⟩ := List.mem_map.1 hm
        obtain ⟨j, hj, rfl⟩ := List.mem_iff_getElem.1 hx
        rw [← hxn]; exact checkB_name (hck j hj)
    · exact h.nm y hy
def conT (t : T) (s : ByteArray) : T := .mk 3 0 s (T.ls' t) []
def allT (t : T) (l : List Inf) : List T := [t] ++ l.map fun x => conT t x.name
theorem allT_len (t : T) (l : List Inf) : (allT t l).length = l.length + 1 := by simp [allT]
def sQ : ByteArray := ⟨#[113, 113, 39, 113]⟩
/-- the environment that With gave, if it gave one -/
def Oth (w : World) (po : Option Addr) (O X : Nat → Prop) : Prop :=
  (po = none ∧ ∀ k, ¬ O k) ∨ ∃ lo ec mc Ac cc lc, po = some ⟨ec, 0, none⟩ ∧ (∀ k, O k ↔ mine ec mc Ac k) ∧ EX w X lo ec mc Ac cc lc
set_option maxHeartbeats 4000000 in
set_option maxRecDepth 20000 in
theorem plays_runs {R RP : Nat → Prop} (A0 P0 : Option Addr) (l : List Inf) (ps : List UInt8) (c0 pc : Nat) (t : T) (cs : List Value) (w : World) (hl : Sl encInf w R A0 l) (hB : lenOk l.length c0) (hP : Rd w RP 1 P0 (bR ps)) (hv : VT w R cs t) (hR : ∀ k, R k → k < w.heap.size) :
    Runs Tryz.prog 3 #[.slice A0 l.length c0, .slice P0 ps.length pc, .agg cs.toArray] w fun v w' => v = .bool true ∧ Ext w w' := by
  have hv0 := hv
  obtain ⟨k, n, s, ls, ts, la, lc, ta, tc, et, rfl, hk, hn, hs, hll, hlt, hL, hT⟩ := hv.inv
  refine Runs.of_vc (ρ := []) cx_ok [0, 1, 2, 5, 6, 7, 8, 9, 10, 11, 12, 13, 14, 15, 16, 17, 18, 19, 20, 21, 22, 23, 24, 25, 26, 27, 28, 29, 30, 32, 33, 45, 53, 111, 113, 129, 133, 173, 179, 196, 254] [.v _, .v _, .a [.v (.int .u8 k), .v (.int .i64 n), .v (.string s), .v (.slice la ls.length lc), .v (.slice ta ts.length tc)]] Tryz.func3 rfl rfl rfl (Holds.nil w) ?_
  intro g0 w0 e0 x0 z0 hh0
  refine vcZ (Few_runs A0 l c0 w0 (hl.ext x0) hB) hh0 fun w1 x1 z1 hh1 => ?_
  refine Or.inl (Exists.intro (.bool (isDeep t)) (And.intro (fun _ => rDeep_runs t _ w1 R (hv0.ext (x0.trans x1))) (fun w2 x2 hh2 => ?_)))
  have y2 := x0.trans (x1.trans x2)
  have q2 := y2.size
  have hg0 : g0 < w2.heap.size := by have := x1.size; have := x2.size; omega
  refine Or.inl (And.intro (fun h => ?_) (fun h => ?_))
  · refine vcZ (works_runs w2) hh2 fun w3 x3 z3 hh3 => ?_
    exact ⟨rfl, y2.trans x3⟩
  have hh := h
  have hfew : fewB l = true := by
    cases hq : fewB l with
    | true => rfl
    | false => rw [hq] at hh; cases hh
  rw [hfew] at hh
  have hp60 : ps.length ≤ 60 := by
    have := hh
    simp only [sel, Bool.not_true] at this
    by_cases hq : (60 : Int) < (ps.length : Int)
    · simp [hq] at this
    · omega
  have hlen := fewB_len' hfew
  have hrls := fewB_rls' hfew
  refine vcV (New_x w2 (fun _ => False) fun _ h => h) hh2 fun v3 w3 x3 z3 hh3 p3 => ?_
  obtain ⟨e, m, rfl, hE3⟩ := p3
  have y3 := y2.trans x3
  intro g4 w4 e4 x4 z4 hh4
  have y4 := y3.trans x4
  have a3 := hE3.lt
  have hE4 : EX w4 (rmine g4 none) w2.heap.size e m none 0 [] := hE3.mod x4 (fun _ _ h => h.elim) (fun _ h => h.elim) fun k hk hm => by
    rcases hm with hm | ⟨a, ha, _⟩
    · omega
    · cases ha
  have hD4 : RA w4 (mine e m none) w3.heap.size g4 none 0 [] := ⟨hh4.box 1 _ rfl, IX.nil _ _ _, by omega, fun ⟨a, ha, _⟩ => (by cases ha), by simp, by simp⟩
  have hd4 : ∀ k, mine e m none k → ¬ rmine g4 none k := fun k hk hm => by
    have := a3 k hk
    rcases hm with hm | ⟨a, ha, _⟩
    · omega
    · cases ha
  refine vLoop_upd (σ := Nat × Nat × List Inf × Option Addr × Nat) [6, 9, 10, 11, 12, 13, 14, 15, 50, 51, 52, 53, 54, 55, 56, 57, 58, 59, 60, 61, 62, 63, 64, 65, 66, 67, 68, 69, 70, 71, 72, 73, 74, 75, 76, 77, 78, 79, 80, 81, 82, 83, 84, 85, 86, 87, 88, 89, 90, 91, 92, 93, 94, 95, 96, 97, 98, 99, 100, 101, 102, 103, 104, 105, 106, 107, 108, 109, 110, 111, 112, 113, 114, 115, 116, 117, 118, 119] (fun s => [(9, .v (.int .i64 s.2.1)), (10, .v (.int .i64 s.1))]) [1] (fun s => [(1, [.v (.slice s.2.2.2.1 s.2.2.1.length s.2.2.2.2)])])
    (fun s w' => Ext w w' ∧ s.1 ≤ ps.length ∧ s.2.1 ≤ l.length ∧ w4.heap.size ≤ w'.heap.size ∧ LG s.2.2.1 ∧ ∃ A c, EX w' (rmine g4 s.2.2.2.1) w2.heap.size e m A c s.2.2.1 ∧ RA w' (mine e m A) w3.heap.size g4 s.2.2.2.1 s.2.2.2.2 s.2.2.1 ∧ (∀ k, mine e m A k → ¬ rmine g4 s.2.2.2.1 k))
    (fun s => ps.length - s.1) (0, 0, [], none, 0) (fun _ => ⟨rfl, rfl⟩)
    ⟨(by repeat (first | exact trivial | refine And.intro rfl ?_)), (by repeat (first | exact trivial | refine And.intro rfl ?_)), (by repeat (first | exact trivial | refine And.intro rfl ?_)), (by repeat (first | exact trivial | refine And.intro rfl ?_)), y4, Nat.zero_le _, Nat.zero_le _, Nat.le_refl _, LG.nil, none, 0, hE4, hD4, hd4⟩ ?_
  rintro ⟨i, at_, L, Ad, cd⟩ w5 hh5 ⟨y5, hi, hat, q5, hLG, A, c, hE, hD, hd⟩
  simp only at hi hat q5 hLG hE hD hd
  have a5 := hE.lt
  have d5 := hD.lt
  refine Or.inl (And.intro (fun h => ?_) (fun h => ?_))
  · have hil : i < ps.length := by have := of_decide_eq_true h; simp only at this; omega
    obtain ⟨a1, ha1, hRa, hrow⟩ := hP i [.int .u8 ps[i].toNat] (by simp [bR, hil])
    have hb8 : ps[i].toNat < 256 := UInt8.toNat_lt _
    generalize ps[i].toNat = bb at *
    refine OpT.indexAddr Tryz.underlying23 Tryz.sizeOf5 rfl rfl ha1 (by omega) ?_
    refine Lands.v hh5 ?_
    refine OpT.load Tryz.isAgg5 rfl ((hrow.ext y5).cell 0 rfl) ?_
    refine Lands.v hh5 ?_
    refine vsd (by simp only [inKind]; omega) ?_
    refine vsd (by omega) ?_
    refine vsd (by simp only [inKind]; omega) ?_
    obtain ⟨nn, hn, hn1, hn2⟩ : ∃ nn : Nat, (if (at_ : Int) + (bb : Int) % 4 < (l.length : Int) then (at_ : Int) + (bb : Int) % 4 else (l.length : Int)) = (nn : Int) ∧ at_ ≤ nn ∧ nn ≤ l.length := by
      refine ⟨min l.length (at_ + bb % 4), ?_, by omega, by omega⟩
      split <;> omega
    refine vcV (List_runs e m A c L w5 hE) hh5 fun v6 w6 x6 z6 hh6 p6 => ?_
    obtain ⟨A6, c6, rfl, _⟩ := p6
    have y6 := y5.trans x6
    have hxl : ((l.drop at_).take (nn - at_)).length = nn - at_ := by rw [List.length_take, List.length_drop]; omega
    have hxs : Sl encInf w R (if c0 = at_ then A0 else A0.map (·.add (at_ * 25))) ((l.drop at_).take (nn - at_)) := (hl.cut hB.1 at_).take _
    have hxr : ∀ x ∈ (l.drop at_).take (nn - at_), x.rules.length ≤ 1000 := fun x hx => hrls x (List.mem_of_mem_drop (List.mem_of_mem_take hx))
    generalize (l.drop at_).take (nn - at_) = xs at *
    generalize hBx : (if c0 = at_ then A0 else A0.map (·.add (at_ * 25))) = Bx at *
    have hxB : lenOk xs.length (c0 - at_) := by simp only [lenOk] at *; omega
    refine OpT.slice Tryz.underlying22 Tryz.sizeOf46 rfl (i := (at_ : Int)) (j := (if (at_ : Int) + (bb : Int) % 4 < (l.length : Int) then (at_ : Int) + (bb : Int) % 4 else (l.length : Int))) rfl rfl (by rw [hn]; simp only [lenOk] at hB; omega) ?_
    rw [hn, show (if c0 = (at_ : Int).toNat then A0 else A0.map (·.add ((at_ : Int).toNat * 25))) = Bx from hBx, show ((nn : Int).toNat - (at_ : Int).toNat) = xs.length from hxl.symm]
    refine Lands.v hh6 ?_
    have hE6 := hE.ext x6
    have hD6 := hD.ext x6
    have q6 := y6.size
    have w2w5 : w2.heap.size ≤ w5.heap.size := by omega
    refine (With_runs e m A Bx c (c0 - at_) L xs w6 hE6 (hxs.ext y6) (fun k hk => ⟨⟨by have := hR k hk; omega, fun hm => by have := d5 k hm; have := hR k hk; omega⟩, fun hm => by have := a5 k hm; have := hR k hk; omega⟩) hxB (by omega) hxr).mono ?_
    rintro v7 w7 ⟨x7, hcase⟩
    have hh7 := hh6.ext x7
    have z7 := x7.size
    have y7 := y6.trans x7
    have hE7 : EX w7 (rmine g4 Ad) w2.heap.size e m A c L := hE6.ext x7
    have hD7 := hD6.ext x7
    have ho7 : ∃ po O, v7 = .tuple #[.pointer po, .int .i64 (addE L xs)] ∧ po.isNone = !decide (addE L xs = 0) ∧ (∀ k, O k → w6.heap.size ≤ k ∧ k < w7.heap.size) ∧ Oth w7 po O (fun k => rmine g4 Ad k ∨ mine e m A k) := by
      rcases hcase with ⟨h0, rfl⟩ | ⟨h0, ec, mc, Ac, cc, Rc, rfl, hC, rc1, rc2⟩
      · exact ⟨none, fun _ => False, rfl, by simp [h0], fun _ h => h.elim, .inl ⟨rfl, fun _ h => h⟩⟩
      · refine ⟨_, mine ec mc Ac, by rw [h0], by simp [h0], hC.mine_lt, .inr ⟨_, ec, mc, Ac, cc, _, rfl, fun _ => Iff.rfl, EA.ex hC fun k hk hx => ?_⟩⟩
        rcases rc2 k hk with h | h
        · exact hx.elim h.1.2 h.2
        · rcases hx with hx | hx
          · have := d5 k hx; omega
          · have := a5 k hx; omega
    obtain ⟨po, O, rfl, hpo, hO, hOt⟩ := ho7
    refine Lands.ret (s := .t [.v (.pointer po), .v (.int .i64 (addE L xs))]) rfl rfl hh7 ?_
    -- Add to the one
    refine OpT.slice Tryz.underlying22 Tryz.sizeOf46 rfl (i := (at_ : Int)) (j := (nn : Int)) rfl rfl (by simp only [lenOk] at hB; omega) ?_
    rw [show (if c0 = (at_ : Int).toNat then A0 else A0.map (·.add ((at_ : Int).toNat * 25))) = Bx from hBx, show ((nn : Int).toNat - (at_ : Int).toNat) = xs.length from hxl.symm]
    refine Lands.v hh7 ?_
    have hE7' : EX w7 (fun k => rmine g4 Ad k ∨ O k) w2.heap.size e m A c L := hE6.mod x7 (fun _ _ h => h.elim) (fun k hk hm => hd k hm hk) fun k hk h => h.elim id fun h => by have := hO k h; omega
    have hD7' : RA w7 (fun k => mine e m A k ∨ O k) w3.heap.size g4 Ad cd L := hD6.mod (S := fun _ => False) x7 (fun _ _ h => h.elim) (fun k hk hm => hd k hk hm) fun k hk h => h.elim id fun h => by have := hO k h; omega
    refine vcM (Add_x e m A Bx c (c0 - at_) L xs w7 hE7' (fun k hk => hk.elim (fun h => by have := d5 k h; omega) fun h => (hO k h).2) (hxs.ext y7) (fun k hk => ⟨⟨by have := hR k hk; omega, fun hm => hm.elim (fun hm => by have := d5 k hm; have := hR k hk; omega) fun hm => by have := hO k hm; have := hR k hk; omega⟩, fun hm => by have := a5 k hm; have := hR k hk; omega⟩) hxB (by omega) hxr) hh7 ⟨fun hm => by have := a5 _ hm; omega, fun hm => hd _ hm (.inl rfl), trivial⟩ fun v8 w8 m8 z8 hh8 p8 => ?_
    obtain ⟨rfl, A8, c8, hE8, n8⟩ := p8
    have hD8 : RA w8 (fun k => mine e m A8 k ∨ O k) w3.heap.size g4 Ad cd L := hD7'.mod m8 (fun k _ h => .inl h) (fun k hk hm => hk.elim (fun hk => hd k hk hm) fun hk => by have := hO k hk; have := d5 k hm; omega) fun k hk h => h.imp (fun h => (n8 k h).elim id fun h => by omega) id
    have y8 : Ext w w8 := y7.trans' m8 fun k hk hs => by have := a5 k hs; omega
    have hOt8 : Oth w8 po O (fun k => rmine g4 Ad k ∨ mine e m A8 k) := by
      rcases hOt with h | ⟨lo, ec, mc, Ac, cc, lc, h1, h2, h3⟩
      · exact .inl h
      · exact .inr ⟨lo, ec, mc, Ac, cc, lc, h1, h2, h3.mod m8 (fun k _ h => .inr h) (fun k hk hm => by have := hO k ((h2 k).2 hm); exact hk.elim (fun hk => by have := d5 k hk; omega) fun hk => by have := a5 k hk; omega) fun k hk h => h.imp id fun h => (n8 k h).elim id fun h => by omega⟩
    -- Add to the document's one
    refine OpT.slice Tryz.underlying22 Tryz.sizeOf46 rfl (i := (at_ : Int)) (j := (nn : Int)) rfl rfl (by simp only [lenOk] at hB; omega) ?_
    rw [show (if c0 = (at_ : Int).toNat then A0 else A0.map (·.add ((at_ : Int).toNat * 25))) = Bx from hBx, show ((nn : Int).toNat - (at_ : Int).toNat) = xs.length from hxl.symm]
    refine Lands.v hh8 ?_
    have hm8 : ∀ k, mine e m A8 k → w2.heap.size ≤ k ∧ k < w8.heap.size := hE8.lt
    refine (rAdd_runs g4 Ad Bx cd (c0 - at_) L xs w8 hD8 (fun k hk => hk.elim (fun h => (hm8 k h).2) fun h => by have := hO k h; omega) (fun k hk hm => hk.elim (fun hk => (n8 k hk).elim (fun hk => hd k hk hm) fun h => by have := d5 k hm; omega) fun hk => by have := hO k hk; have := d5 k hm; omega) (hxs.ext y8) (fun k hk => ⟨by have := hR k hk; omega, fun hm => hm.elim (fun hm => by have := hm8 k hm; have := hR k hk; omega) fun hm => by have := hO k hm; have := hR k hk; omega, fun hm => by have := d5 k hm; have := hR k hk; omega⟩) hxB (by omega) hxr).mono ?_
    rintro _ w9 ⟨rfl, m9, Ad9, cd9, hD9, n9⟩
    have z9 := m9.size
    have y9 : Ext w w9 := y8.trans' m9 fun k hk hs => by have := d5 k hs; omega
    refine Lands.to (H' := [(0, [.v (.int .u8 k), .v (.int .i64 n), .v (.string s), .v (.slice la ls.length lc), .v (.slice ta ts.length tc)]), (1, [.v (.slice Ad9 (addL L xs).length cd9)])]) (s := .v (.int .i64 (addE L xs))) rfl rfl hh8 z9 ⟨(hh8.box 0 _ rfl).mod m9 (fun hm => by have := d5 _ hm; show False; have h0 : adr [g0, g4] 0 = g0 := rfl; rw [h0] at this; omega), hD9.box, trivial⟩ rfl fun hh9 => ?_
    have hE9 : EX w9 (fun k => rmine g4 Ad9 k ∨ O k) w2.heap.size e m A8 c8 (addL L xs) := hE8.mod m9 (fun k _ h => .inl h) (fun k hk hm => (n8 k hm).elim (fun hm => hk.elim (fun hk => hd k hm hk) fun hk => by have := hO k hk; have := a5 k hm; omega) fun h => hk.elim (fun hk => by have := d5 k hk; omega) fun hk => by have := hO k hk; omega) fun k hk h => h.imp (fun h => h.imp id fun h => (n9 k h).elim id fun h => by omega) id
    have hOt9 : Oth w9 po O (fun k => rmine g4 Ad9 k ∨ mine e m A8 k) := by
      rcases hOt8 with h | ⟨lo, ec, mc, Ac, cc, lc, h1, h2, h3⟩
      · exact .inl h
      · refine .inr ⟨lo, ec, mc, Ac, cc, lc, h1, h2, h3.mod m9 (fun k _ h => .inl h) (fun k hk hm => ?_) fun k hk h => h.imp (fun h => h.imp id fun h => (n9 k h).elim id fun h => by omega) id⟩
        have := hO k ((h2 k).2 hm)
        rcases hk with hk | hk
        · have := d5 k hk; omega
        · rcases n8 k hk with hk | hk
          · have := a5 k hk; omega
          · omega
    have hlen2 := addL_len L xs
    refine vyes (gT (by simp [sel, hpo])) ?_
    refine vcV (List_runs e m A8 c8 (addL L xs) w9 hE9) hh9 fun v10 w10 x10 z10 hh10 p10 => ?_
    obtain ⟨A10, c10, rfl, _⟩ := p10
    refine Or.inl (And.intro (fun h => ?_) (fun _ => ?_))
    · exfalso
      have h0 : ¬ ((addL L xs).length : Int) < (L.length : Int) := by omega
      simp [sel, hpo, h0] at h
    have y10 := y9.trans x10
    have hd9 : ∀ k, mine e m A8 k → ¬ rmine g4 Ad9 k := fun k hk hm => by
      have h1 : rmine g4 Ad k ∨ w8.heap.size ≤ k := hm.elim (fun h => .inl (.inl h)) fun h => (n9 k h).imp .inr id
      rcases h1 with h1 | h1
      · rcases n8 k hk with h2 | h2
        · exact hd k h2 h1
        · have := d5 k h1; omega
      · have := hm8 k hk; omega
    have hLG' := hLG.add xs
    generalize addL L xs = L' at *
    rcases hOt9 with ⟨rfl, hno⟩ | ⟨lo, ec, mc, Ac, cc, lc, rfl, h2, h3⟩
    · refine Or.inl (And.intro (fun hx => nomatch (rfl).symm.trans hx) (fun _ => ?_))
      refine vsd (by simp only [inKind]; omega) ?_
      exact Exists.intro ((i + 1, nn, L', Ad9, cd9)) ⟨by simp only; omega, esub_over (by repeat (first | exact trivial | refine And.intro rfl ?_)) (by repeat (first | exact trivial | refine And.intro rfl ?_)), hsub_over (by repeat (first | exact trivial | refine And.intro rfl ?_)) (by repeat (first | exact trivial | refine And.intro rfl ?_)), y10, hil, hn2, by omega, hLG', A8, c8, hE9.mod x10 (fun _ _ h => h.elim) (fun k hk hm => hk.elim (hd9 k hm) (hno k)) (fun k _ h => .inl h), hD9.mod (S := fun _ => False) x10 (fun _ _ h => h.elim) (fun k hk hm => hk.elim (fun h => hd9 k h hm) (hno k)) (fun k _ h => .inl h), hd9⟩
    · refine Or.inl (And.intro (fun _ => ?_) (fun hx => nomatch (rfl).symm.trans hx))
      refine (S_runs w10).mono ?_
      rintro _ w11 ⟨x11, cs11, rfl, hv11⟩
      have hh11 := hh10.ext x11
      have z11 := x11.size
      have hvI : VI w11 (fun k => w10.heap.size ≤ k ∧ k < w11.heap.size) _ (axI sQ tS) := ax_rep sQ hv11 (by decide)
      obtain ⟨kq, nq, sq, lsq, tsq, laq, lcq, taq, tcq, es, rfl, hkq, hnq, hsq, hllq, hltq, hLq, hTq⟩ := hv11.inv
      refine Lands.ret (s := .a [.v (.int .u8 kq), .v (.int .i64 nq), .v (.string sq), .v (.slice laq lsq.length lcq), .v (.slice taq tsq.length tcq)]) rfl rfl hh11 ?_
      refine OpT.buildE (E := encInf) (R := (fun k => w10.heap.size ≤ k ∧ k < w11.heap.size)) (vs := [_]) (l := [axI sQ tS]) Tryz.zeroValue46 (.cons rfl (.nil)) Tryz.underlying22 Tryz.sizeOf46 rfl rfl (Reps.cons hvI (Reps.nil _ _ _)) rfl rfl hh11 fun w12 g12 e12 x12 z12 o12 hh12 => ?_
      have y12 := x10.trans (x11.trans x12)
      have c9 : ∀ k, mine ec mc Ac k → w6.heap.size ≤ k ∧ k < w7.heap.size := fun k hk => hO k ((h2 k).2 hk)
      have hX9 : ∀ k, (rmine g4 Ad9 k ∨ mine e m A8 k) → k < w9.heap.size := fun k hk => hk.elim (fun h => (hD9.lt k h).2) fun h => by have := hm8 k h; omega
      refine vcM (Add_x ec mc Ac _ cc 1 lc [axI sQ tS] w12 (h3.ext y12) (fun k hk => by have := hX9 k hk; omega) o12.sl (fun k hk => ⟨⟨hk.2, fun hx => by have := hX9 k hx; have := hk.1; omega⟩, fun hm => by have := c9 k hm; have := hk.1; omega⟩) (by simp [lenOk]) (by simp) (by simp [axI])) hh12 ⟨fun hm => by have := c9 _ hm; omega, fun hm => by have := c9 _ hm; omega, trivial⟩ fun v13 w13 m13 z13 hh13 p13 => ?_
      refine vsd (by simp only [inKind]; omega) ?_
      have hO9 : ∀ k, O k → ¬ mine e m A8 k ∧ ¬ rmine g4 Ad9 k := fun k hk => by
        have ho := hO k hk
        refine ⟨fun hm => ?_, fun hm => ?_⟩
        · rcases n8 k hm with h | h
          · have := a5 k h; omega
          · omega
        · rcases hm with h | h
          · omega
          · rcases n9 k h with h | h
            · have := d5 k (.inr h); omega
            · omega
      exact Exists.intro ((i + 1, nn, L', Ad9, cd9)) ⟨by simp only; omega, esub_over (by repeat (first | exact trivial | refine And.intro rfl ?_)) (by repeat (first | exact trivial | refine And.intro rfl ?_)), hsub_over (by repeat (first | exact trivial | refine And.intro rfl ?_)) (by repeat (first | exact trivial | refine And.intro rfl ?_)), (y9.trans y12).trans' m13 (fun k hk hs => by have := c9 k hs; omega), hil, hn2, by omega, hLG', A8, c8, (hE9.ext y12).mod m13 (fun k _ hs => .inr ((h2 k).2 hs)) (fun k hk hm => hk.elim (hd9 k hm) fun h => (hO9 k h).1 hm) (fun k _ h => .inl h), (hD9.ext y12).mod m13 (fun k _ hs => .inr ((h2 k).2 hs)) (fun k hk hm => hk.elim (fun h => hd9 k h hm) fun h => (hO9 k h).2 hm) (fun k _ h => .inl h), hd9⟩
  · have hi' : i = ps.length := by have := of_decide_eq_false h; simp only at this; omega
    refine vcV (List_runs e m A c L w5 hE) hh5 fun v6 w6 x6 z6 hh6 p6 => ?_
    obtain ⟨A6, c6, rfl, o6⟩ := p6
    refine Or.inl (And.intro (fun h => absurd h (by simp)) (fun _ => ?_))
    have hfewL := hD.few
    have hR5 : ∀ k, rmine g4 Ad k → k < w5.heap.size := fun k hk => (d5 k hk).2
    refine vLoop_upd (σ := Nat) [6, 17, 18, 19, 130, 131, 132, 133, 134, 135, 136, 137, 138, 139, 140, 141, 142, 143, 144, 145, 146, 147, 148, 149, 150, 151, 152, 153, 154, 155, 156, 157, 158, 159, 160, 161, 162, 163, 164, 165, 166, 167, 168, 169, 170, 171, 172, 173] (fun k => [(17, .v (.int .i64 k))]) [] (fun _ => []) (fun k w' => Ext w6 w' ∧ k ≤ L.length) (fun k => L.length - k) 0 (fun _ => ⟨rfl, rfl⟩)
      ⟨(by repeat (first | exact trivial | refine And.intro rfl ?_)), (by repeat (first | exact trivial | refine And.intro rfl ?_)), (by repeat (first | exact trivial | refine And.intro rfl ?_)), (by repeat (first | exact trivial | refine And.intro rfl ?_)), Ext.refl _, Nat.zero_le _⟩ ?_
    rintro j w7 hh7 ⟨x7, hj⟩
    refine Or.inl (And.intro (fun h => ?_) (fun h => ?_))
    · have hjl : j < L.length := by have := of_decide_eq_true h; omega
      have hjm : j < (L.map (·.name)).length := by rw [List.length_map]; exact hjl
      obtain ⟨a1, cs1, ha1, _, hrow1, hs1⟩ := (o6.sl.ext x7).at hjm
      obtain ⟨rfl, hs1⟩ := hs1
      have hnm : (L.map (·.name))[j] = L[j].name := List.getElem_map _
      have hE7 : EX w7 (rmine g4 Ad) w2.heap.size e m A c L := hE.ext (x6.trans x7)
      have hD7 := hD.ext (x6.trans x7)
      obtain ⟨a2, cs2, ha2, _, hrow2, hv2⟩ := hD7.sl.at hjl
      have hfi := findI_get hLG.nd (List.getElem_mem hjl)
      generalize (L.map (·.name))[j] = sn at *
      subst hnm
      generalize L[j] = X at *
      have hv2 : VI w7 _ cs2 X := hv2
      have hv20 := hv2
      obtain ⟨ctY, cvY, raY, rcY, rfl, htyY, hvlY, hruY, hrlY, hokY⟩ := hv2; obtain ⟨kYt, nYt, sYt, lsYt, tsYt, laYt, lcYt, taYt, tcYt, etyY, rfl, hkYt, hnYt, hsYt, hllYt, hltYt, hLYt, hTYt⟩ := htyY.inv; obtain ⟨kYv, nYv, sYv, lsYv, tsYv, laYv, lcYv, taYv, tcYv, evlY, rfl, hkYv, hnYv, hsYv, hllYv, hltYv, hLYv, hTYv⟩ := hvlY.inv
      refine OpT.indexAddr Tryz.underlying36 Tryz.sizeOf9 rfl rfl ha1 (by first | omega | (simp only [lenOk] at *; omega)) ?_; refine Lands.v hh7 ?_
      refine OpT.load Tryz.isAgg9 rfl (hrow1.cell 0 rfl) ?_; refine Lands.v hh7 ?_
      refine (Find_x e m A c L X.name w7 hE7 (fun k hk => by have := hR5 k hk; have := x6.size; have := x7.size; omega)).mono ?_
      rintro _ w8 ⟨x8, cs8, rfl, hv8⟩
      have hh8 := hh7.ext x8
      have z8 := x8.size
      have hgI : getI L X.name = X := by unfold getI; rw [hfi]; rfl
      rw [hgI] at hv8
      rw [hfi]
      have hv80 := hv8
      obtain ⟨ctZ, cvZ, raZ, rcZ, rfl, htyZ, hvlZ, hruZ, hrlZ, hokZ⟩ := hv8; obtain ⟨kZt, nZt, sZt, lsZt, tsZt, laZt, lcZt, taZt, tcZt, etyZ, rfl, hkZt, hnZt, hsZt, hllZt, hltZt, hLZt, hTZt⟩ := htyZ.inv; obtain ⟨kZv, nZv, sZv, lsZv, tsZv, laZv, lcZv, taZv, tcZv, evlZ, rfl, hkZv, hnZv, hsZv, hllZv, hltZv, hLZv, hTZv⟩ := hvlZ.inv
      refine Lands.ret (s := .t [.a [.v (.int .u8 X.kind), .v (.string X.name), .v (.int .i64 X.params), .v (.int .u8 kZt), .v (.int .i64 nZt), .v (.string sZt), .v (.slice laZt lsZt.length lcZt), .v (.slice taZt tsZt.length tcZt), .v (.int .u8 kZv), .v (.int .i64 nZv), .v (.string sZv), .v (.slice laZv lsZv.length lcZv), .v (.slice taZv tsZv.length tcZv), .v (.int .i64 X.height), .v (.string X.block), .v (.string X.of_), .v (.int .i64 X.fixed), .v (.int .i64 X.index), .v (.int .i64 X.no), .v (.int .i64 X.fields), .v (.int .i64 X.motives), .v (.int .i64 X.minors), .v (.slice raZ X.rules.length rcZ), .v (.int .i64 X.ctors), .v (.bool X.record)], .v (.bool true)]) rfl rfl hh8 ?_
      intro g9 w9 e9 x9 z9 hh9; intro w10 m10 z10 hh10; replace m10 : Upd g9 w9 w10 := m10; have x10 : Ext w8 w10 := x9.upd m10 (by omega); have q10 := x10.size
      have y10 := x8.trans x10
      refine vDrw_mk [26] (.one 0 (.one 1 (.one 2 (.one 3 (.one 4 (.one 5 (.one 6 (.one 7 (.one 8 (.one 9 (.one 10 (.one 11 (.one 12 (.one 13 (.one 14 (.one 15 (.one 16 (.one 17 (.one 18 (.one 19 (.one 20 (.one 21 (.one 22 (.one 23 (.one 24 (.one 25 (.one 26 (.one 27 (.one 28 .nil))))))))))))))))))))))))))))) rfl fun w11 x11 hh11 => ?_
      have r1 := hrow1.ext (y10.trans x11)
      have r2 := hrow2.ext (y10.trans x11)
      refine Exists.intro (.v (.pointer (some (a1.add (j * 1))))) (And.intro rfl (And.intro (fun w' xx hh => OpT.indexAddr Tryz.underlying36 Tryz.sizeOf9 rfl rfl ha1 (by simp only [lenOk] at *; omega) ⟨rfl, rfl⟩) ?_))
      refine Exists.intro (.v (.string X.name)) (And.intro rfl (And.intro (fun w' xx hh => OpT.load Tryz.isAgg9 rfl ((r1.ext xx).cell 0 rfl) ⟨rfl, rfl⟩) ?_))
      refine Exists.intro (.v (.pointer (some (a2.add (j * 25))))) (And.intro rfl (And.intro (fun w' xx hh => OpT.indexAddr Tryz.underlying22 Tryz.sizeOf46 rfl rfl ha2 (by simp only [lenOk] at *; omega) ⟨rfl, rfl⟩) ?_))
      refine Exists.intro (.v (.string X.name)) (And.intro rfl (And.intro (fun w' xx hh => OpT.load Tryz.isAgg9 rfl ((r2.ext xx).cell 1 rfl) ⟨rfl, rfl⟩) ?_))
      refine Exists.intro (.v (.pointer (some (a2.add (j * 25))))) (And.intro rfl (And.intro (fun w' xx hh _ => OpT.indexAddr Tryz.underlying22 Tryz.sizeOf46 rfl rfl ha2 (by simp only [lenOk] at *; omega) ⟨rfl, rfl⟩) ?_))
      refine Exists.intro (.a [.v (.int .u8 X.kind), .v (.string X.name), .v (.int .i64 X.params), .v (.int .u8 kYt), .v (.int .i64 nYt), .v (.string sYt), .v (.slice laYt lsYt.length lcYt), .v (.slice taYt tsYt.length tcYt), .v (.int .u8 kYv), .v (.int .i64 nYv), .v (.string sYv), .v (.slice laYv lsYv.length lcYv), .v (.slice taYv tsYv.length tcYv), .v (.int .i64 X.height), .v (.string X.block), .v (.string X.of_), .v (.int .i64 X.fixed), .v (.int .i64 X.index), .v (.int .i64 X.no), .v (.int .i64 X.fields), .v (.int .i64 X.motives), .v (.int .i64 X.minors), .v (.slice raY X.rules.length rcY), .v (.int .i64 X.ctors), .v (.bool X.record)]) (And.intro rfl (And.intro (fun w' xx hh _ => OpT.loadA Tryz.isAgg46 (by exact Tryz.sizeOf46) rfl (r2.ext xx) ⟨rfl, rfl⟩) ?_))
      refine Or.inl (Exists.intro (.bool true) (And.intro (fun _ => (rSameI_runs _ _ X X w11 (encInf.ext hv80 (x10.trans x11)) (encInf.ext hv20 (y10.trans x11))).mono fun u w' hu => ⟨by rw [hu.1, infB_refl], hu.2⟩) (fun w12 x12 hh12 => ?_)))
      refine Or.inl (And.intro (fun h => absurd h (by simp [sel])) (fun _ => ?_))
      refine vsd (by simp only [inKind]; omega) ?_
      exact Exists.intro (j + 1) ⟨by omega, esub_over (by repeat (first | exact trivial | refine And.intro rfl ?_)) (by repeat (first | exact trivial | refine And.intro rfl ?_)), hsub_over (by repeat (first | exact trivial | refine And.intro rfl ?_)) (by repeat (first | exact trivial | refine And.intro rfl ?_)), x7.trans (y10.trans (x11.trans x12)), hjl⟩
    · have hvt : VT w7 R _ t := hv0.ext (y5.trans (x6.trans x7))
      have y7 := y5.trans (x6.trans x7)
      have q7 := y7.size
      have hg7 : g4 < w7.heap.size ∧ g0 < w7.heap.size := by have := x6.size; have := x7.size; omega
      have htls : T.ls' t = ls := by rw [et]; rfl
      refine OpT.buildE (E := encT) (R := R) (vs := [_]) (l := [t]) Tryz.zeroValue27 (.cons rfl (.nil)) Tryz.underlying25 Tryz.sizeOf27 rfl rfl (Reps.cons hvt (Reps.nil _ _ _)) rfl rfl hh7 fun w8 g8 e8 x8 z8 o8 hh8 => ?_
      refine vLoop_upd (σ := Nat × Option Addr × Nat) [20, 21, 176, 177, 178, 179, 180, 181, 182, 183, 184, 185, 186, 187, 188, 189, 190, 191, 192] (fun s => [(21, .v (.int .i64 s.1)), (20, .v (.slice s.2.1 (allT t (l.take s.1)).length s.2.2))]) [] (fun _ => [])
        (fun s w' => Ext w7 w' ∧ w8.heap.size ≤ w'.heap.size ∧ s.1 ≤ l.length ∧ OwnE encT w' w7.heap.size 27 R s.2.1 s.2.2 (allT t (l.take s.1))) (fun s => l.length - s.1) (0, some ⟨g8, 0, none⟩, 1) (fun _ => ⟨rfl, rfl⟩)
        ⟨(by repeat (first | exact trivial | refine And.intro rfl ?_)), (by repeat (first | exact trivial | refine And.intro rfl ?_)), (by repeat (first | exact trivial | refine And.intro rfl ?_)), (by repeat (first | exact trivial | refine And.intro rfl ?_)), x8, Nat.le_refl _, Nat.zero_le _, o8⟩ ?_
      rintro ⟨i9, A9, c9⟩ w9 hh9 ⟨x9, q9, hi9, o9⟩
      simp only at hi9 o9
      refine Or.inl (And.intro (fun h => ?_) (fun h => ?_))
      · have hil : i9 < l.length := by have := of_decide_eq_true h; simp only at this; omega
        obtain ⟨a1, cs1, ha1, hRa1, hrow1, hv1⟩ := (hl.ext (y7.trans x9)).at hil
        have htk : l.take (i9 + 1) = l.take i9 ++ [l[i9]] := take_snoc _ _ hil
        have hal : allT t (l.take i9) ++ [conT t l[i9].name] = allT t (l.take (i9 + 1)) := by rw [htk]; unfold allT; rw [List.map_append, List.append_assoc]; rfl
        generalize l[i9] = X at *
        have hv1 : VI w9 R cs1 X := hv1
        obtain ⟨ctY, cvY, raY, rcY, rfl, htyY, hvlY, hruY, hrlY, hokY⟩ := hv1; obtain ⟨kYt, nYt, sYt, lsYt, tsYt, laYt, lcYt, taYt, tcYt, etyY, rfl, hkYt, hnYt, hsYt, hllYt, hltYt, hLYt, hTYt⟩ := htyY.inv; obtain ⟨kYv, nYv, sYv, lsYv, tsYv, laYv, lcYv, taYv, tcYv, evlY, rfl, hkYv, hnYv, hsYv, hllYv, hltYv, hLYv, hTYv⟩ := hvlY.inv
        have hA9 := o9.lt
        have hR9 := hR _ hRa1
        have q79 := x9.size
        have hr9 : ¬ (ownOf A9 (a1.add (i9 * 25)).block ∨ w9.heap.size ≤ (a1.add (i9 * 25)).block) := by
          rw [block_add]
          rintro (h | h)
          · have := hA9 _ h; omega
          · omega
        have hHS : outR (fun k => ownOf A9 k ∨ w9.heap.size ≤ k) [g0, g4] := ⟨fun h => h.elim (fun h => by have := hA9 _ h; omega) (by omega), fun h => h.elim (fun h => by have := hA9 _ h; omega) (by omega), trivial⟩
        refine vDrwM_mk (fun k => ownOf A9 k ∨ w9.heap.size ≤ k) (outR.get hHS) [9, 10] (.one 0 (.one 1 (.one 2 (.one 3 (.one 4 (.one 5 (.one 6 (.one 7 (.one 8 (.one 9 (.one 10 (.one 11 .nil)))))))))))) rfl fun w10 x10 q10 hh10 => ?_
        refine Exists.intro (.v (.pointer (some (a1.add (i9 * 25))))) (And.intro rfl (And.intro (fun w' xx hh => OpT.indexAddr Tryz.underlying22 Tryz.sizeOf46 rfl rfl ha1 (by simp only [lenOk] at *; omega) ⟨rfl, rfl⟩) ?_))
        refine Exists.intro (.v (.string X.name)) (And.intro rfl (And.intro (fun w' xx hh => OpT.load Tryz.isAgg9 rfl (((hrow1.ext x10).mod xx hr9).cell 1 rfl) ⟨rfl, rfl⟩) ?_))
        have hcon : VT w10 R [.int .u8 3, .int .i64 0, .string X.name, .slice la ls.length lc, .slice none 0 0] (conT t X.name) := by
          unfold conT; rw [htls]
          exact VT.intro (by omega) (by simp [i64ok]) hokY.2.1 hll (by simp [lenOk]) (SlL.ext hL (y7.trans (x9.trans x10))) (SlT.nil _ _ _)
        refine OpT.buildE (E := encT) (R := R) (vs := [_]) (l := [conT t X.name]) Tryz.zeroValue27 (.cons rfl (.nil)) Tryz.underlying25 Tryz.sizeOf27 rfl rfl (Reps.cons hcon (Reps.nil _ _ _)) rfl rfl hh10 fun w11 g11 e11 x11 z11 o11 hh11 => ?_
        refine And.intro (x11.mono fun _ h => h.elim) ?_
        have hlen9 : (allT t (l.take (i9 + 1))).length ≤ 100 := by rw [allT_len, List.length_take]; omega
        have y11 := x10.trans x11
        have q11 := y11.size
        refine OpT.appendG (E := encT) (l3 := allT t (l.take (i9 + 1))) elT Tryz.underlying25 Tryz.underlying25 rfl rfl rfl rfl hal (n' := (allT t (l.take (i9 + 1))).length) rfl (o9.ext y11) o11.sl (fun k hk hks => ⟨?_, fun ho => ?_⟩) (by omega) (fun k hk _ ho => ?_) hh11 (outR.get (S := ownOf A9) ⟨fun h => hHS.1 (.inl h), fun h => hHS.2.1 (.inl h), trivial⟩) (by omega) fun w12 A12 c12 m12 z12 o12 f12 hh12 => ?_
        · rcases hk.1 with h | h
          · exact .inl h
          · exact .inr (by omega)
        · have := hA9 k ho
          rcases hk.1 with h | h
          · have := hR k h; omega
          · omega
        · have := hA9 k ho; have := hR k hk; omega
        refine vsd (by simp only [inKind]; omega) ?_
        exact Exists.intro ((i9 + 1, A12, c12)) ⟨by simp only; omega, esub_over (by repeat (first | exact trivial | refine And.intro rfl ?_)) (by repeat (first | exact trivial | refine And.intro rfl ?_)), hsub_over (by repeat (first | exact trivial | refine And.intro rfl ?_)) (by repeat (first | exact trivial | refine And.intro rfl ?_)), (x9.trans y11).trans' m12 (fun k hk hs => by have := hA9 k hs; omega), by omega, hil, o12⟩
      · obtain rfl : i9 = l.length := by have := of_decide_eq_false h; simp only at this; omega
        rw [List.take_length] at o9 ⊢
        have q79 := x9.size
        have y9 := y7.trans x9
        have hE9 : EX w9 (rmine g4 Ad) w2.heap.size e m A c L := hE.ext (x6.trans (x7.trans x9))
        have hD9 := hD.ext (x6.trans (x7.trans x9))
        have hall := allT_len t l
        generalize allT t l = al at *
        refine vLoop_upd (σ := Nat) [6, 22, 23, 24, 25, 26, 27, 28, 29, 30, 193, 194, 195, 196, 197, 198, 199, 200, 201, 202, 203, 204, 205, 206, 207, 208, 209, 210, 211, 212, 213, 214, 215, 216, 217, 218, 219, 220, 221, 222, 223, 224, 225, 226, 227, 228, 229, 230, 231, 232, 233, 234, 235, 236, 237, 238, 239, 240, 241, 242, 243, 244, 245, 246, 247, 248, 249, 250, 251, 252, 253, 254] (fun k => [(22, .v (.int .i64 k))]) [] (fun _ => []) (fun k w' => Ext w9 w' ∧ k ≤ al.length) (fun k => al.length - k) 0 (fun _ => ⟨rfl, rfl⟩)
          ⟨(by repeat (first | exact trivial | refine And.intro rfl ?_)), (by repeat (first | exact trivial | refine And.intro rfl ?_)), (by repeat (first | exact trivial | refine And.intro rfl ?_)), (by repeat (first | exact trivial | refine And.intro rfl ?_)), Ext.refl _, Nat.zero_le _⟩ ?_
        rintro j w10 hh10 ⟨x10, hj⟩
        have q10 := x10.size
        refine Or.inl (And.intro (fun h => ?_) (fun h => ?_))
        · have hjl : j < al.length := by have := of_decide_eq_true h; omega
          obtain ⟨a1, cs1, ha1, _, hrow1, hv1⟩ := (o9.sl.ext x10).at hjl
          generalize al[j] = u at *
          have hv1 : VT w10 _ cs1 u := hv1
          have hv10 := hv1
          obtain ⟨ku, nu, su, lsu, tsu, lau, lcu, tau, tcu, eu, rfl, hku, hnu, hsu, hllu, hltu, hLu, hTu⟩ := hv1.inv
          have hE10 : EX w10 (rmine g4 Ad) w2.heap.size e m A c L := hE9.ext x10
          have hD10 := hD9.ext x10
          have hRu : ∀ k, (R k ∨ w7.heap.size ≤ k) ∧ k < w9.heap.size → k < w10.heap.size := fun k hk => by omega
          -- Type of the one
          refine OpT.indexAddr Tryz.underlying25 Tryz.sizeOf27 rfl rfl ha1 (by first | omega | (simp only [lenOk] at *; omega)) ?_; refine Lands.v hh10 ?_
          refine OpT.loadA Tryz.isAgg27 (by exact Tryz.sizeOf27) rfl hrow1 ?_; refine Lands.ret (s := .a [.v (.int .u8 ku), .v (.int .i64 nu), .v (.string su), .v (.slice lau lsu.length lcu), .v (.slice tau tsu.length tcu)]) rfl rfl hh10 ?_
          refine (Type_runs e m A c L u _ w10 hE10 hv10 hRu).mono ?_
          rintro _ w11 ⟨x11, cs11, rfl, hv11⟩
          have hh11 := hh10.ext x11
          have z11 := x11.size
          have hv110 := hv11
          obtain ⟨kp, np, sp, lsp, tsp, lap, lcp, tap, tcp, ep, rfl, hkp, hnp, hsp, hllp, hltp, hLp, hTp⟩ := hv11.inv
          refine Lands.ret (s := .t [.a [.v (.int .u8 kp), .v (.int .i64 np), .v (.string sp), .v (.slice lap lsp.length lcp), .v (.slice tap tsp.length tcp)], .v (.int .i64 (typE L u))]) rfl rfl hh11 ?_
          intro g12 w12 e12 x12 z12 hh12; intro w13 m13 z13 hh13; replace m13 : Upd g12 w12 w13 := m13; have x13 : Ext w11 w13 := x12.upd m13 (by omega); have q13 := x13.size
          have y13 := x11.trans x13
          -- Type of the other
          refine OpT.indexAddr Tryz.underlying25 Tryz.sizeOf27 rfl rfl ha1 (by first | omega | (simp only [lenOk] at *; omega)) ?_; refine Lands.v hh13 ?_
          refine OpT.loadA Tryz.isAgg27 (by exact Tryz.sizeOf27) rfl (hrow1.ext y13) ?_; refine Lands.ret (s := .a [.v (.int .u8 ku), .v (.int .i64 nu), .v (.string su), .v (.slice lau lsu.length lcu), .v (.slice tau tsu.length tcu)]) rfl rfl hh13 ?_
          refine (rType_runs g4 Ad cd L u _ w13 (hD10.ext y13).box (hD10.ext y13).sl (fun k hk => hk) (by omega) hLG.cl (hv10.ext y13) (fun k hk => by have := hRu k hk; have := y13.size; omega)).mono ?_
          rintro _ w14 ⟨x14, cs14, rfl, hv14⟩
          have hh14 := hh13.ext x14
          have z14 := x14.size
          have hv140 := hv14
          obtain ⟨kq, nq, sq, lsq, tsq, laq, lcq, taq, tcq, eq, rfl, hkq, hnq, hsq, hllq, hltq, hLq, hTq⟩ := hv14.inv
          refine Lands.ret (s := .t [.a [.v (.int .u8 kq), .v (.int .i64 nq), .v (.string sq), .v (.slice laq lsq.length lcq), .v (.slice taq tsq.length tcq)], .v (.int .i64 (typE L u))]) rfl rfl hh14 ?_
          intro g15 w15 e15 x15 z15 hh15; intro w16 m16 z16 hh16; replace m16 : Upd g15 w15 w16 := m16; have x16 : Ext w14 w16 := x15.upd m16 (by omega); have q16 := x16.size
          have y16 := y13.trans (x14.trans x16)
          -- Value of the one
          refine OpT.indexAddr Tryz.underlying25 Tryz.sizeOf27 rfl rfl ha1 (by first | omega | (simp only [lenOk] at *; omega)) ?_; refine Lands.v hh16 ?_
          refine OpT.loadA Tryz.isAgg27 (by exact Tryz.sizeOf27) rfl (hrow1.ext y16) ?_; refine Lands.ret (s := .a [.v (.int .u8 ku), .v (.int .i64 nu), .v (.string su), .v (.slice lau lsu.length lcu), .v (.slice tau tsu.length tcu)]) rfl rfl hh16 ?_
          refine (Value_runs e m A c L u _ w16 (EX.ext hE10 y16) (hv10.ext y16) (fun k hk => by have := hRu k hk; have := y16.size; omega)).mono ?_
          rintro _ w17 ⟨x17, cs17, rfl, hv17⟩
          have hh17 := hh16.ext x17
          have z17 := x17.size
          have hv170 := hv17
          obtain ⟨kr, nr, sr, lsr, tsr, lar, lcr, tar, tcr, er, rfl, hkr, hnr, hsr, hllr, hltr, hLr, hTr⟩ := hv17.inv
          refine Lands.ret (s := .t [.a [.v (.int .u8 kr), .v (.int .i64 nr), .v (.string sr), .v (.slice lar lsr.length lcr), .v (.slice tar tsr.length tcr)], .v (.int .i64 (valE L u))]) rfl rfl hh17 ?_
          intro g18 w18 e18 x18 z18 hh18; intro w19 m19 z19 hh19; replace m19 : Upd g18 w18 w19 := m19; have x19 : Ext w17 w19 := x18.upd m19 (by omega); have q19 := x19.size
          have y19 := y16.trans (x17.trans x19)
          refine OpT.indexAddr Tryz.underlying25 Tryz.sizeOf27 rfl rfl ha1 (by first | omega | (simp only [lenOk] at *; omega)) ?_; refine Lands.v hh19 ?_
          refine OpT.loadA Tryz.isAgg27 (by exact Tryz.sizeOf27) rfl (hrow1.ext y19) ?_; refine Lands.ret (s := .a [.v (.int .u8 ku), .v (.int .i64 nu), .v (.string su), .v (.slice lau lsu.length lcu), .v (.slice tau tsu.length tcu)]) rfl rfl hh19 ?_
          refine (rValue_runs g4 Ad cd L u _ w19 (hD10.ext y19).box (hD10.ext y19).sl (fun k hk => hk) (by omega) hLG.cl (hv10.ext y19) (fun k hk => by have := hRu k hk; have := y19.size; omega)).mono ?_
          rintro _ w20 ⟨x20, cs20, rfl, hv20⟩
          have hh20 := hh19.ext x20
          have z20 := x20.size
          have hv200 := hv20
          obtain ⟨ks, ns, ss, lss, tss, las, lcs, tas, tcs, es', rfl, hks, hns, hss, hlls, hlts, hLs, hTs⟩ := hv20.inv
          refine Lands.ret (s := .t [.a [.v (.int .u8 ks), .v (.int .i64 ns), .v (.string ss), .v (.slice las lss.length lcs), .v (.slice tas tss.length tcs)], .v (.int .i64 (valE L u))]) rfl rfl hh20 ?_
          intro g21 w21 e21 x21 z21 hh21; intro w22 m22 z22 hh22; replace m22 : Upd g21 w21 w22 := m22; have x22 : Ext w20 w22 := x21.upd m22 (by omega); have q22 := x22.size
          have y22 := y19.trans (x20.trans x22)
          refine vcZ ((rSame_runs (typT L u) (typT L u) _ _ w22 _ _ (hv110.ext (x13.trans (x14.trans (x16.trans (x17.trans (x19.trans (x20.trans x22))))))) (hv140.ext (x16.trans (x17.trans (x19.trans (x20.trans x22)))))).mono fun v w' hu => ⟨by rw [hu.1, sameB_refl], hu.2⟩) (v := .bool true) hh22 fun w23 x23 z23 hh23 => ?_
          refine Or.inl (Exists.intro (.bool true) (And.intro (fun _ => (rSame_runs (valT L u) (valT L u) _ _ w23 _ _ (hv170.ext (x19.trans (x20.trans (x22.trans x23)))) (hv200.ext (x22.trans x23))).mono fun v w' hu => ⟨by rw [hu.1, sameB_refl], hu.2⟩) (fun w24 x24 hh24 => ?_)))
          refine Or.inl (And.intro (fun h => absurd h (by simp [sel])) (fun _ => ?_))
          refine vsd (by simp only [inKind]; omega) ?_
          exact Exists.intro (j + 1) ⟨by omega, esub_over (by repeat (first | exact trivial | refine And.intro rfl ?_)) (by repeat (first | exact trivial | refine And.intro rfl ?_)), hsub_over (by repeat (first | exact trivial | refine And.intro rfl ?_)) (by repeat (first | exact trivial | refine And.intro rfl ?_)), x10.trans (y22.trans (x23.trans x24)), hjl⟩
        · have hE10 : EX w10 (rmine g4 Ad) w2.heap.size e m A c L := hE9.ext x10
          have hD10 := hD9.ext x10
          have y10 := y9.trans x10
          refine (Find_x e m A c L noS w10 hE10 (fun k hk => by have := hR5 k hk; have := x6.size; have := x7.size; omega)).mono ?_
          rintro _ w11 ⟨x11, cs11, rfl, hv11⟩
          have hh11 := hh10.ext x11
          have z11 := x11.size
          have hfn : findI L noS = none := findI_none.2 fun x hx hxn => by
            have := hLG.nm x hx
            rw [hxn] at this
            exact absurd this (by decide +kernel)
          rw [hfn]
          generalize getI L noS = X at hv11
          obtain ⟨ctZ, cvZ, raZ, rcZ, rfl, htyZ, hvlZ, hruZ, hrlZ, hokZ⟩ := hv11; obtain ⟨kZt, nZt, sZt, lsZt, tsZt, laZt, lcZt, taZt, tcZt, etyZ, rfl, hkZt, hnZt, hsZt, hllZt, hltZt, hLZt, hTZt⟩ := htyZ.inv; obtain ⟨kZv, nZv, sZv, lsZv, tsZv, laZv, lcZv, taZv, tcZv, evlZ, rfl, hkZv, hnZv, hsZv, hllZv, hltZv, hLZv, hTZv⟩ := hvlZ.inv
          refine Lands.ret (s := .t [.a [.v (.int .u8 X.kind), .v (.string X.name), .v (.int .i64 X.params), .v (.int .u8 kZt), .v (.int .i64 nZt), .v (.string sZt), .v (.slice laZt lsZt.length lcZt), .v (.slice taZt tsZt.length tcZt), .v (.int .u8 kZv), .v (.int .i64 nZv), .v (.string sZv), .v (.slice laZv lsZv.length lcZv), .v (.slice taZv tsZv.length tcZv), .v (.int .i64 X.height), .v (.string X.block), .v (.string X.of_), .v (.int .i64 X.fixed), .v (.int .i64 X.index), .v (.int .i64 X.no), .v (.int .i64 X.fields), .v (.int .i64 X.motives), .v (.int .i64 X.minors), .v (.slice raZ X.rules.length rcZ), .v (.int .i64 X.ctors), .v (.bool X.record)], .v (.bool false)]) rfl rfl hh11 ?_
          intro g12 w12 e12 x12 z12 hh12; intro w13 m13 z13 hh13; replace m13 : Upd g12 w12 w13 := m13; have x13 : Ext w11 w13 := x12.upd m13 (by omega); have q13 := x13.size
          have y13 := x11.trans x13
          have hm13 := rMay_runs t _ w13 R (hv0.ext (y10.trans y13))
          cases hmt : mayT t with
          | true =>
            rw [hmt] at hm13
            refine vcZ hm13 hh13 fun w14 x14 z14 hh14 => ?_
            refine vDrw_mk [7, 10, 19, 25] (.one 0 (.one 1 (.one 2 (.one 3 (.one 4 (.one 5 (.one 6 (.one 8 (.one 9 (.one 7 (.one 10 (.one 11 (.one 12 (.one 13 (.one 14 (.one 15 (.one 16 (.one 17 (.one 18 (.one 19 (.one 20 (.one 21 (.one 22 (.one 23 (.one 24 (.one 25 (.one 26 (.one 27 .nil)))))))))))))))))))))))))))) rfl fun w15 x15 hh15 => ?_
            have y15 := y13.trans (x14.trans x15)
            refine vyes rfl ?_
            refine vcZ (Height_runs e m A c L t _ w15 (EX.ext hE10 y15) (hv0.ext (y10.trans y15))) hh15 fun w16 x16 z16 hh16 => ?_
            refine And.intro x16 ?_
            refine vyes rfl ?_
            refine vcZ (rHeight_runs g4 Ad cd L t _ w16 (hD10.ext (y15.trans x16)).box (hD10.ext (y15.trans x16)).sl (by omega) hD10.hts (hv0.ext (y10.trans (y15.trans x16))) hmt) hh16 fun w17 x17 z17 hh17 => ?_
            refine Or.inl (Exists.intro (.int .i64 (heightB L t)) (And.intro (fun _ _ _ => Height_runs e m A c L t _ w17 (EX.ext hE10 (y15.trans (x16.trans x17))) (hv0.ext (y10.trans (y15.trans (x16.trans x17))))) (fun w18 x18 hh18 => ?_)))
            refine vyes (by simp [sel]; rfl) ?_
            refine vcZ (works_runs w18) hh18 fun w19 x19 z19 hh19 => ?_
            exact ⟨congrArg Value.bool (by simp [sel]), y10.trans (y15.trans (x16.trans (x17.trans (x18.trans x19))))⟩
          | false =>
            rw [hmt] at hm13
            have hh0 : heightB L t = 0 := by
              have : nms t = [] := by unfold nms nmsT; rw [hmt]; rfl
              unfold heightB; rw [this]; rfl
            refine vcZ hm13 hh13 fun w14 x14 z14 hh14 => ?_
            refine vDrw_mk [7, 10, 19, 25] (.one 0 (.one 1 (.one 2 (.one 3 (.one 4 (.one 5 (.one 6 (.one 8 (.one 9 (.one 7 (.one 10 (.one 11 (.one 12 (.one 13 (.one 14 (.one 15 (.one 16 (.one 17 (.one 18 (.one 19 (.one 20 (.one 21 (.one 22 (.one 23 (.one 24 (.one 25 (.one 26 (.one 27 .nil)))))))))))))))))))))))))))) rfl fun w15 x15 hh15 => ?_
            have y15 := y13.trans (x14.trans x15)
            refine Or.inl (Exists.intro (.int .i64 (heightB L t)) (And.intro (fun _ _ => Height_runs e m A c L t _ w15 (EX.ext hE10 y15) (hv0.ext (y10.trans y15))) (fun w16 x16 hh16 => ?_)))
            refine And.intro x16 ?_
            refine Or.inl (Exists.intro (.int .i64 (heightB L t)) (And.intro (fun h1 h2 => ?_) (fun w17 x17 hh17 => ?_)))
            · exact absurd h2 (by decide)
            rw [hh0]
            refine vyes rfl ?_
            refine vcZ (Height_runs e m A c L t _ w17 (EX.ext hE10 (y15.trans (x16.trans x17))) (hv0.ext (y10.trans (y15.trans (x16.trans x17))))) hh17 fun w18 x18 z18 hh18 => ?_
            rw [hh0]
            refine vyes (by simp [sel]; rfl) ?_
            refine vcZ (works_runs w18) hh18 fun w19 x19 z19 hh19 => ?_
            exact ⟨congrArg Value.bool (by simp [sel]), y10.trans (y15.trans (x16.trans (x17.trans (x18.trans x19))))⟩
end Go.Proofs.YtnoghkpofpaeeaaGreat

