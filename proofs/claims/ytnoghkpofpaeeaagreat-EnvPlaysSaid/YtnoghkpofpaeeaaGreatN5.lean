/-
  Plain laws of names: sorted, each once.
-/
import Derived.Test.YtnoghkpofpaeeaaGreatN4
namespace Go.Proofs.YtnoghkpofpaeeaaGreat
open Go Go.RowKit Go.Proofs.Bw
set_option linter.unusedVariables false
set_option linter.unusedSimpArgs false

theorem bl_trans {x y z : List UInt8} (h1 : x ≤ y) (h2 : y ≤ z) : x ≤ z := List.le_trans h1 h2
theorem bl_lt_of_ne {x y : List UInt8} (h1 : x ≤ y) (h2 : x ≠ y) : x < y := by
  by_cases h : x < y
  · exact h
  · exact absurd (List.le_antisymm h1 (List.not_lt.1 h)) h2
theorem srt_sorted (l : List (List UInt8)) : (srt l).Pairwise (· ≤ ·) := by
  have := List.pairwise_mergeSort (le := fun x y : List UInt8 => decide (x ≤ y)) (fun a b c h1 h2 => by simp only [decide_eq_true_eq] at *; exact bl_trans h1 h2) (fun a b => by simp only [Bool.or_eq_true, decide_eq_true_eq]; exact List.le_total a b) l
  exact this.imp fun h => of_decide_eq_true h
theorem srt_mem (l : List (List UInt8)) (x : List UInt8) : x ∈ srt l ↔ x ∈ l := (List.mergeSort_perm l _).mem_iff
theorem get_bang (zs : List (List UInt8)) (j : Nat) (h : j < zs.length) : zs.toArray[j]! = zs[j] := by
  rw [getElem!_pos _ j (by simpa using h)]; simp
theorem compact_law (zs : List (List UInt8)) (hs : zs.Pairwise (· ≤ ·)) : ∀ m, m ≤ zs.length → (Lib.compactUpTo zs.toArray m).Pairwise (· < ·) ∧ ∀ x, x ∈ Lib.compactUpTo zs.toArray m ↔ x ∈ zs.take m := by
  intro m
  induction m with
  | zero => intro _; simp [Lib.compactUpTo]
  | succ m ih =>
    intro hm
    obtain ⟨h1, h2⟩ := ih (by omega)
    have hlt : m < zs.length := by omega
    rw [Lib.compactUpTo_succ, take_snoc zs m hlt, get_bang zs m hlt]
    cases hk : Lib.keeps zs.toArray m with
    | true =>
      simp only [if_true]
      refine ⟨List.pairwise_append.2 ⟨h1, List.pairwise_singleton _ _, fun a ha b hb => ?_⟩, fun x => by rw [List.mem_append, List.mem_append, h2]⟩
      rw [List.mem_singleton] at hb
      subst hb
      rw [h2] at ha
      obtain ⟨j, hj, rfl⟩ := List.mem_iff_getElem.1 ha
      rw [List.length_take] at hj
      rw [List.getElem_take]
      have hle := List.pairwise_iff_getElem.1 hs
      have e1 : zs[j] ≤ zs[m - 1] := by
        by_cases h3 : j = m - 1
        · subst h3; exact List.le_refl _
        · exact hle j (m - 1) (by omega) (by omega) (by omega)
      have e2 : zs[m - 1] ≤ zs[m] := hle (m - 1) m (by omega) (by omega) (by omega)
      have e3 : zs[m - 1] ≠ zs[m] := by
        intro e
        have : Lib.keeps zs.toArray m = false := Lib.keeps_neg (by omega) (by rw [get_bang zs m hlt, get_bang zs (m - 1) (by omega), e])
        rw [this] at hk; cases hk
      by_cases e4 : zs[j] < zs[m]
      · exact e4
      · exfalso
        have e5 := List.not_lt.1 e4
        exact e3 (List.le_antisymm e2 (bl_trans e5 e1))
    | false =>
      simp only [Bool.false_eq_true, if_false, List.append_nil]
      refine ⟨h1, fun x => ?_⟩
      rw [h2, List.mem_append, List.mem_singleton]
      constructor
      · exact .inl
      · rintro (h | rfl)
        · exact h
        · have hm0 : 0 < m := by
            rcases Nat.eq_zero_or_pos m with h0 | h0
            · subst h0; simp [Lib.keeps] at hk
            · exact h0
          have e : zs[m] = zs[m - 1] := by
            by_cases hne : zs[m] = zs[m - 1]
            · exact hne
            · have : Lib.keeps zs.toArray m = true := Lib.keeps_pos (by rw [get_bang zs m hlt, get_bang zs (m - 1) (by omega)]; exact hne)
              rw [this] at hk; cases hk
          rw [e]
          exact List.mem_iff_getElem.2 ⟨m - 1, by rw [List.length_take]; omega, by rw [List.getElem_take]⟩
def cs (l : List (List UInt8)) : List (List UInt8) := Lib.compact (srt l)
theorem cs_law (l : List (List UInt8)) : (cs l).Pairwise (· < ·) ∧ ∀ x, x ∈ cs l ↔ x ∈ l := by
  have h := compact_law (srt l) (srt_sorted l) (srt l).length (Nat.le_refl _)
  rw [List.take_length] at h
  exact ⟨h.1, fun x => by rw [← srt_mem l x]; exact h.2 x⟩
theorem lt_nodup {l : List (List UInt8)} (h : l.Pairwise (· < ·)) : l.Nodup := h.imp fun h e => by subst e; exact List.lt_irrefl _ h
theorem nodup_le : ∀ (l l' : List (List UInt8)), l.Nodup → (∀ x ∈ l, x ∈ l') → l.length ≤ l'.length
  | [], _, _, _ => Nat.zero_le _
  | a :: r, l', hn, hm => by
    obtain ⟨h1, h2⟩ := List.nodup_cons.1 hn
    have ha := hm a List.mem_cons_self
    have := nodup_le r (l'.erase a) h2 fun x hx => (List.mem_erase_of_ne fun e => by subst e; exact h1 hx).2 (hm x (List.mem_cons_of_mem _ hx))
    rw [List.length_erase_of_mem ha] at this
    have := List.length_pos_of_mem ha
    simp only [List.length_cons]; omega
theorem sorted_ext : ∀ (l l' : List (List UInt8)), l.Pairwise (· < ·) → l'.Pairwise (· < ·) → (∀ x, x ∈ l ↔ x ∈ l') → l = l'
  | [], [], _, _, _ => rfl
  | [], b :: r, _, _, h => by have := (h b).2 List.mem_cons_self; cases this
  | a :: r, [], _, _, h => by have := (h a).1 List.mem_cons_self; cases this
  | a :: r, b :: r', h1, h2, h => by
    obtain ⟨p1, q1⟩ := List.pairwise_cons.1 h1
    obtain ⟨p2, q2⟩ := List.pairwise_cons.1 h2
    have e : a = b := by
      rcases List.mem_cons.1 ((h a).1 List.mem_cons_self) with e | ha
      · exact e
      · rcases List.mem_cons.1 ((h b).2 List.mem_cons_self) with e | hb
        · exact e.symm
        · exact absurd (List.lt_trans (p1 b hb) (p2 a ha)) (List.lt_irrefl _)
    subst e
    congr 1
    refine sorted_ext r r' q1 q2 fun x => ⟨fun hx => ?_, fun hx => ?_⟩
    · rcases List.mem_cons.1 ((h x).1 (List.mem_cons_of_mem _ hx)) with e | hx'
      · subst e; exact absurd (p1 x hx) (List.lt_irrefl _)
      · exact hx'
    · rcases List.mem_cons.1 ((h x).2 (List.mem_cons_of_mem _ hx)) with e | hx'
      · subst e; exact absurd (p2 x hx) (List.lt_irrefl _)
      · exact hx'
theorem cs_ext {l l' : List (List UInt8)} (h : ∀ x, x ∈ l ↔ x ∈ l') : cs l = cs l' :=
  sorted_ext _ _ (cs_law l).1 (cs_law l').1 fun x => by rw [(cs_law l).2, (cs_law l').2, h]
/-- how many of some are one; how many pairs of two are alike -/
def cnt1 (a : List UInt8) (y : List (List UInt8)) : Nat := (y.filter fun b => decide (a = b)).length
def cnt (x y : List (List UInt8)) : Nat := (x.map fun a => cnt1 a y).sum
theorem cnt1_nodup {a : List UInt8} {y : List (List UInt8)} (hy : y.Nodup) : cnt1 a y = if a ∈ y then 1 else 0 := by
  induction y with
  | nil => simp [cnt1]
  | cons b r ih =>
    obtain ⟨h1, h2⟩ := List.nodup_cons.1 hy
    have h3 := ih h2
    unfold cnt1 at h3 ⊢
    by_cases e : a = b
    · subst e
      rw [if_neg h1] at h3
      simp [h3]
    · rw [List.filter_cons, if_neg (by simpa using e), h3]; simp [e]
theorem cnt_nodup {x y : List (List UInt8)} (hy : y.Nodup) : cnt x y = (x.filter fun a => decide (a ∈ y)).length := by
  induction x with
  | nil => rfl
  | cons a r ih =>
    unfold cnt at ih ⊢
    rw [List.map_cons, List.sum_cons, ih, cnt1_nodup hy, List.filter_cons]
    by_cases h : a ∈ y <;> simp [h] <;> omega
theorem filter_split {α : Type} (p : α → Bool) (l : List α) : l.length = (l.filter p).length + (l.filter fun x => !p x).length := by
  induction l with
  | nil => rfl
  | cons a r ih =>
    rw [List.filter_cons, List.filter_cons, List.length_cons]
    cases p a <;> simp <;> omega
theorem cs_count (a b : List (List UInt8)) : (cs (a ++ b)).length + cnt (cs a) (cs b) = (cs a).length + (cs b).length := by
  obtain ⟨la, ma⟩ := cs_law a
  obtain ⟨lb, mb⟩ := cs_law b
  obtain ⟨lz, mz⟩ := cs_law (a ++ b)
  have na := lt_nodup la; have nb := lt_nodup lb; have nz := lt_nodup lz
  rw [cnt_nodup nb]
  have e1 : ((cs a).filter fun x => decide (x ∈ cs b)).length = ((cs b).filter fun x => decide (x ∈ cs a)).length :=
    Nat.le_antisymm (nodup_le _ _ (na.filter _) fun x hx => by simp only [List.mem_filter, decide_eq_true_eq] at hx ⊢; exact ⟨hx.2, hx.1⟩)
      (nodup_le _ _ (nb.filter _) fun x hx => by simp only [List.mem_filter, decide_eq_true_eq] at hx ⊢; exact ⟨hx.2, hx.1⟩)
  have e2 : (cs b).length = ((cs b).filter fun x => decide (x ∈ cs a)).length + ((cs b).filter fun x => !decide (x ∈ cs a)).length := filter_split _ _
  have nd : (cs a ++ (cs b).filter fun x => !decide (x ∈ cs a)).Nodup := List.nodup_append.2 ⟨na, nb.filter _, fun x hx y hy e => by
    subst e; simp only [List.mem_filter, Bool.not_eq_true', decide_eq_false_iff_not] at hy; exact hy.2 hx⟩
  have e3 : (cs (a ++ b)).length = (cs a ++ (cs b).filter fun x => !decide (x ∈ cs a)).length := by
    refine Nat.le_antisymm (nodup_le _ _ nz fun x hx => ?_) (nodup_le _ _ nd fun x hx => ?_)
    · rw [mz, List.mem_append] at hx
      rw [List.mem_append]
      by_cases h : x ∈ cs a
      · exact .inl h
      · refine .inr (List.mem_filter.2 ⟨(mb x).2 ?_, by simp [h]⟩)
        rcases hx with hx | hx
        · exact absurd ((ma x).2 hx) h
        · exact hx
    · rw [mz, List.mem_append]
      rcases List.mem_append.1 hx with hx | hx
      · exact .inl ((ma x).1 hx)
      · exact .inr ((mb x).1 (List.mem_filter.1 hx).1)
  rw [List.length_append] at e3
  omega
/-- what is named is a name -/
theorem names_name (t : T) (h : nodes t = true) : ∀ x ∈ names t, nameB ⟨x.toArray⟩ = true := by
  revert h
  refine T.rec (motive_1 := fun t => nodes t = true → ∀ x ∈ names t, nameB ⟨x.toArray⟩ = true) (motive_2 := fun ts => nodess ts = true → ∀ x ∈ namess ts, nameB ⟨x.toArray⟩ = true) ?_ ?_ ?_ t
  · intro k n s ls ts ih h x hx
    simp only [nodes, Bool.and_eq_true] at h
    simp only [names, List.mem_append] at hx
    rcases hx with hx | hx
    · unfold nm1 at hx
      split at hx
      · cases hx
      · rename_i h0
        rw [List.mem_singleton] at hx
        subst hx
        have := (nodeB_iff k n s ls ts).1 h.1
        have h4 := this.2.2.2.1
        split at h4
        · simpa using h4
        · exact absurd h4 h0
    · exact ih h.2 x hx
  · intro _ x hx; simp [namess] at hx
  · intro t r h1 h2 h x hx
    simp only [nodess, Bool.and_eq_true] at h
    simp only [namess, List.mem_append] at hx
    rcases hx with hx | hx
    · exact h1 h.1 x hx
    · exact h2 h.2 x hx
end Go.Proofs.YtnoghkpofpaeeaaGreat

