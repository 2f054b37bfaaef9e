/-
  A cache: how it lies; New, Len, Has.
-/
import Derived.Test.YtmibjillclfogaaDoorC5
namespace Go.Proofs.YtmibjillclfogaaDoor
open Go Go.RowKit Go.Proofs.Bw
set_option linter.unusedVariables false
set_option linter.unusedSimpArgs false

/-- the pairs that are there, as a map has them -/
def Kt (ents : List (SP × Value)) (l : List SP) : Prop := (ents.map Prod.fst).Nodup ∧ (∀ x, x ∈ ents.map Prod.fst ↔ x ∈ l) ∧ ∀ e ∈ ents, e.2 = .bool true
theorem Kt.nil : Kt [] [] := ⟨List.nodup_nil, fun x => by simp, fun e h => (by cases h)⟩
theorem Kt.get {ents : List (SP × Value)} {l : List SP} (h : Kt ents l) (p : SP) : (mget p ents).getD (.bool false) = .bool (decide (p ∈ l)) := by
  unfold mget
  cases hf : mfind p ents 0 with
  | none =>
    have hn := mfind_none hf
    have : p ∉ l := fun hm => by
      obtain ⟨e, he, h1⟩ := List.mem_map.1 ((h.2.1 p).2 hm)
      exact hn e he h1
    rw [decide_eq_false this]; rfl
  | some x =>
    obtain ⟨j, v⟩ := x
    obtain ⟨_, h2⟩ := mfind_some hf
    have hm := List.mem_of_getElem? h2
    have hv := h.2.2 _ hm
    have : p ∈ l := (h.2.1 p).1 (List.mem_map.2 ⟨_, hm, rfl⟩)
    simp only at hv
    subst hv
    rw [decide_eq_true this]; rfl
theorem Kt.put {ents : List (SP × Value)} {l l' : List SP} (h : Kt ents l) (p : SP) (hl : ∀ x, x ∈ l' ↔ x ∈ l ∨ x = p) : Kt (mput p (.bool true) ents) l' := by
  unfold mput
  cases hf : mfind p ents 0 with
  | none =>
    have hn := mfind_none hf
    simp only
    refine ⟨?_, fun x => ?_, fun e he => ?_⟩
    · rw [List.map_append, List.nodup_append]
      refine ⟨h.1, by simp, fun a ha b hb e => ?_⟩
      simp only [List.map_cons, List.map_nil, List.mem_singleton] at hb
      obtain ⟨q, hq, h1⟩ := List.mem_map.1 ha
      exact hn q hq (by rw [h1, e, hb])
    · rw [List.map_append, List.mem_append, h.2.1, hl]; simp
    · rcases List.mem_append.1 he with he | he
      · exact h.2.2 e he
      · rw [List.mem_singleton.1 he]
  | some x =>
    obtain ⟨j, v⟩ := x
    obtain ⟨_, h2⟩ := mfind_some hf
    rw [Nat.sub_zero] at h2
    have hm := List.mem_of_getElem? h2
    have hv := h.2.2 _ hm
    simp only at hv
    subst hv
    have : ents.modify j (fun _ => (p, Value.bool true)) = ents := by
      apply List.ext_getElem?
      intro i
      rw [List.getElem?_modify]
      by_cases hi : j = i
      · subst hi; simp [h2]
      · simp [hi]
    simp only
    rw [this]
    refine ⟨h.1, fun x => ?_, h.2.2⟩
    rw [h.2.1, hl]
    constructor
    · exact .inl
    · rintro (h3 | rfl)
      · exact h3
      · exact (h.2.1 _).1 (List.mem_map.2 ⟨_, hm, rfl⟩)
def mdel' (k : SP) : List (SP × Value) → List (SP × Value)
  | [] => []
  | (k', v) :: r => if k = k' then r else (k', v) :: mdel' k r
theorem mdel_some {k : SP} : ∀ {ents : List (SP × Value)} {i j : Nat} {v : Value}, mfind k ents i = some (j, v) → ents.eraseIdx (j - i) = mdel' k ents
  | [], i, j, v, h => by simp [mfind] at h
  | (k', v') :: r, i, j, v, h => by
    unfold mfind at h
    unfold mdel'
    split at h
    · rename_i hk
      simp only [Option.some.injEq, Prod.mk.injEq] at h
      obtain ⟨rfl, rfl⟩ := h
      rw [if_pos hk]; simp
    · rename_i hk
      have h1 := (mfind_some h).1
      rw [if_neg hk, ← mdel_some h, show j - i = (j - (i + 1)) + 1 by omega, List.eraseIdx_cons_succ]
theorem mdel_eq (k : SP) (ents : List (SP × Value)) : mdel k ents = mdel' k ents := by
  unfold mdel
  cases hf : mfind k ents 0 with
  | some x =>
    obtain ⟨j, v⟩ := x
    have := mdel_some hf
    rw [Nat.sub_zero] at this
    exact this
  | none =>
    have hn := mfind_none hf
    simp only
    clear hf
    induction ents with
    | nil => rfl
    | cons e r ih =>
      unfold mdel'
      rw [if_neg (fun h => hn e List.mem_cons_self h.symm), ← ih fun p hp => hn p (List.mem_cons_of_mem _ hp)]
theorem mdel'_mem (k : SP) : ∀ (ents : List (SP × Value)), (ents.map Prod.fst).Nodup → ((mdel' k ents).map Prod.fst).Nodup ∧ (∀ x, x ∈ (mdel' k ents).map Prod.fst ↔ x ∈ ents.map Prod.fst ∧ x ≠ k) ∧ ∀ e ∈ mdel' k ents, e ∈ ents
  | [], _ => ⟨List.nodup_nil, fun x => by simp [mdel'], fun e h => by simp [mdel'] at h⟩
  | (k', v) :: r, hn => by
    simp only [List.map_cons, List.nodup_cons] at hn
    obtain ⟨i1, i2, i3⟩ := mdel'_mem k r hn.2
    unfold mdel'
    by_cases hk : k = k'
    · subst hk
      rw [if_pos rfl]
      refine ⟨hn.2, fun x => ?_, fun e he => List.mem_cons_of_mem _ he⟩
      simp only [List.map_cons, List.mem_cons]
      constructor
      · intro hx; exact ⟨.inr hx, fun e => by subst e; exact hn.1 hx⟩
      · rintro ⟨h1 | h1, h2⟩
        · exact absurd h1 h2
        · exact h1
    · rw [if_neg hk]
      refine ⟨?_, fun x => ?_, fun e he => ?_⟩
      · simp only [List.map_cons, List.nodup_cons]
        exact ⟨fun h => hn.1 ((i2 k').1 h).1, i1⟩
      · simp only [List.map_cons, List.mem_cons, i2]
        constructor
        · rintro (h1 | ⟨h1, h2⟩)
          · exact ⟨.inl h1, fun e => hk (by rw [← e, h1])⟩
          · exact ⟨.inr h1, h2⟩
        · rintro ⟨h1 | h1, h2⟩
          · exact .inl h1
          · exact .inr ⟨h1, h2⟩
      · rcases List.mem_cons.1 he with rfl | he
        · exact List.mem_cons_self
        · exact List.mem_cons_of_mem _ (i3 e he)
theorem Kt.del {ents : List (SP × Value)} {l l' : List SP} (h : Kt ents l) (p : SP) (hl : ∀ x, x ∈ l' ↔ x ∈ l ∧ x ≠ p) : Kt (mdel p ents) l' := by
  rw [mdel_eq]
  obtain ⟨h1, h2, h3⟩ := mdel'_mem p ents h.1
  exact ⟨h1, fun x => by rw [h2, h.2.1, hl], fun e he => h.2.2 e (h3 e he)⟩

abbrev encK : SP → Value := fun p => Value.agg (prC p).toArray
structure Ch where
  most : Nat
  l : List SP
def Ch.ok (q : Ch) : Prop := 1 ≤ q.most ∧ q.most ≤ 4096 ∧ q.l.length ≤ q.most ∧ q.l.Nodup
/-- how a cache lies, and which blocks are its own -/
def ChAt (w : World) (lo g : Nat) (q : Ch) (own : Nat → Prop) : Prop := ∃ A c m ents, Box w g [.int .i64 q.most, .slice A q.l.length c, .map (some m)] ∧ OwnO w lo 55 2 A c (pR q.l) ∧ MapAt encK w m ents ∧ Kt ents q.l ∧
  g ≠ m ∧ ¬ ownOf A g ∧ ¬ ownOf A m ∧ lo ≤ g ∧ lo ≤ m ∧ (∀ k, own k ↔ k = g ∨ k = m ∨ ownOf A k)
theorem ChAt.ext {w w' : World} {lo g : Nat} {q : Ch} {own : Nat → Prop} (h : ChAt w lo g q own) (hx : Ext w w') : ChAt w' lo g q own := by
  obtain ⟨A, c, m, ents, h1, h2, h3, r⟩ := h
  exact ⟨A, c, m, ents, h1.ext hx, h2.ext hx, h3.ext hx, r⟩
theorem New_runs (most : Int) (w : World) :
    Runs Tryd.prog 9 #[.int .i64 most] w fun v w' => Ext w w' ∧ ((1 ≤ most ∧ most ≤ 4096) → ∃ g own, v = .tuple #[.pointer (some ⟨g, 0, none⟩), .int .i64 0] ∧ w.heap.size ≤ g ∧ ChAt w' w.heap.size g ⟨most.toNat, []⟩ own ∧ ∀ k, own k → w.heap.size ≤ k) ∧
      (¬ (1 ≤ most ∧ most ≤ 4096) → v = .tuple #[.pointer none, .int .i64 1]) := by
  refine Runs.of_vc cx_ok [0, 2, 3, 9] [.v _] Tryd.func9 rfl rfl rfl (Holds.nil _) ?_
  refine And.intro (fun h => ?_) (fun h => ?_)
  · have hn : ¬ (1 ≤ most ∧ most ≤ 4096) := by simp only [sel, Bool.or_eq_true, Bool.and_eq_true, Bool.not_eq_true', Bool.not_eq_false', decide_eq_true_eq, decide_eq_false_iff_not, Bool.or_eq_false_iff, Bool.and_eq_false_iff, Bool.and_false, Bool.or_false, Bool.and_true, Bool.or_true, Bool.true_and, Bool.false_or, Bool.true_or, Bool.false_and, Bool.false_eq_true, Bool.true_eq_false, or_false, false_or, and_true, true_and, Bool.not_true, Bool.not_false, sel] at h; omega
    exact ⟨Ext.refl _, fun h => absurd h hn, fun _ => rfl⟩
  · have hy : 1 ≤ most ∧ most ≤ 4096 := by simp only [sel, Bool.or_eq_true, Bool.and_eq_true, Bool.not_eq_true', Bool.not_eq_false', decide_eq_true_eq, decide_eq_false_iff_not, Bool.or_eq_false_iff, Bool.and_eq_false_iff, Bool.and_false, Bool.or_false, Bool.and_true, Bool.or_true, Bool.true_and, Bool.false_or, Bool.true_or, Bool.false_and, Bool.false_eq_true, Bool.true_eq_false, or_false, false_or, and_true, true_and, Bool.not_true, Bool.not_false, sel] at h; omega
    obtain ⟨n, rfl⟩ : ∃ n : Nat, most = n := ⟨most.toNat, by omega⟩
    refine OpT.makeMap (κ := SP) (enc := encK) fun w1 m e1 x1 z1 hm => ?_
    refine Lands.v (Holds.nil _) ?_
    intro g w2 e2 x2 z2 hh2
    refine ⟨x1.trans x2, fun _ => ⟨g, fun k => k = g ∨ k = m ∨ ownOf none k, rfl, by omega, ⟨none, 0, m, [], hh2.box 0 _ rfl, OwnO.nil _ _ _ _, hm.ext x2, Kt.nil, by omega, (fun ⟨a, ha, _⟩ => by cases ha), (fun ⟨a, ha, _⟩ => by cases ha), by omega, by omega, fun k => Iff.rfl⟩, ?_⟩, fun hn => absurd hy hn⟩
    rintro k (rfl | rfl | ⟨a, ha, _⟩)
    · omega
    · omega
    · cases ha
theorem Len_runs {lo : Nat} (g : Nat) (q : Ch) (own : Nat → Prop) (w : World) (h : ChAt w lo g q own) :
    Runs Tryd.prog 14 #[.pointer (some ⟨g, 0, none⟩)] w fun v w' => v = .int .i64 q.l.length ∧ Ext w w' := by
  obtain ⟨A, c, m, ents, b, r⟩ := h
  have hh := Holds.one (g := g) (cs := [.v (.int .i64 q.most), .v (.slice A q.l.length c), .v (.map (some m))]) b rfl
  refine Runs.of_vc (ρ := [g]) cx_ok [0, 2, 4] [.p 0 0] Tryd.func14 rfl rfl rfl hh ?_
  refine And.intro (fun h => by cases h) (fun _ => ?_)
  exact ⟨rfl, Ext.refl _⟩
theorem LenN_runs (w : World) : Runs Tryd.prog 14 #[.pointer none] w fun v w' => v = .int .i64 0 ∧ Ext w w' := by
  refine Runs.of_vc cx_ok [0, 2, 4] [.v _] Tryd.func14 rfl rfl rfl (Holds.nil _) ?_
  exact And.intro (fun h => ⟨rfl, Ext.refl _⟩) (fun h => by cases h)
end Go.Proofs.YtmibjillclfogaaDoor

