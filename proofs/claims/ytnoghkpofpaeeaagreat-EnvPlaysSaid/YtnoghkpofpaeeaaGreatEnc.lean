/-
  Values of a type, how they lie; slices of them that may be read; slices of them of one's own.
-/
import Derived.Test.YtnoghkpofpaeeaaGreatLoop
namespace Go.Proofs.Bw
open Go Go.RowKit
set_option linter.unusedSectionVars false
set_option linter.unusedSimpArgs false
set_option linter.unusedVariables false

structure Enc (α : Type) where
  sz : Nat
  rep : World → (Nat → Prop) → List Value → α → Prop
  pos : 0 < sz
  len : ∀ {w R cs a}, rep w R cs a → cs.length = sz
  one : ∀ {w R cs a}, rep w R cs a → ∀ u ∈ cs, u.oneCell' = true
  mod : ∀ {S R w w' cs a}, rep w R cs a → Mod S w w' → (∀ k, R k → ¬ S k) → rep w' R cs a
  mono : ∀ {R R' w cs a}, rep w R cs a → (∀ k, R k → R' k) → rep w R' cs a
  small : ∀ {R w cs a}, rep w R cs a → rep w (fun k => R k ∧ k < w.heap.size) cs a

section
variable {α : Type} {E : Enc α} {w w' : World} {R R' : Nat → Prop} {A : Option Addr} {l : List α} {lo el c : Nat}
theorem Enc.ext {cs : List Value} {a : α} (h : E.rep w R cs a) (hx : Ext w w') : E.rep w' R cs a := E.mod h hx fun _ _ h => h
def Sl (E : Enc α) (w : World) (R : Nat → Prop) (A : Option Addr) (l : List α) : Prop := ∀ (i : Nat) (x : α), l[i]? = some x → ∃ a cs, A = some a ∧ R a.block ∧ RowAt w (a.add (i * E.sz)) cs ∧ E.rep w R cs x
theorem Sl.nil (E : Enc α) (w : World) (R : Nat → Prop) (A : Option Addr) : Sl E w R A [] := fun i x h => by simp at h
theorem Sl.at (h : Sl E w R A l) {i : Nat} (hi : i < l.length) : ∃ a cs, A = some a ∧ R a.block ∧ RowAt w (a.add (i * E.sz)) cs ∧ E.rep w R cs l[i] := h i _ (List.getElem?_eq_getElem hi)
theorem Sl.mod {S : Nat → Prop} (h : Sl E w R A l) (hm : Mod S w w') (hS : ∀ k, R k → ¬ S k) : Sl E w' R A l := fun i x hx => by
  obtain ⟨a, cs, h1, h2, h3, h4⟩ := h i x hx
  exact ⟨a, cs, h1, h2, h3.mod hm (by rw [block_add]; exact hS _ h2), E.mod h4 hm hS⟩
theorem Sl.ext (h : Sl E w R A l) (hm : Ext w w') : Sl E w' R A l := h.mod hm fun _ _ h => h
theorem Sl.mono (h : Sl E w R A l) (hr : ∀ k, R k → R' k) : Sl E w R' A l := fun i x hx => by
  obtain ⟨a, cs, h1, h2, h3, h4⟩ := h i x hx
  exact ⟨a, cs, h1, hr _ h2, h3, E.mono h4 hr⟩
theorem Sl.small (h : Sl E w R A l) : Sl E w (fun k => R k ∧ k < w.heap.size) A l := fun i x hx => by
  obtain ⟨a, cs, h1, h2, h3, h4⟩ := h i x hx
  exact ⟨a, cs, h1, ⟨h2, by have := h3.lt (by rw [E.len h4]; exact E.pos); rwa [block_add] at this⟩, h3, E.small h4⟩
theorem Sl.take (h : Sl E w R A l) (n : Nat) : Sl E w R A (l.take n) := fun i x hx => by
  rw [List.getElem?_take] at hx
  split at hx
  · exact h i x hx
  · cases hx
theorem Sl.cut (h : Sl E w R A l) (hc : l.length ≤ c) (i : Nat) : Sl E w R (if c = i then A else A.map (·.add (i * E.sz))) (l.drop i) := fun k x hx => by
  obtain ⟨hk, _⟩ := List.getElem?_eq_some_iff.1 hx
  rw [List.length_drop] at hk
  rw [if_neg (by omega)]
  rw [List.getElem?_drop] at hx
  obtain ⟨a, cs, h1, h2, h3, h4⟩ := h _ x hx
  refine ⟨a.add (i * E.sz), cs, by rw [h1]; rfl, by rw [block_add]; exact h2, ?_, h4⟩
  rw [Addr.add_add, ← Nat.add_mul]; exact h3
theorem Sl.rows (h : Sl E w R A l) : ∃ css : List (List Value), css.length = l.length ∧ Rd w R E.sz A css ∧ (∀ (i : Nat) (cs : List Value) (x : α), css[i]? = some cs → l[i]? = some x → E.rep w R cs x) := by
  have hc : ∀ i : Fin l.length, ∃ cs, (∃ a, A = some a ∧ R a.block ∧ RowAt w (a.add (i.1 * E.sz)) cs) ∧ E.rep w R cs l[i.1] := fun i => by
    obtain ⟨a, cs, h1, h2, h3, h4⟩ := h.at i.2
    exact ⟨cs, ⟨a, h1, h2, h3⟩, h4⟩
  refine ⟨List.ofFn fun i => Classical.choose (hc i), by simp, fun i r hr => ?_, fun i cs x hcs hx => ?_⟩
  · obtain ⟨hi, rfl⟩ := List.getElem?_eq_some_iff.1 hr
    simp only [List.length_ofFn] at hi
    rw [List.getElem_ofFn]
    obtain ⟨a, h1, h2, h3⟩ := (Classical.choose_spec (hc ⟨i, hi⟩)).1
    exact ⟨a, h1, h2, h3⟩
  · obtain ⟨hi, rfl⟩ := List.getElem?_eq_some_iff.1 hcs
    simp only [List.length_ofFn] at hi
    rw [List.getElem_ofFn]
    have := (Classical.choose_spec (hc ⟨i, hi⟩)).2
    rw [List.getElem?_eq_getElem hi] at hx
    cases hx
    exact this

/-- Rows that hold values. -/
def Reps (E : Enc α) (w : World) (R : Nat → Prop) (css : List (List Value)) (l : List α) : Prop := css.length = l.length ∧ ∀ (i : Nat) (cs : List Value) (x : α), css[i]? = some cs → l[i]? = some x → E.rep w R cs x
theorem Reps.mod {S : Nat → Prop} {css : List (List Value)} (h : Reps E w R css l) (hm : Mod S w w') (hS : ∀ k, R k → ¬ S k) : Reps E w' R css l := ⟨h.1, fun i cs x h1 h2 => E.mod (h.2 i cs x h1 h2) hm hS⟩
theorem Reps.mono {css : List (List Value)} (h : Reps E w R css l) (hr : ∀ k, R k → R' k) : Reps E w R' css l := ⟨h.1, fun i cs x h1 h2 => E.mono (h.2 i cs x h1 h2) hr⟩
theorem Reps.small {css : List (List Value)} (h : Reps E w R css l) : Reps E w (fun k => R k ∧ k < w.heap.size) css l := ⟨h.1, fun i cs x h1 h2 => E.small (h.2 i cs x h1 h2)⟩
theorem Reps.append {css css' : List (List Value)} {l' : List α} (h : Reps E w R css l) (h' : Reps E w R css' l') : Reps E w R (css ++ css') (l ++ l') := by
  refine ⟨by simp [h.1, h'.1], fun i cs x h1 h2 => ?_⟩
  by_cases hi : i < css.length
  · rw [List.getElem?_append_left hi] at h1
    rw [List.getElem?_append_left (by rw [← h.1]; exact hi)] at h2
    exact h.2 i cs x h1 h2
  · rw [List.getElem?_append_right (by omega)] at h1
    rw [List.getElem?_append_right (by rw [← h.1]; omega), ← h.1] at h2
    exact h'.2 _ cs x h1 h2
theorem Reps.lens {css : List (List Value)} (h : Reps E w R css l) : ∀ r ∈ css, r.length = E.sz := fun r hr => by
  obtain ⟨i, hi, rfl⟩ := List.getElem_of_mem hr
  exact E.len (h.2 i _ (l[i]'(by rw [← h.1]; exact hi)) (List.getElem?_eq_getElem hi) (List.getElem?_eq_getElem _))
theorem Reps.ones {css : List (List Value)} (h : Reps E w R css l) : ∀ u ∈ css.flatten, u.oneCell' = true := fun u hu => by
  obtain ⟨r, hr, hu⟩ := List.mem_flatten.1 hu
  obtain ⟨i, hi, rfl⟩ := List.getElem_of_mem hr
  exact E.one (h.2 i _ (l[i]'(by rw [← h.1]; exact hi)) (List.getElem?_eq_getElem hi) (List.getElem?_eq_getElem _)) u hu
theorem Reps.nil (E : Enc α) (w : World) (R : Nat → Prop) : Reps E w R [] [] := ⟨rfl, fun i cs x h => by simp at h⟩
theorem Reps.cons {cs : List Value} {x : α} {css : List (List Value)} (h0 : E.rep w R cs x) (h : Reps E w R css l) : Reps E w R (cs :: css) (x :: l) := by
  refine ⟨by simp [h.1], fun i cs' x' h1 h2 => ?_⟩
  cases i with
  | zero => simp at h1 h2; subst h1; subst h2; exact h0
  | succ i => exact h.2 i cs' x' (by simpa using h1) (by simpa using h2)
theorem Reps.sl {css : List (List Value)} (h : Reps E w R css l) (hr : Rd w R E.sz A css) : Sl E w R A l := fun i x hx => by
  obtain ⟨hi, _⟩ := List.getElem?_eq_some_iff.1 hx
  have hi' : i < css.length := by rw [h.1]; exact hi
  obtain ⟨a, h1, h2, h3⟩ := hr i _ (List.getElem?_eq_getElem hi')
  exact ⟨a, _, h1, h2, h3, h.2 i _ x (List.getElem?_eq_getElem hi') hx⟩
theorem Sl.reps (h : Sl E w R A l) : ∃ css, Reps E w R css l ∧ Rd w R E.sz A css := by
  obtain ⟨css, h1, h2, h3⟩ := h.rows
  exact ⟨css, ⟨h1, h3⟩, h2⟩

/-- A slice of one's own in a block from lo on; what its values hold lies elsewhere: where R is, or from lo on. -/
def OwnE (E : Enc α) (w : World) (lo el : Nat) (R : Nat → Prop) (A : Option Addr) (c : Nat) (l : List α) : Prop :=
  ∃ css, OwnR w lo el E.sz A c css ∧ Reps E w (fun k => ((R k ∨ lo ≤ k) ∧ k < w.heap.size) ∧ ¬ ownOf A k) css l
theorem OwnE.nil (E : Enc α) (w : World) (lo el : Nat) (R : Nat → Prop) : OwnE E w lo el R none 0 [] := ⟨[], OwnR.nil w lo el E.sz, Reps.nil _ _ _⟩
theorem OwnE.le (h : OwnE E w lo el R A c l) : l.length ≤ c ∧ c ≤ 9223372036854775807 := by
  obtain ⟨css, h1, h2⟩ := h
  have := h1.le
  rw [h2.1] at this
  exact this
theorem OwnE.block (h : OwnE E w lo el R A c l) {a : Addr} (ha : A = some a) : lo ≤ a.block ∧ a.block < w.heap.size := by
  obtain ⟨css, h1, h2⟩ := h
  exact h1.block ha
theorem OwnE.lt (h : OwnE E w lo el R A c l) : ∀ k, ownOf A k → lo ≤ k ∧ k < w.heap.size := fun k ⟨a, ha, e⟩ => by subst e; exact h.block ha
/-- what lies elsewhere may turn -/
theorem OwnE.mod {S : Nat → Prop} (h : OwnE E w lo el R A c l) (hm : Mod S w w') (hS : ∀ k, k < w.heap.size → S k → ¬ R k ∧ k < lo) : OwnE E w' lo el R A c l := by
  have hb := h.lt
  obtain ⟨css, h1, h2⟩ := h
  refine ⟨css, h1.mod (S := S) hm (fun a ha hs => ?_), (h2.mod hm fun k hk hs => ?_).mono fun k hk => ⟨⟨hk.1.1, Nat.lt_of_lt_of_le hk.1.2 hm.size⟩, hk.2⟩⟩
  · have h3 := hb _ ⟨a, ha, rfl⟩
    have := (hS _ h3.2 hs).2
    omega
  · have h3 := hS k hk.1.2 hs
    rcases hk.1.1 with h4 | h4
    · exact h3.1 h4
    · omega
theorem OwnE.ext (h : OwnE E w lo el R A c l) (hm : Ext w w') : OwnE E w' lo el R A c l := h.mod hm fun _ _ h => h.elim
theorem OwnE.upd {g : Nat} (h : OwnE E w lo el R A c l) (hm : Upd g w w') (hg : g < lo) (hR : ¬ R g) : OwnE E w' lo el R A c l := h.mod hm fun k _ e => by
  have e : k = g := e
  subst e; exact ⟨hR, hg⟩
theorem OwnE.sl (h : OwnE E w lo el R A c l) : Sl E w (fun k => (R k ∨ lo ≤ k) ∧ k < w.heap.size) A l := by
  obtain ⟨css, h1, h2⟩ := h
  refine (h2.mono fun k hk => hk.1).sl fun i r hi => ?_
  obtain ⟨a, h3, h4, h5⟩ := h1.rd i r hi
  exact ⟨a, h3, ⟨.inr h4.1, h4.2⟩, h5⟩
theorem OwnE.mono (h : OwnE E w lo el R A c l) (hr : ∀ k, R k → R' k) : OwnE E w lo el R' A c l := by
  obtain ⟨css, h1, h2⟩ := h
  exact ⟨css, h1, h2.mono fun k hk => ⟨⟨hk.1.1.imp (hr k) id, hk.1.2⟩, hk.2⟩⟩
theorem OwnE.lower {lo' : Nat} (h : OwnE E w lo el R A c l) (hl : lo' ≤ lo) : OwnE E w lo' el R A c l := by
  obtain ⟨css, h1, h2⟩ := h
  exact ⟨css, h1.lower hl, h2.mono fun k hk => ⟨⟨hk.1.1.imp id (Nat.le_trans hl), hk.1.2⟩, hk.2⟩⟩
/-- Blocks of boxes are others than those of a slice of one's own: they were there before it, or came behind. -/
def farR (lo b : Nat) : List Nat → Prop
  | [] => True
  | g :: r => (g < lo ∨ b ≤ g) ∧ farR lo b r
theorem farR.get {b : Nat} : ∀ {ρ : List Nat}, farR lo b ρ → ∀ i, i < ρ.length → adr ρ i < lo ∨ b ≤ adr ρ i
  | [], _, i, h => by simp at h
  | g :: r, h, 0, _ => h.1
  | g :: r, h, i + 1, hi => farR.get h.2 i (by simpa using hi)

variable {P : Program} {e : Env} {K : Value → World → Prop} {d : Option Tmp} {t : TypeId} {pos : String} {af : Array Edge} {g' : Option (Nat × Bool)} {ρ : List Nat} {H : Heap} {k : SV → List Nat → Heap → World → Prop}
/-- what may be read is put behind one's own -/
theorem OpT.appendG {x y : Operand} {st tx : TypeId} {bytes m n cc n' : Nat} {B : Option Addr} {R2 : Nat → Prop} {l2 l3 : List α} (hel : ElOk P el E.sz bytes) (ht : P.underlying st = some (.slice el)) (htx : P.underlying tx = some (.slice el))
    (hx : evalO e x = some (.slice A n c)) (hy : evalO e y = some (.slice B m cc)) (hn : n = l.length) (hm : m = l2.length) (h3 : l ++ l2 = l3) (hn' : n' = l3.length) (hown : OwnE E w lo el R A c l) (hR : Sl E w R2 B l2)
    (hR2 : ∀ k, R2 k → k < w.heap.size → (R k ∨ lo ≤ k) ∧ ¬ ownOf A k) (hlo : lo ≤ w.heap.size) (hRlo : ∀ k, R k → k < w.heap.size → ¬ ownOf A k)
    (hH : Holds ρ H w) (hρ : ∀ i, i < ρ.length → ¬ ownOf A (adr ρ i))
    (h63 : l3.length * bytes ≤ 140737488355328 ∧ l3.length ≤ 9223372036854775807)
    (h : ∀ w' A' c', Mod (ownOf A) w w' → w.heap.size ≤ w'.heap.size → OwnE E w' lo el R A' c' l3 → (∀ k, ownOf A' k → ownOf A k ∨ w.heap.size ≤ k) → Holds ρ H w' → k (.v (.slice A' n' c')) ρ H w') :
    OpT P e w ⟨d, .call ⟨.builtin .append, #[x, y], #[st, tx]⟩, t, pos, af, g'⟩ (Lands ρ k) := by
  subst hn; subst hm; subst h3; subst hn'
  have hlt := hown.lt
  obtain ⟨css, h1, h2⟩ := hown
  obtain ⟨news, q1, q2⟩ := hR.small.reps
  have hl1 := h2.1
  have hl2 := q1.1
  have hs := q2.src (P := P) (tx := tx) htx q1.lens q1.ones cc
  rw [hl2] at hs
  have h63' : (css.length + news.length) * bytes ≤ 140737488355328 ∧ css.length + news.length ≤ 9223372036854775807 := by
    rw [hl1, hl2]; rw [List.length_append] at h63; exact h63
  refine OpT.appendS' (news := news) (m := l2.length) hel ht (by rw [hl1]; exact hx) hy h1 hs hl2.symm q1.lens h63' hlo fun w' A' c' m' o' f' => ?_
  have hlen : (css ++ news).length = (l ++ l2).length := by rw [List.length_append, List.length_append, hl1, hl2]
  rw [hlen]
  have hH' : Holds ρ H w' := hH.mod m' hρ
  refine Lands.v hH' (h w' A' c' m' m'.size ⟨css ++ news, o', ?_⟩ f' hH')
  have r1 : Reps E w (fun k => ((R k ∨ lo ≤ k) ∧ k < w.heap.size) ∧ ¬ ownOf A k) (css ++ news) (l ++ l2) := h2.append (q1.mono fun k hk => ⟨⟨(hR2 k hk.1 hk.2).1, hk.2⟩, (hR2 k hk.1 hk.2).2⟩)
  refine (r1.mod m' fun k hk => hk.2).mono fun k hk => ⟨⟨hk.1.1, Nat.lt_of_lt_of_le hk.1.2 m'.size⟩, fun h4 => ?_⟩
  rcases f' k h4 with h5 | h5
  · exact hk.2 h5
  · have := hk.1.2; omega

theorem OpT.appendE {x y : Operand} {st tx : TypeId} {bytes m n cc b n' : Nat} {B : Option Addr} {R2 : Nat → Prop} {l2 l3 : List α} (hel : ElOk P el E.sz bytes) (ht : P.underlying st = some (.slice el)) (htx : P.underlying tx = some (.slice el))
    (hx : evalO e x = some (.slice A n c)) (hy : evalO e y = some (.slice B m cc)) (hn : n = l.length) (hm : m = l2.length) (h3 : l ++ l2 = l3) (hn' : n' = l3.length) (hown : OwnE E w lo el R A c l) (hR : Sl E w R2 B l2)
    (hR2 : ∀ k, R2 k → k < w.heap.size → (R k ∨ lo ≤ k) ∧ ¬ ownOf A k) (hlo : lo ≤ w.heap.size) (hRlo : ∀ k, R k → k < w.heap.size → ¬ ownOf A k)
    (hH : Holds ρ H w) (hb : ∀ k, ownOf A k → k < b) (hρ : farR lo b ρ)
    (h63 : l3.length * bytes ≤ 140737488355328 ∧ l3.length ≤ 9223372036854775807)
    (h : ∀ w' A' c', Mod (ownOf A) w w' → w.heap.size ≤ w'.heap.size → OwnE E w' lo el R A' c' l3 → (∀ k, ownOf A' k → ownOf A k ∨ w.heap.size ≤ k) → Holds ρ H w' → k (.v (.slice A' n' c')) ρ H w') :
    OpT P e w ⟨d, .call ⟨.builtin .append, #[x, y], #[st, tx]⟩, t, pos, af, g'⟩ (Lands ρ k) :=
  OpT.appendG hel ht htx hx hy hn hm h3 hn' hown hR hR2 hlo hRlo hH (fun i hi hs => by
    have h4 := hown.lt _ hs
    have h5 := hb _ hs
    rcases hρ.get i hi with h6 | h6 <;> omega) h63 h

/-! slices that are written out -/
theorem fold_write (off : Nat) : ∀ (l : List Value) (k : Nat) (base : Array Value), off + k + l.length ≤ base.size →
    ((l.zipIdx k).foldl (fun (cs : Array Value) (x : Value × Nat) => cs.setIfInBounds (off + x.2) x.1) base).toList = base.toList.take (off + k) ++ l ++ base.toList.drop (off + k + l.length)
  | [], k, base, h => by simp
  | v :: r, k, base, h => by
    simp only [List.length_cons] at h
    rw [List.zipIdx_cons, List.foldl_cons, fold_write off r (k + 1) _ (by simp; omega)]
    simp only [Array.toList_setIfInBounds]
    have hlt : off + k < base.toList.length := by simp; omega
    have e1 : (base.toList.set (off + k) v).take (off + (k + 1)) = base.toList.take (off + k) ++ [v] := by
      rw [← Nat.add_assoc, List.take_succ_eq_append_getElem (by simpa using hlt), List.getElem_set_self, List.take_set_of_le (by omega)]
    have e2 : (base.toList.set (off + k) v).drop (off + (k + 1) + r.length) = base.toList.drop (off + k + (v :: r).length) := by
      rw [List.drop_set_of_lt (by omega)]
      simp only [List.length_cons]
      congr 1
      omega
    rw [e1, e2]
    simp
def partsOf : Nat → List Value → List (Nat × Value)
  | _, [] => []
  | k, v :: r => (k, v) :: partsOf (k + 1) r
theorem fill_parts {sz : Nat} : ∀ (vs : List Value) (k : Nat) (base : Array Value), (∀ v ∈ vs, v.cells.size = sz) → (k + vs.length) * sz ≤ base.size →
    ∃ cs, Instr.fill (fun i => some (i * sz, sz)) base (partsOf k vs) = some cs ∧ cs.toList = base.toList.take (k * sz) ++ (vs.map fun v => v.cells.toList).flatten ++ base.toList.drop ((k + vs.length) * sz)
  | [], k, base, _, _ => ⟨base, rfl, by simp⟩
  | v :: r, k, base, hv, hb => by
    have h0 : v.cells.size = sz := hv v List.mem_cons_self
    simp only [List.length_cons] at hb
    have hk : k * sz + sz ≤ base.size := by
      refine Nat.le_trans ?_ hb
      rw [← Nat.succ_mul]; exact Nat.mul_le_mul_right _ (by omega)
    simp only [partsOf, Instr.fill, h0]
    rw [if_neg (by simp; omega)]
    have hf : (v.cells.zipIdx.foldl (fun (cs : Array Value) (x : Value × Nat) => cs.setIfInBounds (k * sz + x.2) x.1) base).toList = base.toList.take (k * sz) ++ v.cells.toList ++ base.toList.drop (k * sz + sz) := by
      rw [← Array.foldl_toList, Array.toList_zipIdx]
      have := fold_write (k * sz) v.cells.toList 0 base (by simp [h0]; omega)
      simp only [Nat.add_zero] at this
      rw [this]; simp [h0]
    have hs : (v.cells.zipIdx.foldl (fun (cs : Array Value) (x : Value × Nat) => cs.setIfInBounds (k * sz + x.2) x.1) base).size = base.size := by
      have := congrArg List.length hf
      simp only [Array.length_toList, List.length_append, List.length_take, List.length_drop, h0] at this
      omega
    obtain ⟨cs, h1, h2⟩ := fill_parts r (k + 1) _ (fun u hu => hv u (List.mem_cons_of_mem _ hu)) (by rw [hs]; refine Nat.le_trans (Nat.le_of_eq ?_) hb; congr 1; omega)
    refine ⟨cs, h1, ?_⟩
    rw [h2, hf]
    have e1 : (base.toList.take (k * sz) ++ v.cells.toList ++ base.toList.drop (k * sz + sz)).take ((k + 1) * sz) = base.toList.take (k * sz) ++ v.cells.toList := by
      rw [List.take_append_of_le_length (by simp [h0]; rw [Nat.succ_mul]; omega), List.take_of_length_le (by simp [h0]; rw [Nat.succ_mul]; omega)]
    have e2 : (base.toList.take (k * sz) ++ v.cells.toList ++ base.toList.drop (k * sz + sz)).drop ((k + 1 + r.length) * sz) = base.toList.drop ((k + (v :: r).length) * sz) := by
      have e : (k + 1 + r.length) * sz = (base.toList.take (k * sz) ++ v.cells.toList).length + r.length * sz := by
        simp [h0, Nat.add_mul, Nat.succ_mul]; omega
      rw [e, List.drop_append, List.drop_eq_nil_of_le (by omega), List.nil_append, Nat.add_sub_cancel_left, List.drop_drop]
      simp only [List.length_cons]
      congr 1
      simp [Nat.add_mul, Nat.succ_mul]; omega
    rw [e1, e2]
    simp
/-- a slice that is written out is one's own -/
theorem OpT.buildE {bt : TypeId} {len : Nat} {parts : List (Nat × Operand)} {vs : List Value} {css : List (List Value)} {z : Value} (hZ : ZeroIs P el z) (hv : PArgs e parts (partsOf 0 vs)) (hu : P.underlying bt = some (.slice el)) (hs : SizeIs P el E.sz) (hlen : len = vs.length)
    (hcs : vs.map (fun v => v.cells.toList) = css) (hr : Reps E w R css l) (hmx : Nat.ble (len * E.sz) 16777216 = true) (hmx2 : Nat.ble len 16777216 = true) (hH : Holds ρ H w)
    (h : ∀ w' b, b = w.heap.size → Ext w w' → w'.heap.size = w.heap.size + 1 → OwnE E w' w.heap.size el R (some ⟨b, 0, none⟩) len l → Holds ρ H w' → k (.v (.slice (some ⟨b, 0, none⟩) len len)) ρ H w') : OpT P e w ⟨d, .buildSlice bt len parts.toArray, t, pos, af, g'⟩ (Lands ρ k) := by
  subst hlen; subst hcs
  have hpos := E.pos
  have hcl : ∀ v ∈ vs, v.cells.size = E.sz := fun v hv => by
    have := hr.lens v.cells.toList (List.mem_map.2 ⟨v, hv, rfl⟩)
    simpa using this
  obtain ⟨cs, hf, hcs⟩ := fill_parts vs 0 ((Array.range (vs.length * E.sz)).map ((if vs.length * E.sz = 0 then #[] else z.cells)[· % (if vs.length * E.sz = 0 then #[] else z.cells).size]!)) hcl (by simp)
  have hcs' : (vs.map fun v => v.cells.toList).flatten = cs.toList := by
    rw [hcs]; simp
  refine OpT.buildOwn (vs := partsOf 0 vs) (css := vs.map fun v => v.cells.toList) hv hu hs hZ hmx hf hcs' hr.lens (by simp) hmx2 fun w' b eb x z' o => ?_
  refine Lands.v (hH.ext x) (h w' b eb x z' ⟨_, o, ?_⟩ (hH.ext x))
  refine (hr.small.mod (S := fun _ => False) x fun _ _ h => h).mono fun k hk => ⟨⟨.inl hk.1, Nat.lt_of_lt_of_le hk.2 x.size⟩, fun ⟨a, ha, e⟩ => ?_⟩
  cases ha
  have e : k = b := e
  have := hk.2
  omega
/-- one's own is put behind one's own that came first; w0: where the function began -/
theorem OpT.appendO {w0 w2 : World} {x y : Operand} {st tx : TypeId} {bytes m n cc n' lo2 el2 : Nat} {B : Option Addr} {l2 l3 : List α} (hel : ElOk P el E.sz bytes) (ht : P.underlying st = some (.slice el)) (htx : P.underlying tx = some (.slice el))
    (hx : evalO e x = some (.slice A n c)) (hy : evalO e y = some (.slice B m cc)) (hn : n = l.length) (hm : m = l2.length) (h3 : l ++ l2 = l3) (hn' : n' = l3.length) (hown : OwnE E w2 lo el R A c l) (x2 : Ext w2 w) (hsrc : OwnE E w lo2 el2 R B cc l2)
    (h2 : lo ≤ lo2 ∧ w2.heap.size ≤ lo2) (hRlo : ∀ k, R k → k < lo) (x0 : Ext w0 w) (h0 : w0.heap.size ≤ lo ∧ lo ≤ w.heap.size) (hH : Holds ρ H w) (hρ : farR lo w2.heap.size ρ)
    (h63 : l3.length * bytes ≤ 140737488355328 ∧ l3.length ≤ 9223372036854775807)
    (h : ∀ w' A' c', Ext w0 w' → w.heap.size ≤ w'.heap.size → OwnE E w' lo el R A' c' l3 → Holds ρ H w' → k (.v (.slice A' n' c')) ρ H w') :
    OpT P e w ⟨d, .call ⟨.builtin .append, #[x, y], #[st, tx]⟩, t, pos, af, g'⟩ (Lands ρ k) := by
  have hlt := hown.lt
  refine OpT.appendE hel ht htx hx hy hn hm h3 hn' (hown.ext x2) hsrc.sl (fun k hk hks => ⟨?_, fun ho => ?_⟩) h0.2 (fun k hk _ ho => ?_) hH (b := w2.heap.size) (fun k hk => (hlt k hk).2) hρ h63 fun w' A' c' m' z' o' f' hh' => h w' A' c' ?_ z' o' hh'
  · rcases hk.1 with h4 | h4
    · exact .inl h4
    · exact .inr (by omega)
  · have h5 := hlt k ho
    rcases hk.1 with h4 | h4
    · have := hRlo k h4; omega
    · omega
  · have h5 := hlt k ho; have := hRlo k hk; omega
  · exact x0.trans' m' fun k hk hs => by have := hlt k hs; omega
/-- what may be read is put behind one's own -/
theorem OpT.appendL {w0 w2 : World} {x y : Operand} {st tx : TypeId} {bytes m n cc n' : Nat} {B : Option Addr} {R2 : Nat → Prop} {l2 l3 : List α} (hel : ElOk P el E.sz bytes) (ht : P.underlying st = some (.slice el)) (htx : P.underlying tx = some (.slice el))
    (hx : evalO e x = some (.slice A n c)) (hy : evalO e y = some (.slice B m cc)) (hn : n = l.length) (hm : m = l2.length) (h3 : l ++ l2 = l3) (hn' : n' = l3.length) (hown : OwnE E w2 lo el R A c l) (x2 : Ext w2 w) (hsrc : Sl E w R2 B l2)
    (h2 : ∀ k, R2 k → k < w.heap.size → R k ∨ (lo ≤ k ∧ w2.heap.size ≤ k)) (hRlo : ∀ k, R k → k < lo) (x0 : Ext w0 w) (h0 : w0.heap.size ≤ lo ∧ lo ≤ w.heap.size) (hH : Holds ρ H w) (hρ : farR lo w2.heap.size ρ)
    (h63 : l3.length * bytes ≤ 140737488355328 ∧ l3.length ≤ 9223372036854775807)
    (h : ∀ w' A' c', Ext w0 w' → w.heap.size ≤ w'.heap.size → OwnE E w' lo el R A' c' l3 → Holds ρ H w' → k (.v (.slice A' n' c')) ρ H w') :
    OpT P e w ⟨d, .call ⟨.builtin .append, #[x, y], #[st, tx]⟩, t, pos, af, g'⟩ (Lands ρ k) := by
  have hlt := hown.lt
  refine OpT.appendE hel ht htx hx hy hn hm h3 hn' (hown.ext x2) hsrc (fun k hk hks => ⟨?_, fun ho => ?_⟩) h0.2 (fun k hk _ ho => ?_) hH (b := w2.heap.size) (fun k hk => (hlt k hk).2) hρ h63 fun w' A' c' m' z' o' f' hh' => h w' A' c' ?_ z' o' hh'
  · rcases h2 k hk hks with h4 | h4
    · exact .inl h4
    · exact .inr h4.1
  · have h5 := hlt k ho
    rcases h2 k hk hks with h4 | h4
    · have := hRlo k h4; omega
    · omega
  · have h5 := hlt k ho; have := hRlo k hk; omega
  · exact x0.trans' m' fun k hk hs => by have := hlt k hs; omega
variable {C : Cx} {f : Nat} {args : Array Value}
/-- calls, with the world's size -/
theorem vcZ {v : Value} (h : Runs C.P f args w fun u w' => u = v ∧ Ext w w') (hH : Holds ρ H w) (hk : ∀ w', Ext w w' → w.heap.size ≤ w'.heap.size → Holds ρ H w' → k (.v v) ρ H w') : Runs C.P f args w (Lands ρ k) :=
  vcS h hH fun w' x hh => hk w' x x.size hh
theorem vcV {p : Value → World → Prop} (h : Runs C.P f args w fun u w' => Ext w w' ∧ p u w') (hH : Holds ρ H w) (hk : ∀ v w', Ext w w' → w.heap.size ≤ w'.heap.size → Holds ρ H w' → p v w' → k (.v v) ρ H w') : Runs C.P f args w (Lands ρ k) :=
  vcE h hH fun v w' x hh hp => hk v w' x x.size hh hp
/-- boxes, one by one, in blocks that are unlike -/
theorem Holds.of (hnd : ρ.Nodup) (hlt : ∀ g ∈ ρ, g < w.heap.size) (hl : HoldsL ρ w H) (hw : hwf ρ.length H = true) : Holds ρ H w := by
  have key : ∀ (r : List Nat) (i : Nat), i < r.length → r[i]? = some (adr r i) := by
    intro r
    induction r with
    | nil => intro i h; simp at h
    | cons g r ih =>
      intro i h
      cases i with
      | zero => rfl
      | succ i => simpa [adr] using ih i (by simpa using h)
  refine ⟨hl.get, fun i j hi hj hij he => hij ?_, fun i hi => hlt _ (List.mem_of_getElem? (key ρ i hi)), fun k cs hk => hwf.get hw k cs hk⟩
  have h1 := key ρ i hi
  have h2 := key ρ j hj
  rw [he] at h1
  exact (List.getElem?_inj hi hnd).1 (h1.trans h2.symm)
theorem addr_zero (a : Addr) : a.add 0 = a := by
  obtain ⟨b, o, s⟩ := a
  cases s <;> simp [Addr.add]
/-- the beginning of a slice lies where it lies -/
theorem OpT.slicePre {x : Operand} {hi : Option Operand} {st : TypeId} {n m sz : Nat} {j : Int} (hs : P.underlying st = some (.slice el)) (hz : SizeIs P el sz) (hx : evalO e x = some (.slice A n c)) (hh : hiOf e n hi = some j) (hj : 0 ≤ j ∧ j ≤ c) (hm : j.toNat = m)
    (h : K (.slice A m c) w) : OpT P e w ⟨d, .slice st x none hi none, t, pos, af, g'⟩ K := by
  subst hm
  refine OpT.slice hs hz hx (i := 0) rfl hh (by omega) ?_
  have e1 : (if c = 0 then A else A.map (·.add (0 * sz))) = A := by
    split
    · rfl
    · cases A with
      | none => rfl
      | some a => simp [addr_zero]
  simp only [Nat.zero_mul] at e1
  simpa [e1] using h
/-- where what turns the world writes to S alone, in which no box lies -/
theorem vDrwM_mk {n : Nat} {e : SEnv} {live : List Nat} {ops : List Oper} {K : KC} (S : Nat → Prop) (hS : ∀ i, i < ρ.length → ¬ S (adr ρ i)) (ch : List Nat) (ord : OT) (h : drwB ops ch ord = true) (k : ∀ w', Ext w w' → w.heap.size ≤ w'.heap.size → Holds ρ H w' → vDr C S ρ.length n live ops (aheadGo [] ops) ch K ord [] [] e ρ H w') : vDrw C n live ops K e ρ H w :=
  ⟨ch, ord, S, ρ.length, .inr ⟨Nat.le_refl _, hS⟩, h, fun w' x hh => k w' x x.size hh⟩
/-- none of some blocks is in S -/
def outR (S : Nat → Prop) : List Nat → Prop
  | [] => True
  | g :: r => ¬ S g ∧ outR S r
theorem outR.get {S : Nat → Prop} : ∀ {ρ : List Nat}, outR S ρ → ∀ i, i < ρ.length → ¬ S (adr ρ i)
  | [], _, i, h => by simp at h
  | g :: r, h, 0, _ => h.1
  | g :: r, h, i + 1, hi => outR.get h.2 i (by simpa using hi)
end
end Go.Proofs.Bw
