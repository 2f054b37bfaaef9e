/-
  Slices of one's own that may begin within their block: read, appended to, cut, written.
-/
import Derived.Test.YtnoghkpofpaeeaaGreatOwn2
import Derived.Deep.MidRow
namespace Go.Proofs.Bw
open Go Go.RowKit
set_option linter.unusedVariables false
set_option linter.unusedSimpArgs false

section
variable {w w' : World} {lo el sz c : Nat} {A : Option Addr} {css : List (List Value)}
theorem frozen_mod {S : Nat → Prop} (hm : Mod S w w') {p : Addr} (hp : p.block < w.heap.size) (hS : ¬ S p.block) : w'.frozen? p = w.frozen? p := by
  unfold World.frozen?; rw [hm.block _ hp hS]
theorem cellS_mod {S : Nat → Prop} (hm : Mod S w w') {p : Addr} (hp : p.block < w.heap.size) (hS : ¬ S p.block) : w'.cell? p = w.cell? p := World.cell?_of_block (hm.block p.block hp hS)
theorem setCells_upd (g : Nat) : ∀ (vs : List Value) (o : Nat) (w : World), Upd g w (w.setCells g o vs)
  | [], _, w => Mod.refl _ w
  | v :: r, o, w => (Upd.setCell w ⟨g, o, none⟩ v).trans (setCells_upd g r (o + 1) _)
theorem setCells_size (g : Nat) : ∀ (vs : List Value) (o : Nat) (w : World), (w.setCells g o vs).heap.size = w.heap.size
  | [], _, _ => rfl
  | v :: r, o, w => by rw [World.setCells, setCells_size g r]; simp [World.setCell]
theorem setCells_ty (g : Nat) {k : Nat} {t : TypeId} : ∀ (vs : List Value) (o : Nat) (w : World), tyAt w k t → tyAt (w.setCells g o vs) k t
  | [], _, _, h => h
  | v :: r, o, w, h => setCells_ty g r (o + 1) _ (h.setCell _ _)
/-- room in a block: cells that are there, none frozen -/
def Room (w : World) (g off n : Nat) : Prop := ∀ j, j < n → (w.cell? ⟨g, off + j, none⟩).isSome = true ∧ w.frozen? ⟨g, off + j, none⟩ = false
theorem Room.set {g off n : Nat} (h : Room w g off n) (g' o : Nat) (vs : List Value) : Room (w.setCells g' o vs) g off n := fun j hj =>
  ⟨World.isSome_setCells g' vs o w _ (h j hj).1, by rw [World.frozen?_setCells]; exact (h j hj).2⟩
theorem zero_mem {zc : Array Value} {m : Nat} {u : Value} (h : u ∈ (Builtin.zeroCells zc m).toList) : u ∈ zc.toList := by
  simp only [Builtin.zeroCells, Array.toList_map, List.mem_map] at h
  obtain ⟨i, hi, rfl⟩ := h
  have h0 : 0 < zc.size := by
    rcases Nat.eq_zero_or_pos zc.size with h1 | h1
    · rw [h1] at hi; simp at hi
    · exact h1
  have hlt := Nat.mod_lt i h0
  rw [getElem!_pos zc _ hlt]
  simp
def OwnO (w : World) (lo el sz : Nat) (A : Option Addr) (c : Nat) (css : List (List Value)) : Prop :=
  (∀ r ∈ css, r.length = sz) ∧ ((A = none ∧ c = 0 ∧ css = []) ∨ ∃ g off, A = some ⟨g, off, none⟩ ∧ lo ≤ g ∧ g < w.heap.size ∧ tyAt w g el ∧ css.length ≤ c ∧ c ≤ 9223372036854775807 ∧ RowAt w ⟨g, off, none⟩ css.flatten ∧ Room w g off (c * sz))
theorem OwnO.nil (w : World) (lo el sz : Nat) : OwnO w lo el sz none 0 [] := ⟨fun r h => (by cases h), .inl ⟨rfl, rfl, rfl⟩⟩
theorem OwnO.mod {S : Nat → Prop} (h : OwnO w lo el sz A c css) (hm : Mod S w w') (hS : ∀ a, A = some a → ¬ S a.block) : OwnO w' lo el sz A c css := by
  refine ⟨h.1, ?_⟩
  rcases h.2 with h0 | ⟨g, off, rfl, h1, h2, h3, h4, h5, h6, h7⟩
  · exact .inl h0
  · have hg := hS _ rfl
    refine .inr ⟨g, off, rfl, h1, Nat.lt_of_lt_of_le h2 hm.size, h3.mod hm hg, h4, h5, h6.mod hm hg, fun j hj => ?_⟩
    rw [cellS_mod hm (p := ⟨g, off + j, none⟩) h2 hg, frozen_mod hm (p := ⟨g, off + j, none⟩) h2 hg]
    exact h7 j hj
theorem OwnO.ext (h : OwnO w lo el sz A c css) (hm : Ext w w') : OwnO w' lo el sz A c css := h.mod hm fun _ _ h => h
theorem OwnO.block (h : OwnO w lo el sz A c css) {a : Addr} (ha : A = some a) : lo ≤ a.block ∧ a.block < w.heap.size := by
  rcases h.2 with ⟨h0, _⟩ | ⟨g, off, h0, h1, h2, _⟩
  · rw [ha] at h0; cases h0
  · rw [ha] at h0; injection h0 with h0; subst h0; exact ⟨h1, h2⟩
theorem OwnO.ty (h : OwnO w lo el sz A c css) {a : Addr} (ha : A = some a) : tyAt w a.block el := by
  rcases h.2 with ⟨h0, _⟩ | ⟨g, off, h0, h1, h2, h3, _⟩
  · rw [ha] at h0; cases h0
  · rw [ha] at h0; injection h0 with h0; subst h0; exact h3
theorem OwnO.upd {g : Nat} (h : OwnO w lo el sz A c css) (hm : Upd g w w') (hg : g < lo) : OwnO w' lo el sz A c css := h.mod hm fun a ha hs => by
  have := (h.block ha).1
  have h2 : a.block = g := hs
  omega
theorem OwnO.lower {lo' : Nat} (h : OwnO w lo el sz A c css) (hl : lo' ≤ lo) : OwnO w lo' el sz A c css := by
  refine ⟨h.1, ?_⟩
  rcases h.2 with h0 | ⟨g, off, h0, h1, h2, h3⟩
  · exact .inl h0
  · exact .inr ⟨g, off, h0, by omega, h2, h3⟩
theorem OwnO.le (h : OwnO w lo el sz A c css) : css.length ≤ c ∧ c ≤ 9223372036854775807 := by
  rcases h.2 with ⟨_, h1, h2⟩ | ⟨g, off, h0, h1, h2, h3, h4, h5, _⟩
  · subst h1; subst h2; exact ⟨Nat.le_refl _, by omega⟩
  · exact ⟨h4, h5⟩
theorem flat_at {css : List (List Value)} (hl : ∀ r ∈ css, r.length = sz) {i j : Nat} {r : List Value} {u : Value} (hi : css[i]? = some r) (hj : r[j]? = some u) : css.flatten[i * sz + j]? = some u := by
  induction css generalizing i with
  | nil => simp at hi
  | cons a l ih =>
    have ha := hl a List.mem_cons_self
    cases i with
    | zero =>
      simp only [List.getElem?_cons_zero, Option.some.injEq] at hi
      subst hi
      rw [List.flatten_cons, Nat.zero_mul, Nat.zero_add, List.getElem?_append_left (List.getElem?_eq_some_iff.1 hj).1]
      exact hj
    | succ i =>
      rw [List.getElem?_cons_succ] at hi
      have := ih (fun r hr => hl r (List.mem_cons_of_mem _ hr)) hi
      rw [List.flatten_cons, List.getElem?_append_right (by rw [ha, Nat.add_mul]; omega), ha, show (i + 1) * sz + j - sz = i * sz + j by rw [Nat.add_mul]; omega]
      exact this
theorem OwnO.rd (h : OwnO w lo el sz A c css) : Rd w (fun k => lo ≤ k ∧ k < w.heap.size) sz A css := fun i r hi => by
  rcases h.2 with ⟨_, _, h2⟩ | ⟨g, off, h0, h1, h2, h3, h4, h5, h6, h7⟩
  · subst h2; simp at hi
  · refine ⟨⟨g, off, none⟩, h0, ⟨h1, h2⟩, fun j u hu => ?_⟩
    have := h6 (i * sz + j) u (flat_at h.1 hi hu)
    rw [Addr.add_lit] at this ⊢
    rw [Addr.add_lit, Nat.add_assoc]
    exact this
theorem OwnO.of_row {v : Value} (hl : ∀ r ∈ css, r.length = sz) (ho : w.ownsRow lo el sz v css.length css.flatten) : ∃ A' c', v = .slice A' css.length c' ∧ OwnO w lo el sz A' c' css := by
  rcases ho.2 with ⟨h1, h2⟩ | ⟨g, cap, cur, h1, h2, h3, h4, h5, h6, h7⟩
  · have : css = [] := List.eq_nil_of_length_eq_zero h2
    subst this
    exact ⟨none, 0, h1, OwnO.nil _ _ _ _⟩
  · refine ⟨some ⟨g, 0, none⟩, cap, h1, hl, .inr ⟨g, 0, rfl, h2, (Array.getElem?_eq_some_iff.1 h3).1, ⟨cur, _, h3⟩, h4, h5, ?_, fun j hj => ?_⟩⟩
    · exact ho.cells (g := g) (by rw [h1]; rfl)
    · rw [cell_of_row w g _ cur el (0, 0) h3]
      refine ⟨?_, by simp [World.frozen?, h3]⟩
      rw [Nat.zero_add, Array.getElem?_eq_getElem (by omega)]; rfl
theorem row_out {g o o1 : Nat} {vs r : List Value} (h : RowAt w ⟨g, o1, none⟩ r) (hd : o1 + r.length ≤ o ∨ o + vs.length ≤ o1) : RowAt (w.setCells g o vs) ⟨g, o1, none⟩ r := fun j u hu => by
  have hj := (List.getElem?_eq_some_iff.1 hu).1
  rw [World.cell?_setCells_out g vs o w _ (fun _ _ => by rw [Addr.add_lit]; simp only; omega)]
  exact h j u hu
theorem row_in {g o n : Nat} {vs : List Value} (h : Room w g o n) (hn : vs.length ≤ n) : RowAt (w.setCells g o vs) ⟨g, o, none⟩ vs := fun j u hu => by
  obtain ⟨hj, he⟩ := List.getElem?_eq_some_iff.1 hu
  rw [Addr.add_lit, World.cell?_setCells_in g vs o w (fun j hj => (h j (by omega)).1) j hj, he]
theorem Room.drop {g off n k : Nat} (h : Room w g off n) (hk : k ≤ n) : Room w g (off + k) (n - k) := fun j hj => by
  rw [Nat.add_assoc]; exact h (k + j) (by omega)
theorem OwnO.of_rd {g off : Nat} (hl : ∀ r ∈ css, r.length = sz) (h1 : lo ≤ g) (h2 : g < w.heap.size) (h3 : tyAt w g el) (h4 : css.length ≤ c) (h5 : c ≤ 9223372036854775807)
    (h6 : ∀ i r, css[i]? = some r → RowAt w ⟨g, off + i * sz, none⟩ r) (h7 : Room w g off (c * sz)) : OwnO w lo el sz (some ⟨g, off, none⟩) c css := by
  refine ⟨hl, .inr ⟨g, off, rfl, h1, h2, h3, h4, h5, ?_, h7⟩⟩
  have hr : Rd w (fun _ => True) sz (some ⟨g, off, none⟩) css := fun i r hi => ⟨_, rfl, trivial, by rw [Addr.add_lit]; exact h6 i r hi⟩
  exact hr.flat hl rfl
theorem OwnO.rows {g off : Nat} (h : OwnO w lo el sz (some ⟨g, off, none⟩) c css) {i : Nat} {r : List Value} (hi : css[i]? = some r) : RowAt w ⟨g, off + i * sz, none⟩ r := by
  obtain ⟨a, ha, _, h3⟩ := h.rd i r hi
  injection ha with ha
  subst ha
  rwa [Addr.add_lit] at h3
theorem OwnO.parts {A : Option Addr} (h : OwnO w lo el sz A c css) (h0 : css ≠ []) : ∃ g off, A = some ⟨g, off, none⟩ ∧ lo ≤ g ∧ g < w.heap.size ∧ tyAt w g el ∧ Room w g off (c * sz) := by
  rcases h.2 with ⟨_, _, h2⟩ | ⟨g, off, h0, h1, h2, h3, _, _, _, h7⟩
  · exact absurd h2 h0
  · exact ⟨g, off, h0, h1, h2, h3, h7⟩
/-- one row is written -/
theorem OwnO.setRow {g off i : Nat} {r : List Value} (h : OwnO w lo el sz (some ⟨g, off, none⟩) c css) (hi : i < css.length) (hr : r.length = sz) : OwnO (w.setCells g (off + i * sz) r) lo el sz (some ⟨g, off, none⟩) c (css.set i r) := by
  obtain ⟨g', off', e, h1, h2, h3, h7⟩ := h.parts (by intro e; subst e; simp at hi)
  injection e with e; injection e with e1 e2; subst e1; subst e2
  have hle := h.le
  have hm : (i + 1) * sz ≤ c * sz := Nat.mul_le_mul_right sz (by omega)
  rw [Nat.add_mul, Nat.one_mul] at hm
  refine OwnO.of_rd (fun q hq => ?_) h1 (by rw [setCells_size]; exact h2) (setCells_ty g r _ w h3) (by rw [List.length_set]; exact hle.1) hle.2 (fun q x hx => ?_) (h7.set _ _ _)
  · rcases List.mem_or_eq_of_mem_set hq with hq | hq
    · exact h.1 q hq
    · rw [hq]; exact hr
  · by_cases hq : i = q
    · subst hq
      rw [List.getElem?_set_self hi] at hx
      cases hx
      exact row_in (h7.drop (k := i * sz) (by omega)) (by omega)
    · rw [List.getElem?_set_ne hq] at hx
      refine row_out (h.rows hx) ?_
      rw [h.1 x (List.mem_of_getElem? hx), hr]
      rcases Nat.lt_or_ge q i with h8 | h8
      · left
        have : (q + 1) * sz ≤ i * sz := Nat.mul_le_mul_right sz h8
        rw [Nat.add_mul, Nat.one_mul] at this; omega
      · right
        have : (i + 1) * sz ≤ q * sz := Nat.mul_le_mul_right sz (by omega)
        rw [Nat.add_mul, Nat.one_mul] at this; omega
theorem OwnO.take (h : OwnO w lo el sz A c css) (n : Nat) : OwnO w lo el sz A c (css.take n) := by
  have hl := h.1
  rcases h.2 with ⟨h0, h1, h2⟩ | ⟨g, off, rfl, h1, h2, h3, h4, h5, h6, h7⟩
  · subst h2; subst h0; subst h1; rw [List.take_nil]; exact OwnO.nil _ _ _ _
  · refine OwnO.of_rd (fun r hr => hl r (List.mem_of_mem_take hr)) h1 h2 h3 (by rw [List.length_take]; omega) h5 (fun i r hi => ?_) h7
    refine h.rows ?_
    rw [List.getElem?_take] at hi
    split at hi
    · exact hi
    · cases hi
theorem OwnO.drop (h : OwnO w lo el sz A c css) (i : Nat) (hi : i ≤ css.length) : OwnO w lo el sz (if c = i then A else A.map (·.add (i * sz))) (c - i) (css.drop i) := by
  have hl := h.1
  rcases h.2 with ⟨h0, h1, h2⟩ | ⟨g, off, rfl, h1, h2, h3, h4, h5, h6, h7⟩
  · subst h2; subst h0; subst h1
    simp only [List.length_nil] at hi
    have : i = 0 := by omega
    subst this
    exact OwnO.nil _ _ _ _
  · by_cases hc : c = i
    · rw [if_pos hc]
      have hd : css.drop i = [] := List.drop_eq_nil_of_le (by omega)
      rw [hd, show c - i = 0 by omega]
      exact OwnO.of_rd (fun r hr => by cases hr) h1 h2 h3 (Nat.le_refl _) (by omega) (fun i r hi => by simp at hi) (fun j hj => by simp at hj)
    · rw [if_neg hc]
      simp only [Option.map_some, Addr.add_lit]
      refine OwnO.of_rd (fun r hr => hl r (List.mem_of_mem_drop hr)) h1 h2 h3 (by rw [List.length_drop]; omega) (by omega) (fun q r hq => ?_) ?_
      · rw [List.getElem?_drop] at hq
        have := h.rows hq
        rw [Nat.add_mul, ← Nat.add_assoc] at this
        exact this
      · have := h7.drop (k := i * sz) (Nat.mul_le_mul_right sz (by omega))
        rw [← Nat.sub_mul] at this
        exact this
variable {P : Program} {e : Env} {K : Value → World → Prop} {d : Option Tmp} {t : TypeId} {pos : String} {af : Array Edge} {g' : Option (Nat × Bool)}
theorem OpT.appendO1 {x y : Operand} {st : TypeId} {bytes b n : Nat} {r : List Value} {css' : List (List Value)} {n' : Nat} (hel : ElOk P el sz bytes) (ht : P.underlying st = some (.slice el))
    (hx : evalO e x = some (.slice A n c)) (hy : evalO e y = some (.slice (some ⟨b, 0, none⟩) 1 1)) (hown : OwnO w lo el sz A c css) (hb : Box w b r) (hn : n = css.length) (hr : r.length = sz) (h1 : r.all Value.oneCell' = true) (hcss : css ++ [r] = css') (hn' : css'.length = n')
    (h63 : css'.length * bytes ≤ 140737488355328 ∧ css'.length ≤ 9223372036854775807) (hlo : lo ≤ w.heap.size)
    (h : ∀ w' A' c', Mod (ownOf A) w w' → OwnO w' lo el sz A' c' css' → (∀ k, ownOf A' k → ownOf A k ∨ w.heap.size ≤ k) → K (.slice A' n' c') w') :
    OpT P e w ⟨d, .call ⟨.builtin .append, #[x, y], #[st, st]⟩, t, pos, af, g'⟩ K := by
  subst hn; subst hcss; subst hn'
  have hs := hb.src (P := P) (sz := sz) (tx := st) (n := 1) (c := 1) ht (by simpa using hr) (fun u hu => List.all_eq_true.1 h1 u hu)
  obtain ⟨i, z, hi, hz, hsz, hby, hzs⟩ := hel.ok
  have hpos := hel.pos
  subst hsz
  have hlen : (css ++ [r]).length = css.length + 1 := by simp
  rw [hlen] at h63
  have hall : ∀ q ∈ css ++ [r], q.length = i.size := fun q hq => (List.mem_append.1 hq).elim (hown.1 q) (fun h => by rw [List.mem_singleton.1 h]; exact hr)
  have hfl : (css ++ [r]).flatten.length = (css.length + 1) * i.size := by rw [flat_len _ hall, hlen]
  have grown : ∀ (old : Nat), old < css.length + 1 → ∃ A' c', (Value.slice (some ⟨w.heap.size, 0, none⟩) (css.length + 1) (grownCap w (css.length + 1) old el)) = .slice A' (css ++ [r]).length c' ∧
      OwnO (w.drew.alloc (.cells ((css.flatten ++ r).toArray ++ Builtin.zeroCells z.cells (grownCap w (css.length + 1) old el - (css.length + 1))) el)) lo el i.size A' c' (css ++ [r]) ∧ A' = some ⟨w.heap.size, 0, none⟩ := by
    intro old ho
    have hge := grownCap_ge w (css.length + 1) old el
    have hcm : grownCap w (css.length + 1) old el ≤ maxLen := grownCap_le_maxLen w (css.length + 1) old el (by simp only [maxLen]; omega)
    have hfr : css.flatten ++ r = (css ++ [r]).flatten := by simp
    have hrow : (w.drew.alloc (.cells ((css.flatten ++ r).toArray ++ Builtin.zeroCells z.cells (grownCap w (css.length + 1) old el - (css.length + 1))) el)).ownsRow lo el i.size (.slice (some ⟨w.heap.size, 0, none⟩) (css.length + 1) (grownCap w (css.length + 1) old el)) (css ++ [r]).length (css ++ [r]).flatten := by
      refine ⟨by rw [hfl, hlen], .inr ⟨w.heap.size, _, _, by rw [hlen], hlo, heap_alloc_new w.drew _, by rw [hlen]; exact hge, hcm, ?_, ?_⟩⟩
      · rw [hfr]
        simp only [Array.size_append, List.size_toArray, size_zeroCells, hzs, hfl, ← Nat.add_mul]
        congr 1
        omega
      · rw [hfr]
        simp only [Array.toList_append]
        rw [hlen, ← hfl]
        exact List.take_left
    obtain ⟨A', c', e1, hO⟩ := OwnO.of_row hall hrow
    refine ⟨A', c', e1, hO, ?_⟩
    injection e1 with e1
    exact e1.symm
  have mg : ∀ (o : Obj), Ext w (w.drew.alloc o) := fun o => ⟨rfl, rfl, rfl, by simp, fun k hk _ => Below.heap_alloc w.drew o k hk⟩
  rcases hown.2 with ⟨h0, h2, h3⟩ | ⟨g, off, h0, g1, g2, g3, g4, g5, g6, g7⟩
  · subst h0; subst h2; subst h3
    have hrun := run_append_grow_src (P := P) w st st t el i z ht hi hz none 0 0 [] (run_firstCells_none w.drew i.size 0 0 0) (.slice (some ⟨b, 0, none⟩) 1 1) 1 r hs (by omega) (by omega) (growslice_fits (by omega) (by rw [hby]; simpa using h63.1))
    obtain ⟨A', c', e1, hO, hA⟩ := grown 0 (by omega)
    refine OpT.value (fun ρ hρ => ?_) (h _ A' c' ((mg _).mono fun _ h => h.elim) hO (fun k ⟨a, ha, hk⟩ => .inr (by rw [hA] at ha; injection ha with ha; subst ha; exact Nat.le_of_eq hk.symm)))
    simp only [List.length_nil, Nat.zero_add, List.flatten_nil] at e1 hrun ⊢
    rw [← e1]
    simp [execOp, resolve, invoke, builtin, hρ x _ hx, hρ y _ hy, hrun]
  · subst h0
    have hml : i.size * css.length = css.length * i.size := Nat.mul_comm _ _
    by_cases hroom : css.length + 1 ≤ c
    · have hm : (css.length + 1) * i.size ≤ c * i.size := Nat.mul_le_mul_right _ hroom
      rw [Nat.add_mul, Nat.one_mul] at hm
      have hrm := (g7.drop (k := css.length * i.size) (by omega))
      have hrun := run_append_room_src (P := P) (w := w) st st t el i ht hi g off css.length c (.slice (some ⟨b, 0, none⟩) 1 1) 1 r hs hroom (fun j hj => (hrm j (by omega)).1) (fun j hj => (hrm j (by omega)).2)
      refine OpT.value (fun ρ hρ => ?_) (h (w.setCells g (off + css.length * i.size) r) (some ⟨g, off, none⟩) c ((setCells_upd g r _ w).mono fun k hk => ⟨_, rfl, hk⟩) ?_ (fun k hk => .inl hk))
      · simp [execOp, resolve, invoke, builtin, hρ x _ hx, hρ y _ hy, hrun]
      · refine OwnO.of_rd hall g1 (by rw [setCells_size]; exact g2) (setCells_ty g r _ w g3) (by rw [hlen]; exact hroom) g5 (fun q x hq => ?_) (g7.set _ _ _)
        rcases Nat.lt_or_ge q css.length with hq' | hq'
        · rw [List.getElem?_append_left hq'] at hq
          refine row_out (hown.rows hq) (.inl ?_)
          rw [hown.1 x (List.mem_of_getElem? hq)]
          have : (q + 1) * i.size ≤ css.length * i.size := Nat.mul_le_mul_right _ hq'
          rw [Nat.add_mul, Nat.one_mul] at this; omega
        · rw [List.getElem?_append_right hq'] at hq
          have hq0 : q = css.length := by
            have := (List.getElem?_eq_some_iff.1 hq).1
            simp at this; omega
          subst hq0
          rw [Nat.sub_self] at hq
          simp only [List.getElem?_cons_zero, Option.some.injEq] at hq
          subst hq
          exact row_in hrm (by omega)
    · have hold := run_firstCells_some (P := P) w.drew i.size css.length ⟨g, off, none⟩ css.length c css.flatten (flat_len _ hown.1) (by intro j u hu; simpa using g6 j u hu)
      have hrun := run_append_grow_src (P := P) w st st t el i z ht hi hz (some ⟨g, off, none⟩) css.length c css.flatten hold (.slice (some ⟨b, 0, none⟩) 1 1) 1 r hs (by omega) (by omega) (growslice_fits (by omega) (by rw [hby]; exact h63.1))
      obtain ⟨A', c', e1, hO, hA⟩ := grown c (by omega)
      refine OpT.value (fun ρ hρ => ?_) (h _ A' c' ((mg _).mono fun _ h => h.elim) hO (fun k ⟨a, ha, hk⟩ => .inr (by rw [hA] at ha; injection ha with ha; subst ha; exact Nat.le_of_eq hk.symm)))
      rw [← e1]
      simp [execOp, resolve, invoke, builtin, hρ x _ hx, hρ y _ hy, hrun]
/-- a part of one's own, from one place on -/
theorem OpT.sliceO {x : Operand} {lo' hi : Option Operand} {st : TypeId} {n m : Nat} {i j : Int} (hs : P.underlying st = some (.slice el)) (hz : SizeIs P el sz) (hx : evalO e x = some (.slice A n c)) (hl : loOf e lo' = some i) (hh : hiOf e n hi = some j)
    (hO : OwnO w lo el sz A c css) (hil : i.toNat ≤ css.length) (hb : 0 ≤ i ∧ i ≤ j ∧ j ≤ c) (hm : j.toNat - i.toNat = m) (h : ∀ A', (∀ k, ownOf A' k → ownOf A k) → OwnO w lo el sz A' (c - i.toNat) (css.drop i.toNat) → K (.slice A' m (c - i.toNat)) w) : OpT P e w ⟨d, .slice st x lo' hi none, t, pos, af, g'⟩ K := by
  subst hm
  refine OpT.slice hs hz hx hl hh hb (h _ (fun k ⟨a, ha, hk⟩ => ?_) (hO.drop _ hil))
  split at ha
  · exact ⟨a, ha, hk⟩
  · cases A with
    | none => cases ha
    | some p =>
      simp only [Option.map_some, Option.some.injEq] at ha
      exact ⟨p, rfl, by rw [hk, ← ha, block_add]⟩
/-- a whole value is stored into a row of one's own -/
theorem OpT.storeO {x y : Operand} {u : TypeId} {i : Nat} {a : Addr} {v : Value} {r : List Value} (hz : SizeIs P u sz) (hA : A = some a) (hx : evalO e x = some (.pointer (some (a.add (i * sz))))) (hy : evalO e y = some v) (hv : v.cells.toList = r) (hr : r.length = sz) (h1 : r.all Value.oneCell' = true)
    (hO : OwnO w lo el sz A c css) (hi : i < css.length) (h : ∀ w', Mod (ownOf A) w w' → w'.heap.size = w.heap.size → OwnO w' lo el sz A c (css.set i r) → K undef w') : OpT P e w ⟨d, .store u x y, t, pos, af, g'⟩ K := by
  obtain ⟨g, off, h0, g1, g2, g3, g7⟩ := hO.parts (by intro e; subst e; simp at hi)
  rw [hA] at h0; injection h0 with h0; subst h0; subst hA
  have hle := hO.le
  have hm : (i + 1) * sz ≤ c * sz := Nat.mul_le_mul_right sz (by omega)
  rw [Nat.add_mul, Nat.one_mul] at hm
  have hrm := g7.drop (k := i * sz) (by omega)
  have hs := run_storeCells_cells (P := P) g (off + i * sz) r 0 w (fun j hj => by rw [Nat.add_zero]; exact (hrm j (by omega)).1) (fun j hj => by rw [Nat.add_zero]; exact (hrm j (by omega)).2) (fun u hu => List.all_eq_true.1 h1 u hu)
  rw [Nat.add_zero] at hs
  refine OpT.skip (w' := w.setCells g (off + i * sz) r) (fun ρ hρ => ?_) (h _ ((setCells_upd g r _ w).mono fun k hk => ⟨_, rfl, hk⟩) (setCells_size _ _ _ _) (hO.setRow hi hr))
  have e2 : v.cells.size = sz := by rw [← hr, ← hv]; simp
  rw [Addr.add_lit] at hx
  simp [execOp, hρ x _ hx, hρ y _ hy, Instr.storeAt, Instr.sureAddr, storeVar, hz w, hv, e2, hs]
/-- what is behind a place is cleared -/
theorem OpT.clearO {x : Operand} {st : TypeId} {bytes i m : Nat} {z : Value} (ht : P.underlying st = some (.slice el)) (hz : ZeroIs P el z) (hzs : z.cells.size = sz) (hz1 : z.cells.toList.all Value.oneCell' = true)
    (hx : evalO e x = some (.slice (if c = i then A else A.map (·.add (i * sz))) m (c - i))) (hO : OwnO w lo el sz A c css) (hi : i + m = css.length) (h : ∀ w', Mod (ownOf A) w w' → w'.heap.size = w.heap.size → OwnO w' lo el sz A c (css.take i) → K (.tuple #[]) w') :
    OpT P e w ⟨d, .call ⟨.builtin .clear, #[x], #[st]⟩, t, pos, af, g'⟩ K := by
  rcases Nat.eq_zero_or_pos m with h0 | h0
  · subst h0
    refine OpT.value (w' := w) (fun ρ hρ => ?_) (h w (Mod.refl _ _) rfl (hO.take _))
    generalize (if c = i then A else A.map (·.add (i * sz))) = A' at hx
    cases A' <;> simp [execOp, resolve, invoke, builtin, Builtin.clear_, hρ x _ hx, run_underlying ht]
  · have hle := hO.le
    obtain ⟨g, off, h0', g1, g2, g3, g7⟩ := hO.parts (by intro e; subst e; simp at hi; omega)
    subst h0'
    rw [if_neg (by omega)] at hx
    simp only [Option.map_some, Addr.add_lit] at hx
    have hlz : (Builtin.zeroCells z.cells m).toList.length = m * sz := by simp [size_zeroCells, hzs]
    have hm : (i + m) * sz ≤ c * sz := Nat.mul_le_mul_right sz (by omega)
    rw [Nat.add_mul] at hm
    have hrm := g7.drop (k := i * sz) (by omega)
    have hs := run_storeCells_cells (P := P) g (off + i * sz) (Builtin.zeroCells z.cells m).toList 0 w (fun j hj => by rw [Nat.add_zero]; exact (hrm j (by omega)).1) (fun j hj => by rw [Nat.add_zero]; exact (hrm j (by omega)).2) (fun u hu => by
      refine List.all_eq_true.1 hz1 u ?_
      exact zero_mem hu)
    rw [Nat.add_zero] at hs
    refine OpT.value (w' := w.setCells g (off + i * sz) (Builtin.zeroCells z.cells m).toList) (fun ρ hρ => ?_) (h _ ((setCells_upd g _ _ w).mono fun k hk => ⟨_, rfl, hk⟩) (setCells_size _ _ _ _) ?_)
    · obtain ⟨m', rfl⟩ : ∃ m', m = m' + 1 := ⟨m - 1, by omega⟩
      simp [execOp, resolve, invoke, builtin, Builtin.clear_, hρ x _ hx, run_underlying ht, hz w, hs]
    · refine OwnO.of_rd (fun r hr => hO.1 r (List.mem_of_mem_take hr)) g1 (by rw [setCells_size]; exact g2) (setCells_ty g _ _ w g3) (by rw [List.length_take]; omega) hle.2 (fun q r hq => ?_) (g7.set _ _ _)
      rw [List.getElem?_take] at hq
      split at hq
      · rename_i hqi
        refine row_out (hO.rows hq) (.inl ?_)
        rw [hO.1 r (List.mem_of_getElem? hq)]
        have : (q + 1) * sz ≤ i * sz := Nat.mul_le_mul_right sz hqi
        rw [Nat.add_mul, Nat.one_mul] at this; omega
      · cases hq
end
end Go.Proofs.Bw
