/-
  More of slices: appending whatever is appended, rows that are only read, making, cutting, texts out of bytes.
-/
import Derived.Test.YtnoghkpofpaeeaaGreatUse
import Derived.Test.YtnoghkpofpaeeaaGreatOwn
import Derived.Deep.AppendSrc
import Derived.Deep.Upon
import Derived.Laws.MakeOwn
import Derived.Laws.BytesString
namespace Go.Proofs.Bw
open Go Go.RowKit

section
variable {P : Program} (w : World)
theorem run_append_room_own {t tx ty e : TypeId} {i : TypeInfo} (ht : P.underlying t = some (.slice e)) (hi : P.info? e = some i)
    (g sLen sCap : Nat) (cur : Array Value) (hg : w.heap[g]? = some (.cells cur e (0, 0))) {x : Value} {m : Nat} {news : List Value} (hs : Go.Src P i.size tx x m news w)
    (hroom : sLen + m ≤ sCap) (hfit : sLen * i.size + news.length ≤ cur.size) :
    (Builtin.append_ #[t, tx] ty #[.slice (some ⟨g, 0, none⟩) sLen sCap, x]).run P w =
      .ok (.slice (some ⟨g, 0, none⟩) (sLen + m) sCap) (w.setRow g (cur.toList.take (sLen * i.size) ++ news ++ cur.toList.drop (sLen * i.size + news.length)).toArray) := by
  have hst := run_storeCells_at P g (sLen * i.size) e news 0 cur w hg (by simpa using hfit) hs.one
  simp only [Nat.add_zero] at hst
  rcases hs.kind with ⟨e', hk⟩ | hk <;> simp [Builtin.append_, run_underlying ht, run_underlying hk, sizeOf, typeInfo, hi, hs.len, hroom, hs.cells, Addr.add_lit, hst]

theorem run_append_ownS {base : Nat} {t tx ty e : TypeId} {i : TypeInfo} {z : Value} {size bytes : Nat} (ht : P.underlying t = some (.slice e)) (hi : P.info? e = some i) (hz : i.zero = some z)
    (hsize : i.size = size) (hby : i.bytes = bytes) (hzs : z.cells.size = size) {v : Value} {n : Nat} {xs : List Value} (hown : w.ownsRow base e size v n xs)
    {x : Value} {m : Nat} {news : List Value} (hs : Go.Src P size tx x m news w) (h63 : n + m ≤ maxLen) (hbytes : (n + m) * bytes ≤ 140737488355328) (hbase : base ≤ w.heap.size) (hsz : 0 < size) :
    ∃ v' w', (Builtin.append_ #[t, tx] ty #[v, x]).run P w = .ok v' w' ∧ w'.ownsRow base e size v' (n + m) (xs ++ news) ∧ w.grownBy w' v.ownBlock ∧ (∀ k, v'.ownBlock = some k → v.ownBlock = some k ∨ w.heap.size ≤ k) := by
  subst hsize
  subst hby
  have hl := hs.newsLen
  have hsmall : n + m ≤ 9223372036854775807 := by simp only [maxLen] at h63; omega
  have hlen : (xs ++ news).length = (n + m) * i.size := by rw [List.length_append, hown.1, hl, Nat.add_mul]
  have grown : ∀ (old : Nat), old < n + m → ∀ (row : Option Nat),
      (w.drew.alloc (.cells ((xs ++ news).toArray ++ Builtin.zeroCells z.cells (grownCap w (n + m) old e - (n + m))) e)).ownsRow base e i.size
        (.slice (some ⟨w.heap.size, 0, none⟩) (n + m) (grownCap w (n + m) old e)) (n + m) (xs ++ news) ∧
      w.grownBy (w.drew.alloc (.cells ((xs ++ news).toArray ++ Builtin.zeroCells z.cells (grownCap w (n + m) old e - (n + m))) e)) row := by
    intro old ho row
    have hge := grownCap_ge w (n + m) old e
    have hcm : grownCap w (n + m) old e ≤ maxLen := grownCap_le_maxLen w (n + m) old e h63
    refine ⟨⟨hlen, .inr ⟨w.heap.size, _, _, rfl, hbase, heap_alloc_new w.drew _, hge, hcm, ?_, ?_⟩⟩, ⟨rfl, rfl, rfl, by simp, fun k hk _ => Below.heap_alloc w.drew _ k hk⟩⟩
    · simp only [Array.size_append, List.size_toArray, size_zeroCells, hzs, hlen, ← Nat.add_mul]
      congr 1
      omega
    · simp only [Array.toList_append]
      rw [← hlen]
      exact List.take_left
  rcases hown.2 with ⟨rfl, rfl⟩ | ⟨g, cap, cur, rfl, hbg, hg, hnc, hcm, hcs, htake⟩
  · have hx : xs = [] := List.eq_nil_of_length_eq_zero (by simpa using hown.1)
    subst hx
    by_cases hm : m = 0
    · subst hm
      have hn : news = [] := List.eq_nil_of_length_eq_zero (by simpa using hl)
      subst hn
      exact ⟨_, _, run_append_nothing w t tx ty e i ht hi none 0 0 (Nat.le_refl _) x hs, World.ownsRow_nil w base e i.size, ⟨rfl, rfl, rfl, Nat.le_refl _, fun _ _ _ => rfl⟩, fun k hk => .inl hk⟩
    · have hr := run_append_grow_src (P := P) w t tx ty e i z ht hi hz none 0 0 [] (run_firstCells_none w.drew i.size 0 0 0) x m news hs (by omega) (by omega) (growslice_fits (by omega) hbytes)
      have hgr := grown 0 (by omega) (Value.ownBlock (.slice none 0 0))
      exact ⟨_, _, hr, hgr.1, hgr.2, fun k hk => .inr (by simp only [Value.ownBlock, Option.some.injEq] at hk; omega)⟩
  · by_cases hroom : n + m ≤ cap
    · have hfit : n * i.size + news.length ≤ cur.size := by rw [hl, hcs, ← Nat.add_mul]; exact Nat.mul_le_mul_right _ hroom
      have hr := run_append_room_own (P := P) (ty := ty) w ht hi g n cap cur hg hs hroom hfit
      refine ⟨_, _, hr, ⟨hlen, .inr ⟨g, cap, _, rfl, hbg, setRow_heap w g cur _ e _ hg, hroom, hcm, ?_, ?_⟩⟩, ⟨rfl, rfl, rfl, by simp, fun k _ hk => setRow_other w g k _ (fun e => hk (by simp [Value.ownBlock, e]))⟩, fun k hk => .inl hk⟩
      · simp only [List.size_toArray, List.length_append, List.length_take, List.length_drop, Array.length_toList]
        omega
      · rw [htake, ← hlen]
        exact List.take_left
    · have holds : ∀ j u, xs[j]? = some u → w.cell? ((⟨g, 0, none⟩ : Addr).add j) = some u := hown.cells (g := g) rfl
      have hold := run_firstCells_some (P := P) w.drew i.size n ⟨g, 0, none⟩ n cap xs hown.1 (by simpa using holds)
      have hr := run_append_grow_src (P := P) w t tx ty e i z ht hi hz (some ⟨g, 0, none⟩) n cap xs hold x m news hs (by omega) (by omega) (growslice_fits (by omega) hbytes)
      have hgr := grown cap (by omega) (Value.ownBlock (.slice (some ⟨g, 0, none⟩) n cap))
      exact ⟨_, _, hr, hgr.1, hgr.2, fun k hk => .inr (by simp only [Value.ownBlock, Option.some.injEq] at hk; omega)⟩
end

/-- Rows that are there, and may be read. -/
def Rd (w : World) (R : Nat → Prop) (sz : Nat) (A : Option Addr) (css : List (List Value)) : Prop := ∀ i r, css[i]? = some r → ∃ a, A = some a ∧ R a.block ∧ RowAt w (a.add (i * sz)) r
section
variable {w w' : World} {R R' : Nat → Prop} {sz lo el c : Nat} {A : Option Addr} {css : List (List Value)}
theorem Rd.nil (w : World) (R : Nat → Prop) (sz : Nat) (A : Option Addr) : Rd w R sz A [] := fun i r h => by simp at h
theorem Rd.mod {S : Nat → Prop} (h : Rd w R sz A css) (hm : Mod S w w') (hS : ∀ k, R k → ¬ S k) : Rd w' R sz A css := fun i r hr => by
  obtain ⟨a, h1, h2, h3⟩ := h i r hr
  exact ⟨a, h1, h2, h3.mod hm (by rw [block_add]; exact hS _ h2)⟩
theorem Rd.ext (h : Rd w R sz A css) (hm : Ext w w') : Rd w' R sz A css := h.mod hm fun _ _ h => h
theorem Rd.mono (h : Rd w R sz A css) (hr : ∀ k, R k → R' k) : Rd w R' sz A css := fun i r hi => by
  obtain ⟨a, h1, h2, h3⟩ := h i r hi
  exact ⟨a, h1, hr _ h2, h3⟩
theorem Rd.at (h : Rd w R sz A css) {i : Nat} {r : List Value} (hi : css[i]? = some r) : ∃ a, A = some a ∧ R a.block ∧ RowAt w (a.add (i * sz)) r := h i r hi
theorem Rd.small (h : Rd w R sz A css) (hl : ∀ r ∈ css, r.length = sz) (hsz : 0 < sz) : Rd w (fun k => R k ∧ k < w.heap.size) sz A css := fun i r hi => by
  obtain ⟨a, h1, h2, h3⟩ := h i r hi
  refine ⟨a, h1, ⟨h2, ?_⟩, h3⟩
  have := h3.lt (by rw [hl r (List.mem_of_getElem? hi)]; exact hsz)
  rwa [block_add] at this
theorem OwnR.rd (h : OwnR w lo el sz A c css) : Rd w (fun k => lo ≤ k ∧ k < w.heap.size) sz A css := fun i r hi => by
  obtain ⟨g, h1, h2, h3⟩ := h.at hi
  exact ⟨_, h1, ⟨h2, (h.block h1).2⟩, h3⟩
theorem Rd.flat (h : Rd w R sz A css) (hl : ∀ r ∈ css, r.length = sz) {a : Addr} (ha : A = some a) : RowAt w a css.flatten := by
  intro j u hu
  have hsz : 0 < sz := by
    rcases Nat.eq_zero_or_pos sz with h0 | h0
    · have := flat_len css hl
      rw [h0, Nat.mul_zero] at this
      rw [List.eq_nil_of_length_eq_zero this] at hu; simp at hu
    · exact h0
  obtain ⟨hj, _⟩ := List.getElem?_eq_some_iff.1 hu
  rw [flat_len css hl] at hj
  have hq : j / sz < css.length := by rw [Nat.div_lt_iff_lt_mul hsz]; exact hj
  have hr := flat_get css hl (j / sz) css[j / sz] (List.getElem?_eq_getElem hq)
  obtain ⟨a', h1, _, h3⟩ := h (j / sz) _ (List.getElem?_eq_getElem hq)
  rw [ha] at h1; cases h1
  have hu' : (css[j / sz])[j % sz]? = some u := by
    rw [← hr, List.getElem?_take, if_pos (Nat.mod_lt _ hsz), List.getElem?_drop]
    rw [show j / sz * sz + j % sz = j by rw [Nat.mul_comm]; exact Nat.div_add_mod j sz]
    exact hu
  have := h3 (j % sz) u hu'
  rw [add_add, show j / sz * sz + j % sz = j by rw [Nat.mul_comm]; exact Nat.div_add_mod j sz] at this
  exact this
theorem Rd.src {P : Program} {tx e' : TypeId} (h : Rd w R sz A css) (hk : P.underlying tx = some (.slice e')) (hl : ∀ r ∈ css, r.length = sz) (h1 : ∀ u ∈ css.flatten, u.oneCell' = true) (c : Nat) : Go.Src P sz tx (.slice A css.length c) css.length css.flatten w := by
  cases A with
  | none =>
    cases css with
    | nil => exact Go.Src.ofNil w hk c
    | cons r rs => obtain ⟨a, ha, _⟩ := h 0 r rfl; cases ha
  | some a => exact Go.Src.ofSlice w hk a _ c _ (flat_len css hl) (fun j u hu => h.flat hl rfl j u hu) h1
/-- The blocks of a slice of one's own. -/
def ownOf (A : Option Addr) : Nat → Prop := fun k => ∃ a, A = some a ∧ k = a.block
theorem OwnR.of_row {v : Value} (hl : ∀ r ∈ css, r.length = sz) (ho : w.ownsRow lo el sz v css.length css.flatten) : ∃ A' c', v = .slice A' css.length c' ∧ OwnR w lo el sz A' c' css := by
  obtain ⟨A', c1, rfl⟩ : ∃ A' c1, v = .slice A' css.length c1 := by
    rcases ho.2 with ⟨h2, h3⟩ | ⟨g, cap, cur, h2, _⟩
    · exact ⟨none, 0, by rw [h2, h3]⟩
    · exact ⟨_, _, h2⟩
  exact ⟨A', c1, rfl, hl, ho⟩
theorem Mod.of_own {v : Value} {n : Nat} (hv : v = .slice A n c) (hg : w.grownBy w' v.ownBlock) : Mod (ownOf A) w w' := by
  subst hv
  refine (Mod.of_grown hg).mono fun k hk => ?_
  cases A with
  | none => simp [Value.ownBlock] at hk
  | some a => simp only [Value.ownBlock, Option.some.injEq] at hk; exact ⟨a, rfl, hk⟩
/-- An element type, as append knows it. -/
structure ElOk (P : Program) (el sz bytes : Nat) : Prop where
  ok : ∃ i z, P.info? el = some i ∧ i.zero = some z ∧ i.size = sz ∧ i.bytes = bytes ∧ z.cells.size = sz
  pos : 0 < sz
variable {P : Program} {e : Env} {K : Value → World → Prop} {d : Option Tmp} {t : TypeId} {pos : String} {af : Array Edge} {g' : Option (Nat × Bool)}
theorem OpT.appendS' {x y : Operand} {st tx : TypeId} {bytes m : Nat} {yv : Value} {news : List (List Value)} (hel : ElOk P el sz bytes) (ht : P.underlying st = some (.slice el))
    (hx : evalO e x = some (.slice A css.length c)) (hy : evalO e y = some yv) (hown : OwnR w lo el sz A c css) (hsrc : Go.Src P sz tx yv m news.flatten w) (hm : m = news.length) (hl : ∀ r ∈ news, r.length = sz)
    (h63 : (css.length + news.length) * bytes ≤ 140737488355328 ∧ css.length + news.length ≤ 9223372036854775807) (hlo : lo ≤ w.heap.size)
    (h : ∀ w' A' c', Mod (ownOf A) w w' → OwnR w' lo el sz A' c' (css ++ news) → (∀ k, ownOf A' k → ownOf A k ∨ w.heap.size ≤ k) → K (.slice A' (css ++ news).length c') w') :
    OpT P e w ⟨d, .call ⟨.builtin .append, #[x, y], #[st, tx]⟩, t, pos, af, g'⟩ K := by
  subst hm
  obtain ⟨i, z, hi, hz, hs, hby, hzs⟩ := hel.ok
  obtain ⟨v', w', hr, ho, hg, hfr⟩ := run_append_ownS (P := P) (ty := t) w ht hi hz hs hby hzs hown.2 hsrc (by simp only [maxLen]; omega) h63.1 hlo hel.pos
  have hall : ∀ r ∈ css ++ news, r.length = sz := fun r hr => (List.mem_append.1 hr).elim (hown.1 r) (hl r)
  rw [← List.flatten_append, ← List.length_append] at ho
  obtain ⟨A', c1, rfl, hO⟩ := OwnR.of_row hall ho
  refine OpT.value (fun ρ hρ => ?_) (h w' A' c1 (Mod.of_own rfl hg) hO fun k ⟨a, ha, hk⟩ => ?_)
  rotate_left
  · rcases hfr k (by rw [ha, hk]; rfl) with h1 | h1
    · refine .inl ?_
      cases A with
      | none => simp [Value.ownBlock] at h1
      | some b => simp only [Value.ownBlock, Option.some.injEq] at h1; exact ⟨b, rfl, h1.symm⟩
    · exact .inr h1
  simp [execOp, resolve, invoke, builtin, hρ x _ hx, hρ y _ hy, hr]
theorem OpT.appendS {x y : Operand} {st tx : TypeId} {bytes m : Nat} {yv : Value} {news : List (List Value)} (hel : ElOk P el sz bytes) (ht : P.underlying st = some (.slice el))
    (hx : evalO e x = some (.slice A css.length c)) (hy : evalO e y = some yv) (hown : OwnR w lo el sz A c css) (hsrc : Go.Src P sz tx yv m news.flatten w) (hm : m = news.length) (hl : ∀ r ∈ news, r.length = sz)
    (h63 : (css.length + news.length) * bytes ≤ 140737488355328 ∧ css.length + news.length ≤ 9223372036854775807) (hlo : lo ≤ w.heap.size)
    (h : ∀ w' A' c', Mod (ownOf A) w w' → OwnR w' lo el sz A' c' (css ++ news) → K (.slice A' (css ++ news).length c') w') :
    OpT P e w ⟨d, .call ⟨.builtin .append, #[x, y], #[st, tx]⟩, t, pos, af, g'⟩ K :=
  OpT.appendS' hel ht hx hy hown hsrc hm hl h63 hlo fun w' A' c' h1 h2 _ => h w' A' c' h1 h2
theorem OpT.makeSlice0 {x y : Operand} {st : TypeId} {bytes : Nat} {kl kc : IntKind} (hel : ElOk P el sz bytes) (ht : P.underlying st = some (.slice el)) (hx : evalO e x = some (.int kl 0)) (hy : evalO e y = some (.int kc (c : Int)))
    (hb : bytes * c ≤ 281474976710656) (h63 : c ≤ 9223372036854775807) (h : ∀ w' g, g = w.heap.size → Ext w w' → OwnR w' w.heap.size el sz (some ⟨g, 0, none⟩) c [] → K (.slice (some ⟨g, 0, none⟩) 0 c) w') :
    OpT P e w ⟨d, .makeSlice st x y, t, pos, af, g'⟩ K := by
  obtain ⟨i, z, hi, hz, hs, hby, hzs⟩ := hel.ok
  obtain ⟨w', hr, ho, hg⟩ := run_make_own (P := P) w w.heap.size st el i z sz ht hi hz hs kl kc c (by rw [hby]; exact hb) (by simp only [maxLen]; omega) (Nat.le_refl _)
  refine OpT.value (fun ρ hρ => ?_) (h w' _ rfl (Ext.of_grown hg fun k hk => by cases hk) ⟨fun r hr => (by cases hr), ho⟩)
  simp [execOp, hρ x _ hx, hρ y _ hy, hr]

theorem Box.src {g n c : Nat} {vs : List Value} (b : Box w g vs) {tx e' : TypeId} (hk : P.underlying tx = some (.slice e')) (hl : vs.length = n * sz) (h1 : ∀ u ∈ vs, u.oneCell' = true) : Go.Src P sz tx (.slice (some ⟨g, 0, none⟩) n c) n vs w :=
  Go.Src.ofSlice w hk _ n c vs hl (by have := b.rowAt 0; rw [List.drop_zero] at this; exact this) h1
/-- one more -/
theorem OpT.append1 {x y : Operand} {st : TypeId} {bytes g n : Nat} {r : List Value} {css' : List (List Value)} {n' : Nat} (hel : ElOk P el sz bytes) (ht : P.underlying st = some (.slice el))
    (hx : evalO e x = some (.slice A n c)) (hy : evalO e y = some (.slice (some ⟨g, 0, none⟩) 1 1)) (hown : OwnR w lo el sz A c css) (b : Box w g r) (hn : n = css.length) (hr : r.length = sz) (h1 : r.all Value.oneCell' = true) (hcss : css ++ [r] = css') (hn' : css'.length = n')
    (h63 : css'.length * bytes ≤ 140737488355328 ∧ css'.length ≤ 9223372036854775807) (hlo : lo ≤ w.heap.size)
    (h : ∀ w' A' c', Mod (ownOf A) w w' → OwnR w' lo el sz A' c' css' → K (.slice A' n' c') w') :
    OpT P e w ⟨d, .call ⟨.builtin .append, #[x, y], #[st, st]⟩, t, pos, af, g'⟩ K := by
  subst hn; subst hcss; subst hn'
  have hs := b.src (P := P) (sz := sz) (tx := st) (n := 1) (c := 1) ht (by simpa using hr) (fun u hu => List.all_eq_true.1 h1 u hu)
  refine OpT.appendS (news := [r]) (m := 1) hel ht hx hy hown (by simpa using hs) rfl (fun q hq => ?_) (by simpa using h63) hlo h
  · simp only [List.mem_singleton] at hq; subst hq; exact hr
/-- one more -/
theorem OpT.append1' {x y : Operand} {st : TypeId} {bytes g n : Nat} {r : List Value} {css' : List (List Value)} {n' : Nat} (hel : ElOk P el sz bytes) (ht : P.underlying st = some (.slice el))
    (hx : evalO e x = some (.slice A n c)) (hy : evalO e y = some (.slice (some ⟨g, 0, none⟩) 1 1)) (hown : OwnR w lo el sz A c css) (b : Box w g r) (hn : n = css.length) (hr : r.length = sz) (h1 : r.all Value.oneCell' = true) (hcss : css ++ [r] = css') (hn' : css'.length = n')
    (h63 : css'.length * bytes ≤ 140737488355328 ∧ css'.length ≤ 9223372036854775807) (hlo : lo ≤ w.heap.size)
    (h : ∀ w' A' c', Mod (ownOf A) w w' → OwnR w' lo el sz A' c' css' → (∀ k, ownOf A' k → ownOf A k ∨ w.heap.size ≤ k) → K (.slice A' n' c') w') :
    OpT P e w ⟨d, .call ⟨.builtin .append, #[x, y], #[st, st]⟩, t, pos, af, g'⟩ K := by
  subst hn; subst hcss; subst hn'
  have hs := b.src (P := P) (sz := sz) (tx := st) (n := 1) (c := 1) ht (by simpa using hr) (fun u hu => List.all_eq_true.1 h1 u hu)
  refine OpT.appendS' (news := [r]) (m := 1) hel ht hx hy hown (by simpa using hs) rfl (fun q hq => ?_) (by simpa using h63) hlo h
  · simp only [List.mem_singleton] at hq; subst hq; exact hr
/-- many more, out of rows that may be read -/
theorem OpT.appendR {x y : Operand} {st : TypeId} {bytes n m cc : Nat} {B : Option Addr} {R : Nat → Prop} {news css' : List (List Value)} {n' : Nat} (hel : ElOk P el sz bytes) (ht : P.underlying st = some (.slice el))
    (hx : evalO e x = some (.slice A n c)) (hy : evalO e y = some (.slice B m cc)) (hown : OwnR w lo el sz A c css) (hR : Rd w R sz B news) (hn : n = css.length) (hm : m = news.length) (hl : ∀ r ∈ news, r.length = sz) (h1 : ∀ u ∈ news.flatten, u.oneCell' = true) (hcss : css ++ news = css') (hn' : css'.length = n')
    (h63 : css'.length * bytes ≤ 140737488355328 ∧ css'.length ≤ 9223372036854775807) (hlo : lo ≤ w.heap.size)
    (h : ∀ w' A' c', Mod (ownOf A) w w' → OwnR w' lo el sz A' c' css' → K (.slice A' n' c') w') :
    OpT P e w ⟨d, .call ⟨.builtin .append, #[x, y], #[st, st]⟩, t, pos, af, g'⟩ K := by
  subst hn; subst hm; subst hcss; subst hn'
  exact OpT.appendS hel ht hx hy hown (hR.src ht hl h1 cc) rfl hl (by simpa using h63) hlo h
theorem OwnR.mods (h : OwnR w lo el sz A c css) {S : Nat → Prop} (hm : Mod S w w') (hS : ∀ k, S k → k < lo) : OwnR w' lo el sz A c css := h.mod hm fun a ha hs => by
  have h1 := (h.block ha).1
  have h2 := hS _ hs
  omega
/-- What turned was one's own. -/
theorem Holds.mod {ρ : List Nat} {H : Heap} {S : Nat → Prop} (h : Holds ρ H w) (hm : Mod S w w') (hS : ∀ i, i < ρ.length → ¬ S (adr ρ i)) : Holds ρ H w' :=
  ⟨fun k cs hk => (h.box k cs hk).mod hm (hS k (h.ok k cs hk).1), h.ne, fun i hi => Nat.lt_of_lt_of_le (h.lt i hi) hm.size, h.ok⟩
theorem Holds.own {ρ : List Nat} {H : Heap} (h : Holds ρ H w) (hown : OwnR w lo el sz A c css) (hm : Mod (ownOf A) w w') (hS : ∀ i, i < ρ.length → adr ρ i < lo) : Holds ρ H w' := h.mod hm fun i hi ⟨a, ha, e⟩ => by
  have h1 := (hown.block ha).1
  have h2 := hS i hi
  omega
theorem Holds.nil' {ρ : List Nat} {H : Heap} (hρ : ρ = []) (h : Holds ρ H w) : Holds ρ H w' := by
  subst hρ
  refine ⟨fun k cs hk => ?_, fun i j hi => by simp at hi, fun i hi => by simp at hi, h.ok⟩
  have := (h.ok k cs hk).1; simp at this
theorem Mod.own {w0 : World} (hx : Ext w0 w) (hown : OwnR w lo el sz A c css) (hlo : w0.heap.size ≤ lo) (hm : Mod (ownOf A) w w') : Ext w0 w' := by
  refine hx.trans' hm ?_
  rintro i hi ⟨a, ha, rfl⟩
  have := (hown.block ha).1
  omega

theorem OpT.buildOwn {bt : TypeId} {len : Nat} {parts : List (Nat × Operand)} {vs : List (Nat × Value)} {z : Value} {cs : Array Value} {g : Option (Nat × Bool)} (hv : PArgs e parts vs) (hu : P.underlying bt = some (.slice el)) (hs : SizeIs P el sz) (hz : ZeroIs P el z)
    (hsm : Nat.ble (len * sz) 16777216 = true) (hf : Instr.fill (fun i => some (i * sz, sz)) ((Array.range (len * sz)).map ((if len * sz = 0 then #[] else z.cells)[· % (if len * sz = 0 then #[] else z.cells).size]!)) vs = some cs)
    (hcs : css.flatten = cs.toList) (hr : ∀ r ∈ css, r.length = sz) (hlen : css.length = len) (hmx : Nat.ble len 16777216 = true)
    (h : ∀ w' b, b = w.heap.size → Ext w w' → w'.heap.size = w.heap.size + 1 → OwnR w' w.heap.size el sz (some ⟨b, 0, none⟩) len css → K (.slice (some ⟨b, 0, none⟩) len len) w') : OpT P e w ⟨d, .buildSlice bt len parts.toArray, t, pos, af, g⟩ K := by
  have hle : ¬ (len * sz > 2 ^ 24) := by have := Nat.le_of_ble_eq_true hsm; omega
  have hsz : cs.size = len * sz := by
    have := flat_len css hr
    rw [hcs, hlen] at this
    simpa using this
  have hown : OwnR (w.alloc (.cells cs el)) w.heap.size el sz (some ⟨w.heap.size, 0, none⟩) len css := by
    refine ⟨hr, flat_len css hr, .inr ⟨w.heap.size, len, cs, by rw [hlen], Nat.le_refl _, heap_alloc_new w _, by omega, ?_, hsz, ?_⟩⟩
    · have := Nat.le_of_ble_eq_true hmx; simp only [maxLen]; omega
    · rw [hcs, hlen]; exact List.take_of_length_le (by simpa using Nat.le_of_eq hsz)
  refine OpT.value (w' := w.alloc (.cells cs el)) (fun ρ hρ => ?_) (h _ _ rfl (Ext.alloc _ _) (by simp) hown)
  have hm : parts.toArray.map (fun (i, x) => (i, ρ x)) = vs.toArray := by rw [← hv.map hρ]; simp
  by_cases h0 : len * sz = 0
  · simp only [h0, if_true] at hf
    simp [execOp, hm, Instr.buildSlice, run_underlying hu, hs w, h0, newRow]
    simp at hf
    simp [hf]
  · simp only [h0, if_false] at hf
    simp [execOp, hm, Instr.buildSlice, run_underlying hu, hs w, hle, h0, hz w, newRow, hf]

theorem OwnR.lower {lo' : Nat} (h : OwnR w lo el sz A c css) (hl : lo' ≤ lo) : OwnR w lo' el sz A c css := by
  refine ⟨h.1, h.2.1, ?_⟩
  rcases h.2.2 with hn | ⟨g, cap, cur, h1, hb, rest⟩
  · exact .inl hn
  · exact .inr ⟨g, cap, cur, h1, by omega, rest⟩

theorem Rd.cut (h : Rd w R sz A css) (hc : css.length ≤ c) (i : Nat) : Rd w R sz (if c = i then A else A.map (·.add (i * sz))) (css.drop i) := by
  intro k r hr
  obtain ⟨hk, _⟩ := List.getElem?_eq_some_iff.1 hr
  rw [List.length_drop] at hk
  rw [if_neg (by omega)]
  rw [List.getElem?_drop] at hr
  obtain ⟨a, h1, h2, h3⟩ := h (i + k) r hr
  refine ⟨a.add (i * sz), by rw [h1]; rfl, by rw [block_add]; exact h2, ?_⟩
  rw [add_add, ← Nat.add_mul]; exact h3
theorem Rd.take (h : Rd w R sz A css) (n : Nat) : Rd w R sz A (css.take n) := by
  intro k r hr
  rw [List.getElem?_take] at hr
  split at hr
  · exact h k r hr
  · cases hr
theorem OpT.sliceR {x : Operand} {lo' hi : Option Operand} {st : TypeId} {n m : Nat} {i j : Int} (hs : P.underlying st = some (.slice el)) (hz : SizeIs P el sz) (hx : evalO e x = some (.slice A n c)) (hl : loOf e lo' = some i) (hh : hiOf e n hi = some j)
    (hR : Rd w R sz A css) (hc : css.length ≤ c) (hb : 0 ≤ i ∧ i ≤ j ∧ j ≤ c) (hm : j.toNat - i.toNat = m) (h : ∀ A', Rd w R sz A' (css.drop i.toNat) → K (.slice A' m (c - i.toNat)) w) : OpT P e w ⟨d, .slice st x lo' hi none, t, pos, af, g'⟩ K := by
  subst hm
  exact OpT.slice hs hz hx hl hh hb (h _ (hR.cut hc _))
end

theorem Holds.two {w : World} {g1 g2 : Nat} {cs ds : List SV} (hne : g1 ≠ g2) (b1 : Box w g1 (concs [g1, g2] cs)) (b2 : Box w g2 (concs [g1, g2] ds)) (hw : (wfs 2 cs && wfs 2 ds) = true) : Holds [g1, g2] [(0, cs), (1, ds)] w := by
  simp only [Bool.and_eq_true] at hw
  have key : ∀ k c, hget [(0, cs), (1, ds)] k = some c → (k = 0 ∧ c = cs) ∨ (k = 1 ∧ c = ds) := by
    intro k c hk
    simp only [hget] at hk
    by_cases h0 : 0 = k
    · subst h0; simp at hk; exact .inl ⟨rfl, hk.symm⟩
    · rw [beq_ne h0] at hk
      by_cases h1 : 1 = k
      · subst h1; simp at hk; exact .inr ⟨rfl, hk.symm⟩
      · rw [beq_ne h1] at hk; simp at hk
  refine ⟨fun k c hk => ?_, fun i j hi hj hij => ?_, fun i hi => ?_, fun k c hk => ?_⟩
  · rcases key k c hk with ⟨rfl, rfl⟩ | ⟨rfl, rfl⟩
    · exact b1
    · exact b2
  · simp at hi hj
    have : (i = 0 ∧ j = 1) ∨ (i = 1 ∧ j = 0) := by omega
    rcases this with ⟨rfl, rfl⟩ | ⟨rfl, rfl⟩
    · exact hne
    · exact fun h => hne h.symm
  · simp at hi
    have : i = 0 ∨ i = 1 := by omega
    rcases this with rfl | rfl
    · exact b1.lt
    · exact b2.lt
  · rcases key k c hk with ⟨rfl, rfl⟩ | ⟨rfl, rfl⟩
    · exact ⟨by simp, hw.1⟩
    · exact ⟨by simp, hw.2⟩

/-! ### bytes -/
/-- bytes as rows of cells -/
def bR (bs : List UInt8) : List (List Value) := bs.map fun b => [.int .u8 b.toNat]
theorem bR_append (a b : List UInt8) : bR (a ++ b) = bR a ++ bR b := by simp [bR]
theorem bR_length (a : List UInt8) : (bR a).length = a.length := by simp [bR]
theorem bR_len (a : List UInt8) : ∀ r ∈ bR a, r.length = 1 := by
  intro r hr; obtain ⟨b, _, rfl⟩ := List.mem_map.1 hr; rfl
theorem bR_ones (a : List UInt8) : ∀ u ∈ (bR a).flatten, u.oneCell' = true := by
  intro u hu
  obtain ⟨r, hr, hur⟩ := List.mem_flatten.1 hu
  obtain ⟨b, _, rfl⟩ := List.mem_map.1 hr
  simp only [List.mem_singleton] at hur
  subst hur; rfl
theorem bR_drop (a : List UInt8) (n : Nat) : (bR a).drop n = bR (a.drop n) := by simp [bR]
theorem bR_take (a : List UInt8) (n : Nat) : (bR a).take n = bR (a.take n) := by simp [bR]
theorem bR_flat (a : List UInt8) : (bR a).flatten = (a.map fun b => (b.toNat : Int)).map (Value.int .u8) := by
  induction a with
  | nil => rfl
  | cons b r ih => simp only [bR, List.map_cons, List.flatten_cons, List.singleton_append] at ih ⊢; rw [ih]
theorem bR_get {a : List UInt8} {k : Nat} (h : k < a.length) : (bR a)[k]? = some [.int .u8 (a[k].toNat : Int)] := by simp [bR, h]
theorem strR (s : ByteArray) : byteCells s = (bR s.data.toList).flatten := by
  rw [bR_flat]; unfold byteCells; rw [List.map_map]; rfl
def strOf (bs : List UInt8) : ByteArray := ⟨bs.toArray⟩
theorem strOf_size (bs : List UInt8) : (strOf bs).size = bs.length := by unfold strOf; show bs.toArray.size = _; simp
theorem strOf_list (bs : List UInt8) : (strOf bs).data.toList = bs := by simp [strOf]
theorem strOf_inj {a b : List UInt8} : strOf a = strOf b ↔ a = b := ⟨fun h => by rw [← strOf_list a, h, strOf_list], fun h => by rw [h]⟩
theorem push_all (bs : List UInt8) : ∀ s : ByteArray, (bs.map fun b => (b.toNat : Int)).foldl (fun r n => r.push (UInt8.ofNat n.toNat)) s = ⟨s.data ++ bs.toArray⟩ := by
  induction bs with
  | nil => intro s; simp
  | cons b r ih =>
    intro s
    simp only [List.map_cons, List.foldl_cons, Int.toNat_natCast]
    rw [ih]
    have : UInt8.ofNat b.toNat = b := by simp
    rw [this]
    congr 1
    apply Array.toList_inj.1
    simp [ByteArray.push]
theorem OpT.bytesStr {P : Program} {e : Env} {w : World} {K : Value → World → Prop} {d : Option Tmp} {t : TypeId} {pos : String} {af : Array Edge} {g' : Option (Nat × Bool)} {R : Nat → Prop} {A : Option Addr} {n c : Nat} {bs : List UInt8} {x : Operand} {src dst el : TypeId}
    (hs : P.underlying src = some (.slice el)) (he : P.underlying el = some (.int .u8)) (hd : P.underlying dst = some .string) (hx : evalO e x = some (.slice A n c)) (hR : Rd w R 1 A (bR bs)) (hn : n = bs.length) (h : K (.string (strOf bs)) w) :
    OpT P e w ⟨d, .convert src dst x, t, pos, af, g'⟩ K := by
  subst hn
  refine OpT.value (fun ρ hρ => ?_) h
  have hr : (Conv.bytesToString (.slice A bs.length c)).run P w = .ok (.string (strOf bs)) w := by
    cases A with
    | none =>
      cases bs with
      | nil => rfl
      | cons b r => obtain ⟨a, ha, _⟩ := hR 0 _ rfl; cases ha
    | some a =>
      have hf := hR.flat (bR_len bs) rfl
      have hl := run_loadCells_list (P := P) w a _ hf
      rw [flat_len (sz := 1) _ (bR_len bs), bR_length, Nat.mul_one, bR_flat] at hl
      rw [run_bytesToString w a bs.length c _ hl, push_all]
      have : (⟨ByteArray.empty.data ++ bs.toArray⟩ : ByteArray) = strOf bs := by
        unfold strOf; congr 1; exact Array.empty_append
      rw [this]
  simp [execOp, hρ x _ hx, run_convert_bytes_string w src dst el A bs.length c hs he hd, hr]

/-- What is guarded by what is not so does not run. -/
theorem vskip {A X Y : Prop} {b : Bool} (hc : b = false) (k : Y) : A ∨ ((b = true → X) ∧ (b = false → Y)) := .inr ⟨fun h => (by rw [hc] at h; cases h), fun _ => k⟩

/-- What is guarded by what is so runs. -/
theorem vyes {A X Y : Prop} {b : Bool} (hc : b = true) (k : X) : A ∨ ((b = true → X) ∧ (b = false → Y)) := .inr ⟨fun _ => k, fun h => (by rw [hc] at h; cases h)⟩
end Go.Proofs.Bw
