/-
  Slices that a call made itself: rows of cells, appending, storing.
-/
import Derived.Test.YtnoghkpofpaeeaaGreatDraw
import Derived.Test.YtnoghkpofpaeeaaGreatData
import Derived.Laws.AppendOwn
namespace Go.Proofs.Bw
open Go Go.RowKit

section flat
variable {α : Type}
theorem flat_len {sz : Nat} : ∀ (css : List (List α)), (∀ r ∈ css, r.length = sz) → css.flatten.length = css.length * sz
  | [], _ => by simp
  | c :: r, h => by
    have h1 := h c (by simp)
    have h2 := flat_len r fun x hx => h x (by simp [hx])
    simp only [List.flatten_cons, List.length_append, List.length_cons, h1, h2, Nat.succ_mul, Nat.add_comm]
theorem flat_get {sz : Nat} : ∀ (css : List (List α)) (_ : ∀ r ∈ css, r.length = sz) (i : Nat) (c : List α), css[i]? = some c → (css.flatten.drop (i * sz)).take sz = c
  | [], _, i, c, hc => by simp at hc
  | d :: r, h, 0, c, hc => by
    simp only [List.getElem?_cons_zero, Option.some.injEq] at hc
    subst hc
    rw [Nat.zero_mul, List.drop_zero, List.flatten_cons, List.take_left' (h d (by simp))]
  | d :: r, h, i + 1, c, hc => by
    simp only [List.getElem?_cons_succ] at hc
    have hd := h d (by simp)
    rw [List.flatten_cons, Nat.succ_mul, Nat.add_comm, ← List.drop_drop, List.drop_left' hd]
    exact flat_get r (fun x hx => h x (by simp [hx])) i c hc
theorem flat_set {sz : Nat} : ∀ (css : List (List α)) (_ : ∀ r ∈ css, r.length = sz) (i : Nat) (u : List α), i < css.length → u.length = sz →
    (css.set i u).flatten = css.flatten.take (i * sz) ++ u ++ css.flatten.drop (i * sz + sz)
  | [], _, i, u, hi, _ => by simp at hi
  | d :: r, h, 0, u, _, hu => by
    have hd := h d (by simp)
    simp only [List.set_cons_zero, List.flatten_cons, Nat.zero_mul, List.take_zero, List.nil_append, Nat.zero_add]
    rw [List.drop_left' hd]
  | d :: r, h, i + 1, u, hi, hu => by
    have hd := h d (by simp)
    have ih := flat_set r (fun x hx => h x (by simp [hx])) i u (by simpa using hi) hu
    simp only [List.set_cons_succ, List.flatten_cons, ih]
    have e1 : (d ++ r.flatten).take ((i + 1) * sz) = d ++ r.flatten.take (i * sz) := by
      rw [List.take_append, List.take_of_length_le (by rw [hd, Nat.succ_mul]; omega), hd, Nat.succ_mul, Nat.add_sub_cancel]
    have e2 : (d ++ r.flatten).drop ((i + 1) * sz + sz) = r.flatten.drop (i * sz + sz) := by
      rw [show (i + 1) * sz + sz = sz + (i * sz + sz) by rw [Nat.succ_mul]; omega, ← List.drop_drop, List.drop_left' hd]
    rw [e1, e2]
    simp only [List.append_assoc]
end flat

/-- A slice of the call's own, in a block behind lo: its rows of sz cells. -/
def OwnR (w : World) (lo e sz : Nat) (A : Option Addr) (c : Nat) (css : List (List Value)) : Prop :=
  (∀ r ∈ css, r.length = sz) ∧ w.ownsRow lo e sz (.slice A css.length c) css.length css.flatten
section
variable {w w' : World} {lo e sz c : Nat} {A : Option Addr} {css : List (List Value)}
theorem OwnR.nil (w : World) (lo e sz : Nat) : OwnR w lo e sz none 0 [] := ⟨fun r h => absurd h (by simp), World.ownsRow_nil w lo e sz⟩
theorem OwnR.le (h : OwnR w lo e sz A c css) : css.length ≤ c ∧ c ≤ 9223372036854775807 := by
  rcases h.2.2 with ⟨h1, h2⟩ | ⟨g, cap, cur, h1, _, _, h2, h3, _⟩
  · simp only [Value.slice.injEq] at h1; omega
  · simp only [Value.slice.injEq] at h1; simp only [maxLen] at h3; omega
theorem OwnR.block (h : OwnR w lo e sz A c css) {a : Addr} (ha : A = some a) : lo ≤ a.block ∧ a.block < w.heap.size := h.2.lt a.block (by subst ha; rfl)
theorem OwnR.mod {S : Nat → Prop} (h : OwnR w lo e sz A c css) (hm : Mod S w w') (hS : ∀ a, A = some a → ¬ S a.block) : OwnR w' lo e sz A c css := by
  refine ⟨h.1, h.2.1, ?_⟩
  rcases h.2.2 with hn | ⟨g, cap, cur, h1, hb, hg, rest⟩
  · exact .inl hn
  · refine .inr ⟨g, cap, cur, h1, hb, ?_, rest⟩
    simp only [Value.slice.injEq] at h1
    have := hS _ h1.1
    rw [hm.block g (Array.getElem?_eq_some_iff.1 hg).1 this]
    exact hg
theorem OwnR.ext (h : OwnR w lo e sz A c css) (hm : Ext w w') : OwnR w' lo e sz A c css := h.mod hm fun _ _ h => h
theorem OwnR.upd {g : Nat} (h : OwnR w lo e sz A c css) (hm : Upd g w w') (hg : g < lo) : OwnR w' lo e sz A c css := h.mod hm fun a ha hs => by
  have h1 := (h.block ha).1
  have h2 : a.block = g := hs
  omega
theorem OwnR.at (h : OwnR w lo e sz A c css) {i : Nat} {r : List Value} (hi : css[i]? = some r) : ∃ g, A = some ⟨g, 0, none⟩ ∧ lo ≤ g ∧ RowAt w ((⟨g, 0, none⟩ : Addr).add (i * sz)) r := by
  obtain ⟨hil, hir⟩ := List.getElem?_eq_some_iff.1 hi
  rcases h.2.2 with ⟨_, h2⟩ | ⟨g, cap, cur, h1, hb, hg, hn, hc, hcs, ht⟩
  · omega
  · simp only [Value.slice.injEq] at h1
    refine ⟨g, h1.1, hb, fun j u hu => ?_⟩
    rw [add_add, Addr.add_lit, cell_of_row w g _ _ e (0, 0) hg]
    have hr := flat_get css h.1 i r hi
    have hj : j < sz := by
      have := h.1 r (List.mem_of_getElem? hi)
      obtain ⟨hj, _⟩ := List.getElem?_eq_some_iff.1 hu
      omega
    rw [← hr, List.getElem?_take, if_pos hj, List.getElem?_drop, ← ht, List.getElem?_take] at hu
    split at hu
    · simpa using hu
    · cases hu

/-- A block of one's own, of a type. -/
def BoxE (w : World) (e g : Nat) (vs : List Value) : Prop := w.heap[g]? = some (.cells vs.toArray e (0, 0))
theorem run_storeCells_boxE {P : Program} {e g : Nat} : ∀ (us : List Value) (i : Nat) (vs : List Value) (w : World), BoxE w e g vs → i + us.length ≤ vs.length → (∀ u ∈ us, u.oneCell' = true) →
    ∃ w', (storeCells ⟨g, 0, none⟩ us i).run P w = .ok () w' ∧ Upd g w w' ∧ w'.heap.size = w.heap.size ∧ BoxE w' e g (vs.take i ++ us ++ vs.drop (i + us.length)) := by
  intro us
  induction us with
  | nil => intro i vs w hb _ _; exact ⟨w, by simp [storeCells], Mod.refl _ _, rfl, by simpa using hb⟩
  | cons u r ih =>
    intro i vs w hb hl h1
    simp only [List.length_cons] at hl
    have hs := one_store (P := P) (show Box w g vs from ⟨e, hb⟩) (i := i) (v := u) (by omega) (h1 u (by simp))
    have hb' : BoxE (w.setCell ⟨g, i, none⟩ u) e g (vs.set i u) := by
      unfold BoxE at hb ⊢
      simp [World.setCell, Array.getElem?_modify, hb]
    obtain ⟨w', hr, hu, hz, hB⟩ := ih (i + 1) (vs.set i u) _ hb' (by simp; omega) (fun x hx => h1 x (by simp [hx]))
    refine ⟨w', ?_, (Upd.setCell w ⟨g, i, none⟩ u).trans hu, hz.trans (by simp [World.setCell]), ?_⟩
    · simp only [storeCells, Sem.run_bind]
      rw [show (⟨g, 0, none⟩ : Addr).add i = ⟨g, i, none⟩ by rw [Addr.add_lit]; simp, hs]
      simpa using hr
    · have e1 : (vs.set i u).take (i + 1) = vs.take i ++ [u] := by
        rw [List.take_succ_eq_append_getElem (by simp; omega), List.take_set_of_le (Nat.le_refl i)]
        simp
      have e2 : (vs.set i u).drop (i + 1 + r.length) = vs.drop (i + (u :: r).length) := by
        rw [List.drop_set_of_lt (by omega)]
        congr 1
        simp only [List.length_cons]; omega
      rw [e1, e2] at hB
      simpa using hB
theorem storeCells_off {P : Program} {g : Nat} : ∀ (us : List Value) (o i : Nat) (w : World), (storeCells ⟨g, o, none⟩ us i).run P w = (storeCells ⟨g, 0, none⟩ us (o + i)).run P w := by
  intro us
  induction us with
  | nil => intro o i w; simp [storeCells]
  | cons u r ih =>
    intro o i w
    simp only [storeCells, Sem.run_bind, Addr.add_lit, Nat.zero_add]
    congr 1
    funext u' w'
    rw [ih, Nat.add_assoc]
end
section
variable {P : Program} {e : Env} {w : World} {K : Value → World → Prop} {d : Option Tmp} {t : TypeId} {pos : String} {af : Array Edge}
/-- A row is stored into a slice of one's own. -/
theorem OpT.storeRow {x y : Operand} {u : TypeId} {g lo el sz i c : Nat} {us : List Value} {css : List (List Value)} {g' : Option (Nat × Bool)} (hz : SizeIs P u sz) (hx : evalO e x = some (.pointer (some ((⟨g, 0, none⟩ : Addr).add (i * sz))))) (hy : evalO e y = some (.agg us.toArray))
    (hn : us.length = sz) (h1 : us.all Value.oneCell' = true) (hb : OwnR w lo el sz (some ⟨g, 0, none⟩) c css) (hi : i < css.length)
    (h : ∀ w', Upd g w w' → w'.heap.size = w.heap.size → OwnR w' lo el sz (some ⟨g, 0, none⟩) c (css.set i us) → K undef w') : OpT P e w ⟨d, .store u x y, t, pos, af, g'⟩ K := by
  rcases hb.2.2 with ⟨h2, _⟩ | ⟨g2, cap, cur, h2, hlo, hg, hnc, hcm, hcs, htake⟩
  · cases h2
  simp only [Value.slice.injEq, Option.some.injEq, Addr.mk.injEq] at h2
  obtain ⟨⟨rfl, _, _⟩, _, rfl⟩ := h2
  have hfl := flat_len css hb.1
  have hmul : i * sz + sz ≤ css.length * sz := by
    have := Nat.mul_le_mul_right sz (show i + 1 ≤ css.length by omega)
    rw [Nat.succ_mul] at this
    exact this
  have hcur : cur.toList.length = c * sz := by simpa using hcs
  have hmul2 : css.length * sz ≤ c * sz := Nat.mul_le_mul_right sz hnc
  obtain ⟨w', hr, hu, hs, hB⟩ := run_storeCells_boxE (P := P) (e := el) us (i * sz) cur.toList w (by unfold BoxE; simpa using hg) (by omega) (fun u hu => List.all_eq_true.1 h1 u hu)
  refine OpT.skip (w' := w') (fun ρ hρ => ?_) (h w' hu hs ⟨fun r hr => ?_, ?_⟩)
  · have hst : (storeCells ⟨g, i * sz, none⟩ us).run P w = .ok () w' := by rw [storeCells_off]; simpa using hr
    have hx' : ρ x = .pointer (some ⟨g, i * sz, none⟩) := by rw [hρ x _ hx, Addr.add_lit, Nat.zero_add]
    simp [execOp, hx', hρ y _ hy, Instr.storeAt, Instr.sureAddr, storeVar, hz w, Value.cells, hn, hst]
  · rcases List.mem_or_eq_of_mem_set hr with h | h
    · exact hb.1 r h
    · subst h; exact hn
  · refine ⟨by rw [flat_len (sz := sz) _ (fun r hr => by
      rcases List.mem_or_eq_of_mem_set hr with h | h
      · exact hb.1 r h
      · subst h; exact hn)], ?_⟩
    rw [List.length_set]
    refine .inr ⟨g, c, _, rfl, hlo, hB, hnc, hcm, ?_, ?_⟩
    · simp only [List.size_toArray, List.length_append, List.length_take, List.length_drop, hn, hcur]; omega
    · rw [List.toList_toArray, flat_set css hb.1 i us hi hn, ← htake]
      have hA : (cur.toList.take (i * sz)).length = i * sz := by rw [List.length_take]; omega
      rw [List.append_assoc, List.take_append, hA, List.take_append, hn]
      rw [List.take_of_length_le (l := cur.toList.take (i * sz)) (by omega), List.take_of_length_le (l := us) (by omega)]
      rw [List.take_take, Nat.min_eq_left (by omega), List.append_assoc]
      congr 2
      rw [List.drop_take]
      congr 1
      omega

/-- OwnR are appended to a slice of one's own. -/
theorem OpT.append {x y : Operand} {st el : TypeId} {i : TypeInfo} {z : Value} {lo sz bytes c c' m : Nat} {A : Option Addr} {a : Addr} {css news : List (List Value)} {ty : TypeId} {g' : Option (Nat × Bool)}
    (ht : P.underlying st = some (.slice el)) (hi : P.info? el = some i) (hz : i.zero = some z) (hs : i.size = sz) (hby : i.bytes = bytes) (hzs : z.cells.size = sz) (hsz : 0 < sz)
    (hx : evalO e x = some (.slice A css.length c)) (hy : evalO e y = some (.slice (some a) m c')) (hm : m = news.length) (hown : OwnR w lo el sz A c css) (hl : ∀ r ∈ news, r.length = sz) (hnews : RowAt w a news.flatten) (h1 : ∀ u ∈ news.flatten, u.oneCell' = true)
    (h63 : (css.length + news.length) * bytes ≤ 140737488355328 ∧ css.length + news.length ≤ 9223372036854775807) (hlo : lo ≤ w.heap.size)
    (h : ∀ w' A' c', Mod (fun k => lo ≤ k) w w' → OwnR w' lo el sz A' c' (css ++ news) → K (.slice A' (css ++ news).length c') w') :
    OpT P e w ⟨d, .call ⟨.builtin .append, #[x, y], #[st, st]⟩, ty, pos, af, g'⟩ K := by
  subst hm
  obtain ⟨v', w', hr, ho, hg, _⟩ := run_append_own (P := P) w lo st ty el i z sz bytes ht hi hz hs hby hzs hsz (.slice A css.length c) css.length css.flatten hown.2 a news.length c' news.flatten (flat_len news hl) hnews h1 (by simp only [maxLen]; omega) h63.1 hlo
  have hmod : Mod (fun k => lo ≤ k) w w' := (Mod.of_grown hg).mono fun k hk => (hown.2.lt k hk.symm).1
  have hall : ∀ r ∈ css ++ news, r.length = sz := fun r hr => (List.mem_append.1 hr).elim (hown.1 r) (hl r)
  rw [← List.flatten_append, ← List.length_append] at ho
  obtain ⟨A', c1, rfl⟩ : ∃ A' c1, v' = .slice A' (css ++ news).length c1 := by
    rcases ho.2 with ⟨h2, h3⟩ | ⟨g, cap, cur, h2, _⟩
    · exact ⟨none, 0, by rw [h2, h3]⟩
    · exact ⟨_, _, h2⟩
  refine OpT.value (fun ρ hρ => ?_) (h w' A' c1 hmod ⟨hall, ho⟩)
  rw [List.length_append] at hr
  simp [execOp, resolve, invoke, builtin, hρ x _ hx, hρ y _ hy, hr]
end

/-- OwnR that hold terms. -/
def VTs (w : World) (R : Nat → Prop) (css : List (List Value)) (ts : List T) : Prop := css.length = ts.length ∧ ∀ (i : Nat) (c : List Value) (t : T), css[i]? = some c → ts[i]? = some t → VT w R c t
section
variable {w w' : World} {R R' : Nat → Prop} {lo e c : Nat} {A : Option Addr} {css : List (List Value)} {ts : List T}
theorem VTs.nil (w : World) (R : Nat → Prop) : VTs w R [] [] := ⟨rfl, fun i c t h => by simp at h⟩
theorem VTs.mod {S : Nat → Prop} (h : VTs w R css ts) (hm : Mod S w w') (hS : ∀ k, R k → ¬ S k) : VTs w' R css ts := ⟨h.1, fun i c t h1 h2 => (h.2 i c t h1 h2).mod hm hS⟩
theorem VTs.ext (h : VTs w R css ts) (hm : Ext w w') : VTs w' R css ts := h.mod hm fun _ _ h => h
theorem VTs.upd {g : Nat} (h : VTs w R css ts) (hm : Upd g w w') (hg : ∀ k, R k → k = g → False) : VTs w' R css ts := h.mod hm hg
theorem VTs.mono (h : VTs w R css ts) (hr : ∀ k, R k → R' k) : VTs w R' css ts := ⟨h.1, fun i c t h1 h2 => (h.2 i c t h1 h2).mono hr⟩
theorem VTs.snoc {x : List Value} {t : T} (h : VTs w R css ts) (hx : VT w R x t) : VTs w R (css ++ [x]) (ts ++ [t]) := by
  refine ⟨by simp [h.1], fun i c t' h1 h2 => ?_⟩
  rcases Nat.lt_trichotomy i css.length with hlt | heq | hgt
  · rw [List.getElem?_append_left hlt] at h1
    rw [List.getElem?_append_left (by rw [← h.1]; exact hlt)] at h2
    exact h.2 i c t' h1 h2
  · rw [List.getElem?_append_right (by omega), heq, Nat.sub_self] at h1
    have hl := h.1
    rw [List.getElem?_append_right (by omega), show i - ts.length = 0 by omega] at h2
    simp only [List.getElem?_cons_zero, Option.some.injEq] at h1 h2
    subst h1; subst h2
    exact hx
  · rw [List.getElem?_eq_none (by simp; omega)] at h1
    cases h1
theorem VTs.reverse (h : VTs w R css ts) : VTs w R css.reverse ts.reverse := by
  refine ⟨by simp [h.1], fun i c t h1 h2 => ?_⟩
  obtain ⟨hi, _⟩ := List.getElem?_eq_some_iff.1 h1
  rw [List.length_reverse] at hi
  rw [List.getElem?_reverse hi] at h1
  rw [List.getElem?_reverse (by rw [← h.1]; exact hi), ← h.1] at h2
  exact h.2 _ c t h1 h2
theorem OwnR.slT (h : OwnR w lo e 5 A c css) (hv : VTs w R css ts) (hR : ∀ k, lo ≤ k → R k) : SlT w R A ts := by
  refine ⟨fun i => css.getD i [], fun i x hx => ?_, fun i x hx => ?_⟩
  · obtain ⟨hi, _⟩ := List.getElem?_eq_some_iff.1 hx
    have hc : css[i]? = some (css.getD i []) := by rw [List.getD_eq_getElem?_getD, List.getElem?_eq_getElem (by rw [hv.1]; exact hi)]; rfl
    exact hv.2 i _ x hc hx
  · obtain ⟨hi, _⟩ := List.getElem?_eq_some_iff.1 hx
    have hc : css[i]? = some (css.getD i []) := by rw [List.getD_eq_getElem?_getD, List.getElem?_eq_getElem (by rw [hv.1]; exact hi)]; rfl
    obtain ⟨g, h1, h2, h3⟩ := h.at hc
    exact ⟨_, h1, hR _ h2, h3⟩

/-- OwnR, of which the first q and the last q changed places. -/
def swap (l : List (List Value)) (i j : Nat) : List (List Value) := (l.set i (l.getD j [])).set j (l.getD i [])
def revTo (l : List (List Value)) : Nat → List (List Value)
  | 0 => l
  | q + 1 => swap (revTo l q) q (l.length - 1 - q)
theorem swap_length (l : List (List Value)) (i j : Nat) : (swap l i j).length = l.length := by simp [swap]
theorem revTo_length (l : List (List Value)) : ∀ q, (revTo l q).length = l.length
  | 0 => rfl
  | q + 1 => by rw [revTo, swap_length, revTo_length l q]
theorem revTo_mem (l : List (List Value)) : ∀ q, ∀ r ∈ revTo l q, r ∈ l ∨ r = []
  | 0, r, h => .inl h
  | q + 1, r, h => by
    rw [revTo, swap] at h
    have get : ∀ i x, (revTo l q).getD i [] = x → x ∈ l ∨ x = [] := by
      intro i x hx
      rw [List.getD_eq_getElem?_getD] at hx
      cases hh : (revTo l q)[i]? with
      | none => rw [hh] at hx; exact .inr hx.symm
      | some y => rw [hh] at hx; cases hx; exact revTo_mem l q y (List.mem_of_getElem? hh)
    rcases List.mem_or_eq_of_mem_set h with h | h
    · rcases List.mem_or_eq_of_mem_set h with h | h
      · exact revTo_mem l q r h
      · exact get _ _ h.symm
    · exact get _ _ h.symm
theorem getD_at (l : List (List Value)) (i : Nat) : l.getD i [] = (l[i]?).getD [] := List.getD_eq_getElem?_getD ..
theorem revTo_get (l : List (List Value)) : ∀ q, 2 * q ≤ l.length → ∀ k, k < l.length → (revTo l q)[k]? = if k < q ∨ l.length - 1 - q < k then l[l.length - 1 - k]? else l[k]? := by
  intro q
  induction q with
  | zero => intro _ k hk; rw [if_neg (by omega)]; rfl
  | succ q ih =>
    intro hq k hk
    have ih' := ih (by omega)
    have hlen := revTo_length l q
    rw [revTo, swap]
    by_cases h1 : k = l.length - 1 - q
    · subst h1
      rw [List.getElem?_set_self (by simp; omega), getD_at, ih' q (by omega), if_neg (by omega), if_pos (by omega)]
      rw [show l.length - 1 - (l.length - 1 - q) = q by omega, List.getElem?_eq_getElem (by omega)]
      rfl
    · rw [List.getElem?_set_ne (by omega)]
      by_cases h2 : k = q
      · subst h2
        rw [List.getElem?_set_self (by omega), getD_at, ih' (l.length - 1 - k) (by omega), if_neg (by omega), if_pos (by omega), List.getElem?_eq_getElem (by omega)]
        rfl
      · rw [List.getElem?_set_ne (by omega), ih' k hk]
        by_cases h3 : k < q ∨ l.length - 1 - q < k
        · rw [if_pos h3, if_pos (by omega)]
        · rw [if_neg h3, if_neg (by omega)]
theorem revTo_all (l : List (List Value)) (q : Nat) (h1 : 2 * q ≤ l.length) (h2 : l.length ≤ 2 * q + 1) : revTo l q = l.reverse := by
  apply List.ext_getElem?
  intro k
  by_cases hk : k < l.length
  · rw [revTo_get l q h1 k hk, List.getElem?_reverse hk]
    by_cases h3 : k < q ∨ l.length - 1 - q < k
    · rw [if_pos h3]
    · rw [if_neg h3, show l.length - 1 - k = k by omega]
  · rw [List.getElem?_eq_none (by rw [revTo_length]; omega), List.getElem?_eq_none (by simp; omega)]
end
end Go.Proofs.Bw
