/-
  Steps; what CacheKeeps says of the last ones, plain.
-/
import Derived.Test.YtmibjillclfogaaDoorC11
namespace Go.Proofs.YtmibjillclfogaaDoor
open Go Go.RowKit Go.Proofs.Bw
set_option linter.unusedVariables false
set_option linter.unusedSimpArgs false

structure St where
  ask : Bool
  a : Nat
  b : Nat
def St.cells (s : St) : List Value := [.bool s.ask, .int .u8 s.a, .int .u8 s.b]
def St.ok (s : St) : Prop := s.a < 256 ∧ s.b < 256
def stR (l : List St) : List (List Value) := l.map St.cells
theorem stR_get {l : List St} {i : Nat} (h : i < l.length) : (stR l)[i]? = some l[i].cells := by simp [stR, h]
theorem stR_length (l : List St) : (stR l).length = l.length := by simp [stR]
def Qp (s : St) : SP := pv s.a s.b
theorem Qp_iff {s t : St} (hs : s.ok) (ht : t.ok) : Qp s = Qp t ↔ (s.a = t.a ∧ s.b = t.b) ∨ (s.a = t.b ∧ s.b = t.a) := by
  obtain ⟨h1, h2⟩ := hs
  obtain ⟨h3, h4⟩ := ht
  unfold Qp
  rw [pv_iff (by omega) (by omega) (by omega) (by omega)]
  omega
theorem Qp_swap {s : St} (hs : s.ok) : pv (s.b : Int) (s.a : Int) = Qp s := by
  obtain ⟨h1, h2⟩ := hs
  unfold Qp
  rw [pv_iff (by omega) (by omega) (by omega) (by omega)]
  omega
theorem is_step {b : Bool} {s t : St} (hs : s.ok) (ht : t.ok) {M : Prop} (hb : b = true ↔ M) :
    (sel (sel b true (sel (decide ((t.a : Int) = s.a)) (decide ((t.b : Int) = s.b)) false)) true (sel (decide ((t.a : Int) = s.b)) (decide ((t.b : Int) = s.a)) false)) = true ↔ M ∨ Qp s = Qp t := by
  rw [Qp_iff hs ht, ← hb]
  cases b <;> simp [sel] <;> omega
def Qs (l : List St) : List SP := l.map Qp
/-- what is kept of the first i -/
def Kp (m : Nat) (l : List St) (i : Nat) : List SP := Dl m (Hl (Qs (l.take i)))
theorem Kp_put {m : Nat} {l : List St} {i : Nat} (hm : 1 ≤ m) (h : i < l.length) : putL m (Qp l[i]) (Kp m l i) = Kp m l (i + 1) := by
  unfold Kp
  rw [putL_Dl _ (Hl_nodup _) hm, ← Hl_snoc, take_snoc l i h]
  simp only [Qs, List.map_append, List.map_cons, List.map_nil]
theorem Kp_new {m : Nat} {l : List St} {i : Nat} (hm : 1 ≤ m) (h : i < l.length) : Qp l[i] ∈ Kp m l (i + 1) := by
  unfold Kp
  rw [take_snoc l i h]
  unfold Qs
  rw [List.map_append, List.map_cons, List.map_nil, Hl_snoc]
  exact Dl_mem (by simpa using hm) (by simp)
theorem Kp_len {m : Nat} {l : List St} {i : Nat} (hm : 1 ≤ m) (h : i < l.length) : 1 ≤ (Kp m l (i + 1)).length ∧ (Kp m l (i + 1)).length ≤ m := by
  have h1 := List.length_pos_of_mem (Kp_new hm h)
  refine ⟨h1, ?_⟩
  unfold Kp
  rw [Dl_length]; omega
/-- the last ones, from r on, are these -/
def Lst (l : List St) (r : Nat) (la : List St) : Prop := (la.map Qp).reverse = Hl (Qs (l.drop r))
theorem Lst_nil (l : List St) : Lst l l.length [] := by simp [Lst, Qs, Hl]
theorem Lst_mem {l la : List St} {r : Nat} (h : Lst l r la) (p : SP) : p ∈ la.map Qp ↔ p ∈ Qs (l.drop r) := by
  rw [← Hl_mem p (Qs (l.drop r)), ← h, List.mem_reverse]
theorem Qs_drop {l : List St} {r : Nat} (h : r < l.length) : Qs (l.drop r) = Qp l[r] :: Qs (l.drop (r + 1)) := by
  unfold Qs
  rw [List.drop_eq_getElem_cons h]; rfl
theorem Lst_old {l la : List St} {r : Nat} (hr : r < l.length) (h : Lst l (r + 1) la) (hm : Qp l[r] ∈ la.map Qp) : Lst l r la := by
  unfold Lst
  rw [Qs_drop hr, Hl, if_pos ((Lst_mem h _).1 hm)]
  exact h
theorem Lst_new {l la : List St} {r : Nat} (hr : r < l.length) (h : Lst l (r + 1) la) (hm : Qp l[r] ∉ la.map Qp) : Lst l r (la ++ [l[r]]) := by
  unfold Lst
  rw [Qs_drop hr, Hl, if_neg (fun hh => hm ((Lst_mem h _).2 hh)), ← h]
  simp
theorem Lst_split {l la : List St} {r : Nat} (h : Lst l r la) : ∃ Y, Hl (Qs l) = Y ++ (la.map Qp).reverse := by
  obtain ⟨Y, e⟩ := Hl_suffix (Qs (l.take r)) (Qs (l.drop r))
  refine ⟨Y, ?_⟩
  rw [h, ← e]
  unfold Qs
  rw [← List.map_append, List.take_append_drop]
theorem Lst_in {m r : Nat} {l la : List St} (h : Lst l r la) (hm : la.length ≤ m) {s : St} (hs : s ∈ la) : Qp s ∈ Kp m l l.length := by
  obtain ⟨Y, e⟩ := Lst_split h
  unfold Kp
  rw [List.take_length, e]
  exact Dl_mem (by simpa using hm) (List.mem_reverse.2 (List.mem_map.2 ⟨s, hs, rfl⟩))
theorem Lst_end {m r : Nat} {l la : List St} (h : Lst l r la) (hm : la.length ≤ m) (he : r = 0 ∨ la.length = m) : (Kp m l l.length).length = la.length := by
  obtain ⟨Y, e⟩ := Lst_split h
  unfold Kp
  rw [List.take_length, Dl_length]
  rcases he with rfl | he
  · have : Hl (Qs l) = (la.map Qp).reverse := h.symm
    rw [this]; simp; omega
  · rw [e]; simp; omega
theorem Kp_not {m i : Nat} {l : List St} (hok : ∀ s ∈ l, s.ok) : pv 1000 0 ∉ Kp m l i := by
  intro h
  have h1 := (Hl_mem _ _).1 (List.mem_of_mem_drop h)
  obtain ⟨s, hs, e⟩ := List.mem_map.1 h1
  have h2 := hok s (List.mem_of_mem_take hs)
  obtain ⟨h3, h4⟩ := h2
  unfold Qp at e
  rw [pv_iff (by omega) (by omega) (by omega) (by omega)] at e
  omega
end Go.Proofs.YtmibjillclfogaaDoor

