/-
  CacheEldest: the plain law.
-/
import Derived.Test.YtmibjillclfogaaDoorC11
namespace Go.Proofs.YtmibjillclfogaaDoor
open Go Go.RowKit Go.Proofs.Bw
set_option linter.unusedVariables false
set_option linter.unusedSimpArgs false

/-- the i-th pair -/
def Pp (i : Nat) : SP := pv ((2 * i : Nat) : Int) ((2 * i + 1 : Nat) : Int)
theorem Pp_inj {i j : Nat} (hi : i < 500000) (hj : j < 500000) : Pp i = Pp j ↔ i = j := by
  unfold Pp
  rw [pv_iff (by omega) (by omega) (by omega) (by omega)]
  omega
theorem Pp_swap (i : Nat) (hi : i < 500000) : pv ((2 * i + 1 : Nat) : Int) ((2 * i : Nat) : Int) = Pp i := by
  unfold Pp
  rw [pv_iff (by omega) (by omega) (by omega) (by omega)]
  omega
/-- the pairs from a on, n of them -/
def Pps (a n : Nat) : List SP := (List.range n).map fun i => Pp (a + i)
theorem Pps_length (a n : Nat) : (Pps a n).length = n := by simp [Pps]
theorem Pps_succ (a n : Nat) : Pps a (n + 1) = Pps a n ++ [Pp (a + n)] := by simp [Pps, List.range_succ]
theorem Pps_mem {a n j : Nat} (ha : a + n ≤ 500000) (hj : j < 500000) : Pp j ∈ Pps a n ↔ a ≤ j ∧ j < a + n := by
  unfold Pps
  rw [List.mem_map]
  constructor
  · rintro ⟨i, hi, h⟩
    rw [List.mem_range] at hi
    rw [Pp_inj (by omega) hj] at h
    omega
  · rintro ⟨h1, h2⟩
    exact ⟨j - a, List.mem_range.2 (by omega), by rw [show a + (j - a) = j by omega]⟩
theorem Pps_nodup {a : Nat} : ∀ {n : Nat}, a + n ≤ 500000 → (Pps a n).Nodup
  | 0, _ => by simp [Pps]
  | n + 1, h => by
    rw [Pps_succ, List.nodup_append]
    refine ⟨Pps_nodup (by omega), by simp, fun x hx y hy e => ?_⟩
    rw [List.mem_singleton] at hy
    subst hy; subst e
    have := (Pps_mem (by omega) (by omega)).1 hx
    omega
theorem Pps_split (a b n : Nat) (h : b ≤ n) : Pps a n = Pps a b ++ Pps (a + b) (n - b) := by
  unfold Pps
  conv => lhs; rw [show n = b + (n - b) by omega, List.range_add, List.map_append, List.map_map]
  congr 1
  apply List.map_congr_left
  intro i _
  simp only [Function.comp]; rw [Nat.add_assoc]
/-- put of a new one -/
theorem putL_new {m : Nat} {L : List SP} {p : SP} (hn : L.Nodup) (hm : 1 ≤ m) (hp : p ∉ L) : putL m p (Dl m L) = Dl m (L ++ [p]) := by
  rw [putL_Dl p hn hm, flt_none p L hp]
theorem eld_put {m i : Nat} (hm : 1 ≤ m) (hi : i < 400000) : putL m (Pp i) (Dl m (Pps 0 i)) = Dl m (Pps 0 (i + 1)) := by
  rw [putL_new (Pps_nodup (by omega)) hm (fun h => by have := (Pps_mem (by omega) (by omega)).1 h; omega), Pps_succ, Nat.zero_add]
theorem eld_has {m k i : Nat} (hi : i < k) (hk : k < 400000) : Pp i ∈ Dl m (Pps 0 k) ↔ k ≤ i + m := by
  constructor
  · intro h
    apply Decidable.byContradiction
    intro hn
    rw [Pps_split 0 (i + 1) k (by omega)] at h
    exact Dl_not (by rw [Pps_length]; omega) (fun h1 => by have := (Pps_mem (by omega) (by omega)).1 h1; omega) h
  · intro h
    rw [Pps_split 0 i k (by omega)]
    exact Dl_mem (by rw [Pps_length]; omega) ((Pps_mem (by omega) (by omega)).2 (by omega))
/-- behind the second put of at -/
def eldL (k at_ j : Nat) : List SP := flt (Pp at_) (Pps 0 k) ++ [Pp at_] ++ Pps 500 j
theorem eldL_nodup {k at_ j : Nat} (hk : k < 400) (ha : at_ < k) (hj : j < 400) : (eldL k at_ j).Nodup := by
  unfold eldL
  rw [List.nodup_append]
  refine ⟨flt_nodup (Pps_nodup (by omega)), Pps_nodup (by omega), fun x hx y hy e => ?_⟩
  subst e
  rcases List.mem_append.1 hx with h | h
  · have h1 := ((flt_mem _ _ _).1 h).1
    unfold Pps at hy
    obtain ⟨i, hi, rfl⟩ := List.mem_map.1 hy
    rw [List.mem_range] at hi
    have := (Pps_mem (by omega) (by omega)).1 h1
    omega
  · rw [List.mem_singleton] at h
    subst h
    have := (Pps_mem (by omega) (by omega)).1 hy
    omega
theorem eld_again {m k at_ : Nat} (hm : 1 ≤ m) (hk : k < 400) (ha : at_ < k) : putL m (Pp at_) (Dl m (Pps 0 k)) = Dl m (eldL k at_ 0) := by
  rw [putL_Dl _ (Pps_nodup (by omega)) hm]
  simp [eldL, Pps]
theorem flt_eq_len {p : SP} : ∀ {l : List SP}, l.Nodup → p ∈ l → (flt p l).length + 1 = l.length
  | [], _, h => by cases h
  | a :: r, hn, h => by
    rw [List.nodup_cons] at hn
    rw [flt_cons]
    by_cases e : a = p
    · rw [if_pos e, flt_none p r (by rw [← e]; exact hn.1)]; rfl
    · rw [if_neg e]
      rcases List.mem_cons.1 h with h1 | h1
      · exact absurd h1.symm e
      · have := flt_eq_len hn.2 h1
        simp only [List.length_cons]; omega
theorem eldL_length {k at_ j : Nat} (hk : k < 400) (ha : at_ < k) : (eldL k at_ j).length = k + j := by
  unfold eldL
  rw [List.length_append, List.length_append, Pps_length, List.length_cons, List.length_nil]
  have := flt_eq_len (Pps_nodup (by omega) : (Pps 0 k).Nodup) ((Pps_mem (j := at_) (by omega) (by omega)).2 (by omega))
  rw [Pps_length] at this
  omega
theorem eld_put2 {m k at_ j : Nat} (hm : 1 ≤ m) (hk : k < 400) (ha : at_ < k) (hj : j < 100) : putL m (Pp (500 + j)) (Dl m (eldL k at_ j)) = Dl m (eldL k at_ (j + 1)) := by
  rw [putL_new (eldL_nodup hk ha (by omega)) hm]
  · unfold eldL; rw [Pps_succ, List.append_assoc _ (Pps 500 j)]
  · intro h
    unfold eldL at h
    rcases List.mem_append.1 h with h | h
    · rcases List.mem_append.1 h with h | h
      · have := (Pps_mem (by omega) (by omega)).1 ((flt_mem _ _ _).1 h).1
        omega
      · rw [List.mem_singleton, Pp_inj (by omega) (by omega)] at h; omega
    · have := (Pps_mem (by omega) (by omega)).1 h
      omega
theorem eld_stay {m k at_ j : Nat} (hj : j + 1 ≤ m) : Pp at_ ∈ Dl m (eldL k at_ j) := by
  unfold eldL
  rw [List.append_assoc]
  exact Dl_mem (by rw [List.length_append, List.length_cons, List.length_nil, Pps_length]; omega) (by simp)
theorem eld_gone {m k at_ : Nat} (hm : 1 ≤ m) (hm2 : m < 100) (hk : k < 400) (ha : at_ < k) : Pp at_ ∉ putL m (Pp 2500) (Dl m (eldL k at_ (m - 1))) := by
  rw [putL_new (eldL_nodup hk ha (by omega)) hm]
  · unfold eldL
    rw [List.append_assoc]
    refine Dl_not (by rw [List.length_append, List.length_cons, List.length_nil, Pps_length]; omega) fun h => ?_
    rcases List.mem_append.1 h with h | h
    · have := (Pps_mem (by omega) (by omega)).1 h
      omega
    · rw [List.mem_singleton, Pp_inj (by omega) (by omega)] at h; omega
  · intro h
    unfold eldL at h
    rcases List.mem_append.1 h with h | h
    · rcases List.mem_append.1 h with h | h
      · have := (Pps_mem (by omega) (by omega)).1 ((flt_mem _ _ _).1 h).1
        omega
      · rw [List.mem_singleton, Pp_inj (by omega) (by omega)] at h; omega
    · have := (Pps_mem (by omega) (by omega)).1 h
      omega
end Go.Proofs.YtmibjillclfogaaDoor

