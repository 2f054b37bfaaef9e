/-
  The texts of terms are unlike where the terms are; pairs.
-/
import Derived.Test.YtmibjillclfogaaDoorC8
namespace Go.Proofs.YtmibjillclfogaaDoor
open Go Go.RowKit Go.Proofs.Bw
set_option linter.unusedVariables false
set_option linter.unusedSimpArgs false

def dval (l : List UInt8) : Nat := l.foldl (fun a c => a * 10 + (c.toNat - 48)) 0
theorem dg_nat {d : Nat} (h : d < 10) : (UInt8.ofNat (48 + d)).toNat = 48 + d := by
  rw [UInt8.toNat_ofNat']; omega
theorem dval_dec (u : Nat) : dval (Lib.decDigits u) = u := by
  induction u using Nat.strongRecOn with
  | _ u ih =>
    rw [Lib.decDigits]
    split
    · rename_i h
      simp only [dval, List.foldl_cons, List.foldl_nil, dg_nat h]; omega
    · rename_i h
      have h1 := ih (u / 10) (by omega)
      unfold dval at h1 ⊢
      rw [List.foldl_append, h1]
      simp only [List.foldl_cons, List.foldl_nil, dg_nat (Nat.mod_lt u (by omega : 10 > 0))]; omega
theorem dec_digit (u : Nat) : ∀ c ∈ Lib.decDigits u, 48 ≤ c.toNat ∧ c.toNat ≤ 57 := by
  induction u using Nat.strongRecOn with
  | _ u ih =>
    rw [Lib.decDigits]
    split
    · rename_i h
      intro c hc
      rw [List.mem_singleton.1 hc, dg_nat h]; omega
    · rename_i h
      intro c hc
      rcases List.mem_append.1 hc with hc | hc
      · exact ih (u / 10) (by omega) c hc
      · rw [List.mem_singleton.1 hc, dg_nat (Nat.mod_lt u (by omega : 10 > 0))]; omega
theorem dec_inj {a b : Nat} (h : Lib.decDigits a = Lib.decDigits b) : a = b := by rw [← dval_dec a, h, dval_dec]
theorem dec_no45 {a : Nat} {l : List UInt8} (h : Lib.decDigits a = 45 :: l) : False := by
  have := dec_digit a 45 (by rw [h]; exact List.mem_cons_self)
  revert this; decide
theorem itoa_inj {i j : Int} (h : Lib.itoa i = Lib.itoa j) : i = j := by
  unfold Lib.itoa at h
  split at h <;> split at h
  · injection h with _ h; have := dec_inj h; omega
  · exact (dec_no45 h.symm).elim
  · exact (dec_no45 h).elim
  · have := dec_inj h; omega
theorem itoa_sp (i : Int) : ∀ c ∈ Lib.itoa i, c ≠ 32 := by
  intro c hc e
  subst e
  unfold Lib.itoa at hc
  split at hc
  · rcases List.mem_cons.1 hc with h | h
    · revert h; decide
    · have := dec_digit _ _ h; revert this; decide
  · have := dec_digit _ _ hc; revert this; decide
theorem cut32 : ∀ {a b x y : List UInt8}, (∀ c ∈ a, c ≠ 32) → (∀ c ∈ b, c ≠ 32) → a ++ 32 :: x = b ++ 32 :: y → a = b ∧ x = y
  | [], [], x, y, _, _, h => ⟨rfl, by injection h⟩
  | [], b :: r, x, y, _, hb, h => by injection h with h1 _; exact (hb b List.mem_cons_self h1.symm).elim
  | a :: q, [], x, y, ha, _, h => by injection h with h1 _; exact (ha a List.mem_cons_self h1).elim
  | a :: q, b :: r, x, y, ha, hb, h => by
    injection h with h1 h2
    obtain ⟨e1, e2⟩ := cut32 (fun c hc => ha c (List.mem_cons_of_mem _ hc)) (fun c hc => hb c (List.mem_cons_of_mem _ hc)) h2
    exact ⟨by rw [h1, e1], e2⟩
theorem encN_cut {i j : Int} {x y : List UInt8} (h : encN i ++ x = encN j ++ y) : i = j ∧ x = y := by
  unfold encN at h
  rw [List.append_assoc, List.append_assoc] at h
  obtain ⟨e1, e2⟩ := cut32 (itoa_sp i) (itoa_sp j) h
  exact ⟨itoa_inj e1, e2⟩
theorem encPs_four (l : L) : encPs l 4 = encN l.p0 ++ (encN l.p1 ++ (encN l.p2 ++ encN l.p3)) := by
  show (List.range 4).flatMap (fun i => encN (l.p i)) = _
  rw [show List.range 4 = [0, 1, 2, 3] from rfl]
  simp [L.p]
theorem encL_cut {l m : L} {x y : List UInt8} (h : encL l ++ x = encL m ++ y) : l = m ∧ x = y := by
  unfold encL at h
  rw [encPs_four, encPs_four] at h
  simp only [List.append_assoc] at h
  obtain ⟨e1, h⟩ := encN_cut h
  obtain ⟨e2, h⟩ := encN_cut h
  obtain ⟨e3, h⟩ := encN_cut h
  obtain ⟨e4, h⟩ := encN_cut h
  obtain ⟨e5, h⟩ := encN_cut h
  refine ⟨?_, h⟩
  cases l; cases m
  simp only at e1 e2 e3 e4 e5
  subst e1; subst e2; subst e3; subst e4; subst e5; rfl
theorem encLs_cut : ∀ {l m : List L} {x y : List UInt8}, l.length = m.length → encLs l ++ x = encLs m ++ y → l = m ∧ x = y
  | [], [], x, y, _, h => ⟨rfl, h⟩
  | a :: l, b :: m, x, y, hl, h => by
    simp only [encLs, List.flatMap_cons, List.append_assoc] at h
    obtain ⟨e1, h⟩ := encL_cut h
    obtain ⟨e2, h⟩ := encLs_cut (l := l) (m := m) (by simpa using hl) h
    exact ⟨by rw [e1, e2], h⟩
  | [], b :: m, x, y, hl, h => by simp at hl
  | a :: l, [], x, y, hl, h => by simp at hl
theorem letter32 {c : UInt8} (h : letterN c.toNat = true) : c ≠ 32 := by
  intro e; subst e
  revert h; decide
theorem name_sp {k n : Int} {s : ByteArray} {ls : List L} {ts : List T} (h : nodeB (.mk k n s ls ts) = true) : ∀ c ∈ s.data.toList, c ≠ 32 := by
  have h1 := ((nodeB_iff k n s ls ts).1 h).2.2.2.1
  split at h1
  · unfold nameB at h1
    rw [Bool.and_eq_true] at h1
    intro c hc
    exact letter32 (List.all_eq_true.1 h1.1 c hc)
  · intro c hc
    have : s.data.toList = [] := by
      apply List.eq_nil_of_length_eq_zero
      simpa using h1
    rw [this] at hc; cases hc
theorem encT_cut (a : T) : ∀ (b : T) (x y : List UInt8), nodes a = true → nodes b = true → encT a ++ x = encT b ++ y → a = b ∧ x = y := by
  refine T.rec (motive_1 := fun a => ∀ (b : T) (x y : List UInt8), nodes a = true → nodes b = true → encT a ++ x = encT b ++ y → a = b ∧ x = y)
    (motive_2 := fun a => ∀ (b : List T) (x y : List UInt8), nodess a = true → nodess b = true → a.length = b.length → encTs a ++ x = encTs b ++ y → a = b ∧ x = y) ?_ ?_ ?_ a
  · intro k n s ls ts ih b x y ha hb h
    obtain ⟨k', n', s', ls', ts'⟩ := b
    simp only [nodes, Bool.and_eq_true] at ha hb
    simp only [encT, List.append_assoc, List.cons_append, List.nil_append] at h
    obtain ⟨e1, h⟩ := encN_cut h
    obtain ⟨e2, h⟩ := encN_cut h
    obtain ⟨e3, h⟩ := cut32 (name_sp ha.1) (name_sp hb.1) h
    obtain ⟨e4, h⟩ := encN_cut h
    obtain ⟨e5, h⟩ := encLs_cut (by omega) h
    have l1 := ((nodeB_iff k n s ls ts).1 ha.1).2.1
    have l2 := ((nodeB_iff k' n' s' ls' ts').1 hb.1).2.1
    obtain ⟨e6, h⟩ := ih ts' x y ha.2 hb.2 (by rw [e1] at l1; omega) h
    refine ⟨?_, h⟩
    have e3' : s = s' := by
      cases s; cases s'
      simp only at e3
      rw [Array.toList_inj] at e3
      rw [e3]
    rw [e1, e2, e3', e5, e6]
  · intro b x y _ _ hl h
    cases b with
    | nil => exact ⟨rfl, h⟩
    | cons _ _ => simp at hl
  · intro t ts ih1 ih2 b x y ha hb hl h
    cases b with
    | nil => simp at hl
    | cons u us =>
      simp only [nodess, Bool.and_eq_true] at ha hb
      simp only [encTs, List.append_assoc] at h
      obtain ⟨e1, h⟩ := ih1 u _ _ ha.1 hb.1 h
      obtain ⟨e2, h⟩ := ih2 us _ _ ha.2 hb.2 (by simpa using hl) h
      exact ⟨by rw [e1, e2], h⟩
theorem encT_inj {a b : T} (ha : nodes a = true) (hb : nodes b = true) (h : encT a = encT b) : a = b :=
  (encT_cut a b [] [] ha hb (by rw [h])).1
theorem prP_comm (x y : List UInt8) : prP x y = prP y x := by
  unfold prP
  by_cases h1 : x ≤ y <;> by_cases h2 : y ≤ x
  · rw [List.le_antisymm h1 h2]
  · rw [if_pos h1, if_neg h2]
  · rw [if_neg h1, if_pos h2]
  · exact absurd (List.le_total x y) (fun h => h.elim h1 h2)
theorem prP_iff (x y x' y' : List UInt8) : prP x y = prP x' y' ↔ (x = x' ∧ y = y') ∨ (x = y' ∧ y = x') := by
  constructor
  · intro h
    unfold prP at h
    split at h <;> split at h <;> (injection h with h1 h2; simp [h1, h2])
  · rintro (⟨rfl, rfl⟩ | ⟨rfl, rfl⟩)
    · rfl
    · exact prP_comm _ _
theorem mayT_nodes {a : T} (h : mayT a = true) : nodes a = true := by
  unfold mayT mayB at h
  rw [Bool.and_eq_true] at h; exact h.1
theorem prT_iff {a b c d : T} (ha : mayT a = true) (hb : mayT b = true) (hc : mayT c = true) (hd : mayT d = true) : prT a b = prT c d ↔ (a = c ∧ b = d) ∨ (a = d ∧ b = c) := by
  unfold prT
  rw [if_pos ⟨ha, hb⟩, if_pos ⟨hc, hd⟩, prP_iff]
  have i1 : encT a = encT c ↔ a = c := ⟨encT_inj (mayT_nodes ha) (mayT_nodes hc), fun h => by rw [h]⟩
  have i2 : encT b = encT d ↔ b = d := ⟨encT_inj (mayT_nodes hb) (mayT_nodes hd), fun h => by rw [h]⟩
  have i3 : encT a = encT d ↔ a = d := ⟨encT_inj (mayT_nodes ha) (mayT_nodes hd), fun h => by rw [h]⟩
  have i4 : encT b = encT c ↔ b = c := ⟨encT_inj (mayT_nodes hb) (mayT_nodes hc), fun h => by rw [h]⟩
  rw [i1, i2, i3, i4]
end Go.Proofs.YtmibjillclfogaaDoor

