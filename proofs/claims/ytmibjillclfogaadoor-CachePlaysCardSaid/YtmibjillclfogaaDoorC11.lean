/-
  What a cache keeps, in plain lists; a cache over a law's run.
-/
import Derived.Test.YtmibjillclfogaaDoorC10
namespace Go.Proofs.YtmibjillclfogaaDoor
open Go Go.RowKit Go.Proofs.Bw
set_option linter.unusedVariables false
set_option linter.unusedSimpArgs false

/-- the last m of a list -/
def Dl (m : Nat) (L : List SP) : List SP := L.drop (L.length - m)
theorem Dl_length (m : Nat) (L : List SP) : (Dl m L).length = min m L.length := by unfold Dl; rw [List.length_drop]; omega
theorem Dl_le {m : Nat} {L : List SP} (h : L.length ≤ m) : Dl m L = L := by unfold Dl; rw [show L.length - m = 0 by omega]; rfl
theorem Dl_append {m : Nat} {Y Z : List SP} (h : m ≤ Z.length) : Dl m (Y ++ Z) = Dl m Z := by
  unfold Dl
  rw [List.length_append, List.drop_append, List.drop_eq_nil_of_le (by omega), List.nil_append]
  congr 1; omega
theorem Dl_mem {m : Nat} {Y Z : List SP} {z : SP} (h : Z.length ≤ m) (hz : z ∈ Z) : z ∈ Dl m (Y ++ Z) := by
  unfold Dl
  rw [List.length_append, List.drop_append, List.mem_append]
  right
  rw [show Y.length + Z.length - m - Y.length = 0 by omega]; exact hz
theorem Dl_not {m : Nat} {Y Z : List SP} {z : SP} (h : m ≤ Z.length) (hz : z ∉ Z) : z ∉ Dl m (Y ++ Z) := by
  rw [Dl_append h]
  exact fun hm => hz (List.mem_of_mem_drop hm)
theorem flt_append (p : SP) (a b : List SP) : flt p (a ++ b) = flt p a ++ flt p b := by unfold flt; rw [List.filter_append]
theorem flt_cons (p q : SP) (l : List SP) : flt p (q :: l) = if q = p then flt p l else q :: flt p l := by
  unfold flt
  by_cases h : q = p <;> simp [h]
theorem flt_len (p : SP) : ∀ {l : List SP}, l.Nodup → l.length ≤ (flt p l).length + 1
  | [], _ => by simp
  | a :: r, h => by
    rw [List.nodup_cons] at h
    rw [flt_cons]
    by_cases e : a = p
    · rw [if_pos e, flt_none p r (by rw [← e]; exact h.1)]; simp
    · rw [if_neg e]
      have := flt_len p h.2
      simp only [List.length_cons]; omega
theorem putL_Dl {m : Nat} {L : List SP} (p : SP) (hn : L.Nodup) (hm : 1 ≤ m) : putL m p (Dl m L) = Dl m (flt p L ++ [p]) := by
  have hd : (Dl m L).Nodup := hn.sublist (List.drop_sublist _ _)
  have hl1 : (flt p (Dl m L)).length ≤ (Dl m L).length := List.length_filter_le _ _
  have hl2 := flt_len p hd
  have e1 : putL m p (Dl m L) = Dl m (flt p (Dl m L) ++ [p]) := by
    rw [Dl_length] at hl1
    simp only [putL, flt_if]
    unfold Dl at hl1 ⊢
    split
    · rename_i h
      simp only [List.length_append, List.length_cons, List.length_nil] at h ⊢
      congr 1; omega
    · rename_i h
      simp only [List.length_append, List.length_cons, List.length_nil] at h ⊢
      rw [show (flt p (List.drop (L.length - m) L)).length + (0 + 1) - m = 0 by omega, List.drop_zero]
  have e2 : L = L.take (L.length - m) ++ Dl m L := (List.take_append_drop _ _).symm
  rw [e1]
  conv => rhs; rw [e2, flt_append, List.append_assoc]
  by_cases h : L.length ≤ m
  · rw [show L.length - m = 0 by omega, List.take_zero]; rfl
  · rw [Dl_length] at hl2
    exact (@Dl_append m (flt p (L.take (L.length - m))) (flt p (Dl m L) ++ [p]) (by rw [List.length_append, List.length_cons, List.length_nil]; omega)).symm
/-- pairs, each at its last place -/
def Hl : List SP → List SP
  | [] => []
  | q :: S => if q ∈ S then Hl S else q :: Hl S
theorem Hl_mem (x : SP) : ∀ S, x ∈ Hl S ↔ x ∈ S
  | [] => by simp [Hl]
  | q :: S => by
    unfold Hl
    split
    · rename_i h
      rw [Hl_mem x S, List.mem_cons]
      exact ⟨.inr, fun h1 => by rcases h1 with rfl | h1; exact h; exact h1⟩
    · rw [List.mem_cons, Hl_mem x S, List.mem_cons]
theorem Hl_nodup : ∀ S, (Hl S).Nodup
  | [] => List.nodup_nil
  | q :: S => by
    unfold Hl
    split
    · exact Hl_nodup S
    · rename_i h
      rw [List.nodup_cons]
      exact ⟨fun h1 => h ((Hl_mem q S).1 h1), Hl_nodup S⟩
theorem flt_flt (p : SP) (l : List SP) : flt p (flt p l) = flt p l := flt_none p _ fun h => ((flt_mem p l p).1 h).2 rfl
theorem Hl_snoc (p : SP) : ∀ S, Hl (S ++ [p]) = flt p (Hl S) ++ [p]
  | [] => by simp [Hl, flt]
  | q :: S => by
    rw [List.cons_append]
    unfold Hl
    rw [Hl_snoc p S]
    by_cases h1 : q ∈ S
    · rw [if_pos (List.mem_append_left _ h1), if_pos h1]
    · rw [if_neg h1, flt_cons]
      by_cases h2 : q = p
      · rw [if_pos (by rw [h2]; simp), if_pos h2]
      · rw [if_neg (by simp [h1, h2]), if_neg h2]; rfl
theorem Hl_suffix : ∀ (A B : List SP), ∃ Y, Hl (A ++ B) = Y ++ Hl B
  | [], B => ⟨[], rfl⟩
  | q :: A, B => by
    obtain ⟨Y, h⟩ := Hl_suffix A B
    have e : Hl (q :: A ++ B) = if q ∈ A ++ B then Hl (A ++ B) else q :: Hl (A ++ B) := rfl
    rw [e]
    split
    · exact ⟨Y, h⟩
    · exact ⟨q :: Y, by rw [h]; rfl⟩
/-- a cache over a law's run that began in w0 -/
structure CS (w0 : World) (g : Nat) (q : Ch) (w : World) : Prop where
  ex : Ext w0 w
  ok : q.ok
  at_ : ∃ lo own, w0.heap.size ≤ lo ∧ ChAt w lo g q own ∧ ∀ k, own k → w0.heap.size ≤ k
theorem CS.ext {w0 w w' : World} {g : Nat} {q : Ch} (h : CS w0 g q w) (x : Ext w w') : CS w0 g q w' := by
  obtain ⟨h1, h2, lo, own, h3, h4, h5⟩ := h
  exact ⟨h1.trans x, h2, lo, own, h3, h4.ext x, h5⟩
theorem cVt_arr (n : Int) : (.agg ([.int .u8 2, .int .i64 n, .string (⟨#[]⟩ : ByteArray), .slice none 0 0, .slice none 0 0].toArray) : Value) = .agg (cVt n).toArray := rfl
theorem New_CS {w0 w : World} (most : Int) (h : 1 ≤ most ∧ most ≤ 4096) (hx : Ext w0 w) :
    Runs Tryd.prog 9 #[.int .i64 most] w fun v w' => Ext w w' ∧ ∃ g, v = .tuple #[.pointer (some ⟨g, 0, none⟩), .int .i64 0] ∧ CS w0 g ⟨most.toNat, []⟩ w' ∧ w.heap.size ≤ g := by
  refine (New_runs most w).mono ?_
  rintro v w' ⟨x, hy, -⟩
  obtain ⟨g, own, rfl, h1, h2, h3⟩ := hy h
  have := hx.size
  exact ⟨x, g, rfl, ⟨hx.trans x, ⟨by simp only; omega, by simp only; omega, Nat.zero_le _, List.nodup_nil⟩, _, own, hx.size, h2, fun k hk => by have := h3 k hk; omega⟩, h1⟩
theorem Put_CS {w0 w : World} {g : Nat} {q : Ch} (hT : Tb w0.heap.size w0) (h : CS w0 g q w) (a b : Int) (ha : 0 ≤ a ∧ a ≤ 1048576) (hb : 0 ≤ b ∧ b ≤ 1048576) :
    Runs Tryd.prog 12 #[.pointer (some ⟨g, 0, none⟩), .agg (cVt a).toArray, .agg (cVt b).toArray] w fun v w' => v = .tuple #[] ∧ CS w0 g ⟨q.most, putL q.most (pv a b) q.l⟩ w' := by
  obtain ⟨h1, h2, lo, own, h3, h4, h5⟩ := h
  have hs := h4.size
  refine (Put_runs g q own (Vt a) (Vt b) (cVt a) (cVt b) w (fun _ => False) h4 h2 (VT_V _ _ _ (by unfold i64ok; omega)) (VT_V _ _ _ (by unfold i64ok; omega)) (hT.ext h1 (Nat.le_refl _)) h1.size hs).mono ?_
  rintro v w' ⟨rfl, own', h6, m6, f6⟩
  have hk := Ch.put_ok h2 (Vt a) (Vt b)
  rw [Ch.put_may (mayV ha) (mayV hb)] at h6 hk
  refine ⟨rfl, Ext.own h1 m6 h5, hk, lo, own', h3, h6, fun k hk => ?_⟩
  rcases f6 k hk with h | h
  · exact h5 k h
  · have := h1.size; omega
theorem Has_CS {w0 w : World} {g : Nat} {q : Ch} (hT : Tb w0.heap.size w0) (h : CS w0 g q w) (a b : Int) (ha : 0 ≤ a ∧ a ≤ 1048576) (hb : 0 ≤ b ∧ b ≤ 1048576) :
    Runs Tryd.prog 10 #[.pointer (some ⟨g, 0, none⟩), .agg (cVt a).toArray, .agg (cVt b).toArray] w fun v w' => v = .bool (decide (pv a b ∈ q.l)) ∧ Ext w w' := by
  obtain ⟨h1, h2, lo, own, h3, h4, h5⟩ := h
  have := Has_runs g q own (Vt a) (Vt b) (cVt a) (cVt b) w (fun _ => False) h4 (VT_V _ _ _ (by unfold i64ok; omega)) (VT_V _ _ _ (by unfold i64ok; omega)) (hT.ext h1 (Nat.le_refl _)) h1.size
  rw [mayV ha, mayV hb, Bool.true_and, Bool.true_and] at this
  exact this
theorem Len_CS {w0 w : World} {g : Nat} {q : Ch} (h : CS w0 g q w) :
    Runs Tryd.prog 14 #[.pointer (some ⟨g, 0, none⟩)] w fun v w' => v = .int .i64 q.l.length ∧ Ext w w' := by
  obtain ⟨h1, h2, lo, own, h3, h4, h5⟩ := h
  exact Len_runs g q own w h4
theorem works_CS {w0 w : World} (hT : Tb w0.heap.size w0) (h : Ext w0 w) : Runs Tryd.prog 8 #[] w fun v w' => v = .bool true ∧ Ext w w' :=
  works_runs w (hT.ext h (Nat.le_refl _)) h.size
end Go.Proofs.YtmibjillclfogaaDoor

