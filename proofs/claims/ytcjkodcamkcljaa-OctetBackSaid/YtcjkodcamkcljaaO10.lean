/-
  Items as bytes, and their reading; plain laws of both.
-/
import Derived.Test.YtcjkodcamkcljaaO9
namespace Go.Proofs.Ytcjkodcamkcljaa
open Go Go.RowKit Go.Proofs.Bw
set_option linter.unusedVariables false
set_option linter.unusedSimpArgs false

structure Itm where
  n : Nat
  s : ByteArray
def Itm.cells (t : Itm) : List Value := [.int .u64 t.n, .string t.s]
def Itm.ok (t : Itm) : Prop := t.n < 2 ^ 64 ∧ t.s.size ≤ 9223372036854775807
def iR (l : List Itm) : List (List Value) := l.map Itm.cells
/-- an item's bytes; those of some -/
def itB (t : Itm) : List UInt8 := bif nameB t.s then num7 t.s.size ++ t.s.data.toList else num7 t.n
def itsB (l : List Itm) : List UInt8 := l.flatMap itB
theorem itsB_cons (t : Itm) (l : List Itm) : itsB (t :: l) = itB t ++ itsB l := rfl
theorem itsB_snoc (l : List Itm) (t : Itm) : itsB (l ++ [t]) = itsB l ++ itB t := by simp [itsB]
theorem nameB_size {s : ByteArray} (h : nameB s = true) : 0 < s.size ∧ s.size ≤ 32 := by
  unfold nameB at h
  simp at h
  have : s.size ≠ 0 := fun h0 => by
    have e : s = ⟨#[]⟩ := (bytes_nil s).2 h0
    subst e; simp_all
  omega
theorem itB_len {t : Itm} (h : t.ok) : 1 ≤ (itB t).length ∧ (itB t).length ≤ 42 := by
  unfold itB
  cases hn : nameB t.s with
  | true =>
    have h1 := nameB_size hn
    have h2 := num7_len t.s.size (by omega)
    have h3 : t.s.data.toList.length = t.s.size := rfl
    simp only [cond_true, List.length_append, h3]; omega
  | false => have := num7_len t.n h.1; simp only [cond_false]; omega
theorem itsB_len {l : List Itm} (h : ∀ t ∈ l, t.ok) : (itsB l).length ≤ 42 * l.length := by
  induction l with
  | nil => simp [itsB]
  | cons t r ih =>
    have h1 := itB_len (h t List.mem_cons_self)
    have h2 := ih fun x hx => h x (List.mem_cons_of_mem _ hx)
    rw [itsB_cons, List.length_append, List.length_cons]; omega
/-- one item read: the reader then, and is it this one? -/
def readI (r : Rdr) (t : Itm) : Rdr × Bool :=
  if nameB t.s = true then ((r.read (⟨#[]⟩ : ByteArray) fun bs => nameR bs ⟨#[]⟩).1, decide ((r.read (⟨#[]⟩ : ByteArray) fun bs => nameR bs ⟨#[]⟩).2 = t.s) && decide ((r.read (⟨#[]⟩ : ByteArray) fun bs => nameR bs ⟨#[]⟩).1.bad = 0))
  else ((r.read 0 fun bs => numR bs t.n 0).1, decide ((r.read 0 fun bs => numR bs t.n 0).2 = t.n) && decide ((r.read 0 fun bs => numR bs t.n 0).1.bad = 0))
def readsM : Rdr → List Itm → Rdr × Bool
  | r, [] => (r, true)
  | r, t :: l => if (readI r t).2 = true then readsM (readI r t).1 l else ((readI r t).1, false)
theorem take_left' {a b : List UInt8} {k : Nat} (h : a.take k = b) (hk : k ≤ a.length) : k = b.length ∧ a = b ++ a.drop k := by
  refine ⟨by rw [← h, List.length_take]; omega, ?_⟩
  rw [← h, List.take_append_drop]
theorem nameR_ok {bs : List UInt8} {s0 : ByteArray} (h : (nameR bs s0).2.2 = 0) : ∃ n k, numOf bs = some (n, k) ∧ k + n ≤ bs.length ∧ nameR bs s0 = (strOf ((bs.drop k).take n), k + n, 0) := by
  cases hq : numOf bs with
  | none => unfold nameR at h; rw [hq] at h; simp at h
  | some p =>
    obtain ⟨n, k⟩ := p
    have hk := (numOf_got hq).2.1
    unfold nameR at h ⊢
    rw [hq] at h ⊢
    simp only at h ⊢
    by_cases c1 : 32 < n
    · rw [if_pos c1] at h; simp at h
    · rw [if_neg c1] at h ⊢
      by_cases c2 : (bs.length : Int) - k < n
      · rw [if_pos c2] at h; simp at h
      · rw [if_neg c2] at h ⊢
        by_cases c3 : nameB (strOf ((bs.drop k).take n)) = true
        · rw [if_pos c3]; exact ⟨n, k, rfl, by omega, rfl⟩
        · rw [if_neg c3] at h; simp at h
theorem numR_ok {bs : List UInt8} {most n0 : Nat} (h : (numR bs most n0).2.2 = 0) : ∃ n k, numOf bs = some (n, k) ∧ numR bs most n0 = (n, k, 0) := by
  cases hq : numOf bs with
  | none => unfold numR at h; rw [hq] at h; simp at h
  | some p =>
    obtain ⟨n, k⟩ := p
    unfold numR at h ⊢
    rw [hq] at h ⊢
    simp only at h ⊢
    by_cases c1 : most < n
    · rw [if_pos c1] at h; simp at h
    · rw [if_neg c1]; exact ⟨n, k, rfl, rfl⟩
theorem read_ok {α : Type} {r : Rdr} {x0 : α} {f : List UInt8 → α × Nat × Int} (h0 : r.bad = 0) (h : (r.read x0 f).1.bad = 0) : (f (r.bs.drop r.at_)).2.2 = 0 ∧ r.read x0 f = ({ r with at_ := r.at_ + (f (r.bs.drop r.at_)).2.1 }, (f (r.bs.drop r.at_)).1) := by
  unfold Rdr.read at h ⊢
  rw [if_neg (by simpa using h0)] at h ⊢
  by_cases he : (f (r.bs.drop r.at_)).2.2 = 0
  · rw [if_neg (by simpa using he)]; exact ⟨he, rfl⟩
  · rw [if_pos he] at h; exact absurd h he
/-- what is read as an item is its bytes -/
theorem readI_got {r : Rdr} {t : Itm} (ht : t.ok) (h0 : r.bad = 0) (h : (readI r t).2 = true) : ∃ rest, r.bs.drop r.at_ = itB t ++ rest ∧ (readI r t).1 = { r with at_ := r.at_ + (itB t).length } := by
  unfold readI at h ⊢
  unfold itB
  by_cases hn : nameB t.s = true
  · rw [if_pos hn] at h ⊢
    rw [hn, cond_true]
    simp only [Bool.and_eq_true, decide_eq_true_eq] at h
    obtain ⟨h1, h2⟩ := h
    obtain ⟨h3, h4⟩ := read_ok h0 h2
    obtain ⟨n, k, hq, hle, e⟩ := nameR_ok h3
    rw [h4] at h1 ⊢
    rw [e] at h1 ⊢
    simp only at h1 ⊢
    obtain ⟨g1, g2, g3, g4⟩ := numOf_got hq
    obtain ⟨e1, e2⟩ := take_left' g1 g2
    have e3 : t.s.data.toList = ((r.bs.drop r.at_).drop k).take n := by rw [← h1]; simp [strOf]
    have e4 : t.s.size = n := by
      have : t.s.data.toList.length = n := by rw [e3, List.length_take, List.length_drop]; omega
      exact this
    refine ⟨((r.bs.drop r.at_).drop k).drop n, ?_, ?_⟩
    · rw [e4, e3, List.append_assoc, List.take_append_drop]; exact e2
    · rw [List.length_append, e4, ← e1, e3, List.length_take, List.length_drop, Nat.min_eq_left (by omega)]
  · rw [if_neg hn] at h ⊢
    have hf : nameB t.s = false := by simpa using hn
    rw [hf, cond_false]
    simp only [Bool.and_eq_true, decide_eq_true_eq] at h
    obtain ⟨h1, h2⟩ := h
    obtain ⟨h3, h4⟩ := read_ok h0 h2
    obtain ⟨n, k, hq, e⟩ := numR_ok h3
    rw [h4] at h1 ⊢
    rw [e] at h1 ⊢
    simp only at h1 ⊢
    obtain ⟨g1, g2, g3, g4⟩ := numOf_got hq
    obtain ⟨e1, e2⟩ := take_left' g1 g2
    exact ⟨(r.bs.drop r.at_).drop k, by rw [← h1]; exact e2, by rw [← h1, ← e1]⟩
theorem read_good {α : Type} {r : Rdr} {x0 x : α} {k : Nat} {f : List UInt8 → α × Nat × Int} (h0 : r.bad = 0) (h : f (r.bs.drop r.at_) = (x, k, 0)) : r.read x0 f = ({ r with at_ := r.at_ + k }, x) := by
  unfold Rdr.read
  rw [if_neg (by simpa using h0), h]; rfl
/-- an item's bytes are read as it -/
theorem readI_put {r : Rdr} {t : Itm} {rest : List UInt8} (ht : t.ok) (h0 : r.bad = 0) (h : r.bs.drop r.at_ = itB t ++ rest) : readI r t = ({ r with at_ := r.at_ + (itB t).length }, true) := by
  unfold itB at h ⊢
  unfold readI
  by_cases hn : nameB t.s = true
  · rw [if_pos hn]
    rw [hn, cond_true] at h ⊢
    have hs := nameB_size hn
    have hq : numOf (r.bs.drop r.at_) = some (t.s.size, (num7 t.s.size).length) := by rw [h, List.append_assoc]; exact numOf_put _ (by omega) _
    have hl : t.s.data.toList.length = t.s.size := rfl
    have hd : (r.bs.drop r.at_).drop (num7 t.s.size).length = t.s.data.toList ++ rest := by rw [h, List.append_assoc, List.drop_left]
    have e : nameR (r.bs.drop r.at_) ⟨#[]⟩ = (t.s, (num7 t.s.size).length + t.s.size, 0) := by
      unfold nameR
      rw [hq]
      simp only
      have ht : ((r.bs.drop r.at_).drop (num7 t.s.size).length).take t.s.size = t.s.data.toList := by rw [hd, ← hl, List.take_left]
      have hst : strOf t.s.data.toList = t.s := by unfold strOf; simp
      rw [if_neg (by omega), if_neg (by rw [h]; simp only [List.length_append, hl]; omega), ht, hst, if_pos hn]
    rw [read_good (f := fun bs => nameR bs ⟨#[]⟩) h0 e]
    simp only [List.length_append, hl]
    simp [h0]
  · rw [if_neg hn]
    have hf : nameB t.s = false := by simpa using hn
    rw [hf, cond_false] at h ⊢
    have hq : numOf (r.bs.drop r.at_) = some (t.n, (num7 t.n).length) := by rw [h]; exact numOf_put _ ht.1 _
    have e : numR (r.bs.drop r.at_) t.n 0 = (t.n, (num7 t.n).length, 0) := by
      unfold numR
      rw [hq]
      simp
    rw [read_good (f := fun bs => numR bs t.n 0) h0 e]
    simp [h0]
/-- what was put is read again -/
theorem reads_put : ∀ (l : List Itm) (r : Rdr) (rest : List UInt8), (∀ t ∈ l, t.ok) → r.bad = 0 → r.bs.drop r.at_ = itsB l ++ rest → readsM r l = ({ r with at_ := r.at_ + (itsB l).length }, true)
  | [], r, rest, _, _, _ => by simp [readsM, itsB]
  | t :: l, r, rest, hok, h0, h => by
    rw [itsB_cons, List.append_assoc] at h
    have e := readI_put (hok t List.mem_cons_self) h0 h
    unfold readsM
    rw [e]
    simp only [if_true]
    rw [reads_put l { r with at_ := r.at_ + (itB t).length } rest (fun x hx => hok x (List.mem_cons_of_mem _ hx)) h0 (by simp only; rw [← List.drop_drop, h, List.drop_left])]
    rw [itsB_cons, List.length_append]
    simp only [Nat.add_assoc]
/-- cut anywhere, they are not all read -/
theorem reads_cut : ∀ (l : List Itm) (r : Rdr) (k : Nat), (∀ t ∈ l, t.ok) → r.bad = 0 → r.bs.drop r.at_ = (itsB l).take k → k < (itsB l).length → (readsM r l).2 = false
  | [], r, k, _, _, _, hk => by simp [itsB] at hk
  | t :: l, r, k, hok, h0, h, hk => by
    unfold readsM
    by_cases hr : (readI r t).2 = true
    · rw [if_pos hr]
      obtain ⟨rest, h1, h2⟩ := readI_got (hok t List.mem_cons_self) h0 hr
      rw [itsB_cons, List.length_append] at hk
      rw [h, itsB_cons] at h1
      have hle : (itB t).length ≤ k := by
        have := congrArg List.length h1
        rw [List.length_take, List.length_append, List.length_append] at this
        omega
      refine reads_cut l _ (k - (itB t).length) (fun x hx => hok x (List.mem_cons_of_mem _ hx)) (by rw [h2]; exact h0) ?_ (by omega)
      rw [h2]
      simp only
      rw [← List.drop_drop, h, itsB_cons, List.take_append, List.take_of_length_le hle, List.drop_left]
    · rw [if_neg hr]
theorem readI_bs (r : Rdr) (t : Itm) (hr : r.ok) : (readI r t).1.ok ∧ (readI r t).1.bs = r.bs := by
  unfold readI
  split
  · have := read_rel r (⟨#[]⟩ : ByteArray) (fun bs => nameR bs ⟨#[]⟩) (fun bs => nameR_err bs _) (fun bs => nameR_le bs _) hr
    exact this.2.2.2
  · have := read_rel r 0 (fun bs => numR bs t.n 0) (fun bs => numR_err bs _) (fun bs => numR_le bs _ _) hr
    exact this.2.2.2
/-- what is read as a number, put again, is the bytes that were read -/
theorem num_got {r : Rdr} {most : Nat} (hr : r.ok) (h0 : r.bad = 0) : ((r.read 0 fun bs => numR bs most 0).1.bad = 0 → (r.read 0 fun bs => numR bs most 0).2 < 2 ^ 64 ∧ r.bs.take (r.read 0 fun bs => numR bs most 0).1.at_ = r.bs.take r.at_ ++ num7 (r.read 0 fun bs => numR bs most 0).2) ∧
    ((r.read 0 fun bs => numR bs most 0).1.bad ≠ 0 → (r.read 0 fun bs => numR bs most 0).1.at_ = r.at_) := by
  refine ⟨fun hb => ?_, fun hb => ((read_rel r 0 (fun bs => numR bs most 0) (fun bs => numR_err bs _) (fun bs => numR_le bs _ _) hr).2.1 hb).2⟩
  obtain ⟨h3, h4⟩ := read_ok h0 hb
  obtain ⟨n, k, hq, e⟩ := numR_ok h3
  rw [h4, e]
  simp only
  obtain ⟨g1, g2, g3, g4⟩ := numOf_got hq
  refine ⟨g3, ?_⟩
  rw [← g1, List.take_add]
theorem readsM_no {r : Rdr} {t : Itm} {l : List Itm} (h : (readI r t).2 = false) : readsM r (t :: l) = ((readI r t).1, false) := by
  rw [readsM, if_neg (by rw [h]; decide)]
theorem readsM_yes {r : Rdr} {t : Itm} {l : List Itm} (h : (readI r t).2 = true) : readsM r (t :: l) = readsM (readI r t).1 l := by
  rw [readsM, if_pos h]
theorem readI_name {r : Rdr} {t : Itm} (h : nameB t.s = true) : readI r t = ((r.read (⟨#[]⟩ : ByteArray) fun bs => nameR bs ⟨#[]⟩).1, decide ((r.read (⟨#[]⟩ : ByteArray) fun bs => nameR bs ⟨#[]⟩).2 = t.s) && decide ((r.read (⟨#[]⟩ : ByteArray) fun bs => nameR bs ⟨#[]⟩).1.bad = 0)) := by
  rw [readI, if_pos h]
theorem readI_num {r : Rdr} {t : Itm} (h : nameB t.s = false) : readI r t = ((r.read 0 fun bs => numR bs t.n 0).1, decide ((r.read 0 fun bs => numR bs t.n 0).2 = t.n) && decide ((r.read 0 fun bs => numR bs t.n 0).1.bad = 0)) := by
  rw [readI, if_neg (by rw [h]; decide)]
theorem PutName_at {R : Nat → Prop} (b : Value) (bs : List UInt8) (s : ByteArray) (l : List UInt8) (h : nameB s = true) (hl : bs ++ num7 s.size ++ s.data.toList = l) (w : World) (hb : RB w R b bs) (hs : bs.length ≤ 1000000) :
    Runs Try.prog 11 #[b, .string s] w fun v w' => Ext w w' ∧ ∃ A c, v = .tuple #[.slice A l.length c, .int .i64 0] ∧ OwnR w' w.heap.size 5 1 A c (bR l) := by
  refine (PutName_runs b bs s (by have := nameB_size h; omega) w hb hs).mono ?_
  rintro v w' ⟨x, v1, rfl, p, _⟩
  obtain ⟨A, c, rfl, o⟩ := p h
  rw [hl] at o
  exact ⟨x, A, c, by rw [h, hl]; rfl, o⟩
end Go.Proofs.Ytcjkodcamkcljaa

