/-
  What the functions of level and term compute, on plain terms.
-/
import Derived.Test.YtnoghkpofpaeeaaGreatData
namespace Go.Proofs.Bw
open Go Go.RowKit

def L.same (a b : L) : Bool := decide (a.c = b.c) && decide (a.p0 = b.p0) && decide (a.p1 = b.p1) && decide (a.p2 = b.p2) && decide (a.p3 = b.p3)
def L.may (l : L) : Bool :=
  decide (0 ≤ l.c ∧ l.c ≤ 1099511627776) &&
  decide (-1 ≤ l.p0 ∧ l.p0 ≤ 1099511627776 ∧ ¬ (l.p0 ≥ l.c ∧ l.p0 ≥ 0 ∧ l.c > 0)) && decide (-1 ≤ l.p1 ∧ l.p1 ≤ 1099511627776 ∧ ¬ (l.p1 ≥ l.c ∧ l.p1 ≥ 0 ∧ l.c > 0)) &&
  decide (-1 ≤ l.p2 ∧ l.p2 ≤ 1099511627776 ∧ ¬ (l.p2 ≥ l.c ∧ l.p2 ≥ 0 ∧ l.c > 0)) && decide (-1 ≤ l.p3 ∧ l.p3 ≤ 1099511627776 ∧ ¬ (l.p3 ≥ l.c ∧ l.p3 ≥ 0 ∧ l.c > 0))

def letterN (c : Nat) : Bool := decide (97 ≤ c ∧ c ≤ 122) || decide (65 ≤ c ∧ c ≤ 90) || decide (48 ≤ c ∧ c ≤ 57) || decide (c = 95) || decide (c = 46) || decide (c = 39)
def nameB (s : ByteArray) : Bool := s.data.toList.all (fun c => letterN c.toNat) && decide (1 ≤ s.size ∧ s.size ≤ 32)

theorem letterN_iff (c : Nat) : letterN c = true ↔ (97 ≤ c ∧ c ≤ 122) ∨ (65 ≤ c ∧ c ≤ 90) ∨ (48 ≤ c ∧ c ≤ 57) ∨ c = 95 ∨ c = 46 ∨ c = 39 := by
  unfold letterN; simp [or_assoc]
theorem letterN_true {c : Nat} (h : (97 ≤ c ∧ c ≤ 122) ∨ (65 ≤ c ∧ c ≤ 90) ∨ (48 ≤ c ∧ c ≤ 57) ∨ c = 95 ∨ c = 46 ∨ c = 39) : true = letterN c := ((letterN_iff c).2 h).symm
theorem letterN_false {c : Nat} (h : ¬ ((97 ≤ c ∧ c ≤ 122) ∨ (65 ≤ c ∧ c ≤ 90) ∨ (48 ≤ c ∧ c ≤ 57) ∨ c = 95 ∨ c = 46 ∨ c = 39)) : false = letterN c := by
  cases hh : letterN c with
  | false => rfl
  | true => exact absurd ((letterN_iff c).1 hh) h
theorem letterN_last {c : Nat} {p : Prop} [Decidable p] (h : p ↔ (97 ≤ c ∧ c ≤ 122) ∨ (65 ≤ c ∧ c ≤ 90) ∨ (48 ≤ c ∧ c ≤ 57) ∨ c = 95 ∨ c = 46 ∨ c = 39) : decide p = letterN c := by
  cases hh : letterN c with
  | false => exact decide_eq_false fun hp => by rw [(letterN_iff c).2 (h.1 hp)] at hh; cases hh
  | true => exact decide_eq_true (h.2 ((letterN_iff c).1 hh))

/-- Are the first k bytes letters? -/
def nameTo (s : ByteArray) (k : Nat) : Bool := (s.data.toList.take k).all fun c => letterN c.toNat
theorem nameTo_succ (s : ByteArray) (k : Nat) (h : k < s.size) : nameTo s (k + 1) = (nameTo s k && letterN s[k]!.toNat) := by
  have hl : k < s.data.toList.length := by simpa using h
  unfold nameTo
  rw [List.take_succ_eq_append_getElem hl, List.all_append, getElem!_pos s k h]
  simp
  rfl
theorem nameTo_size (s : ByteArray) : (nameTo s s.size && decide (1 ≤ s.size ∧ s.size ≤ 32)) = nameB s := by
  unfold nameTo nameB
  rw [List.take_of_length_le (by simp)]
theorem nameB_no (s : ByteArray) (k : Nat) (h : k < s.size) (hl : letterN s[k]!.toNat = false) : nameB s = false := by
  unfold nameB
  rw [Bool.and_eq_false_iff]
  left
  rw [List.all_eq_false]
  refine ⟨s[k], ?_, by rw [getElem!_pos s k h] at hl; simpa using hl⟩
  have hl' : k < s.data.toList.length := by simpa using h
  exact List.mem_iff_getElem.2 ⟨k, hl', by simp; rfl⟩

theorem empty_iff (s : ByteArray) : (s.toList == (⟨#[]⟩ : ByteArray).toList) = true ↔ s.size = 0 := by
  rw [beq_iff_eq, ByteArray.toList_eq, ByteArray.toList_eq]
  show s.data.toList = [] ↔ s.data.size = 0
  rw [← Array.length_toList, List.length_eq_zero_iff]
theorem empty_no {s : ByteArray} (h : (s.toList == (⟨#[]⟩ : ByteArray).toList) = false) : s.size ≠ 0 := fun h0 => by rw [(empty_iff s).2 h0] at h; cases h
theorem nameEnd0 {s : ByteArray} (h : (s.toList == (⟨#[]⟩ : ByteArray).toList) = true) : false = decide (1 ≤ s.size ∧ s.size ≤ 32) := by
  have := (empty_iff s).1 h
  exact (decide_eq_false (by omega)).symm
theorem nameEnd1 {s : ByteArray} (h : (s.toList == (⟨#[]⟩ : ByteArray).toList) = false) : decide (((s.size : Nat) : Int) ≤ 32) = decide (1 ≤ s.size ∧ s.size ≤ 32) := by
  have := empty_no h
  exact decide_eq_decide.2 (by omega)

/-- The i-th parameter of a level. -/
def L.p (l : L) (i : Nat) : Int := match i with | 0 => l.p0 | 1 => l.p1 | 2 => l.p2 | _ => l.p3
def L.okAt (l : L) (i : Nat) : Bool := decide (-1 ≤ l.p i ∧ l.p i ≤ 1099511627776 ∧ ¬ (l.p i ≥ l.c ∧ l.p i ≥ 0 ∧ l.c > 0))
theorem L.may_iff (l : L) : l.may = true ↔ (0 ≤ l.c ∧ l.c ≤ 1099511627776) ∧ ∀ i, i < 4 → l.okAt i = true := by
  unfold L.may
  simp only [Bool.and_eq_true, decide_eq_true_eq]
  constructor
  · rintro ⟨⟨⟨⟨h0, h1⟩, h2⟩, h3⟩, h4⟩
    refine ⟨h0, fun i hi => ?_⟩
    match i, hi with
    | 0, _ => exact decide_eq_true h1
    | 1, _ => exact decide_eq_true h2
    | 2, _ => exact decide_eq_true h3
    | 3, _ => exact decide_eq_true h4
  · rintro ⟨h0, h⟩
    exact ⟨⟨⟨⟨h0, of_decide_eq_true (h 0 (by omega))⟩, of_decide_eq_true (h 1 (by omega))⟩, of_decide_eq_true (h 2 (by omega))⟩, of_decide_eq_true (h 3 (by omega))⟩
theorem L.may_no {l : L} (h : ¬ (0 ≤ l.c ∧ l.c ≤ 1099511627776)) : l.may = false := by
  cases hh : l.may with
  | false => rfl
  | true => exact absurd ((L.may_iff l).1 hh).1 h
theorem L.may_noAt {l : L} {i : Nat} (hi : i < 4) (h : l.okAt i = false) : l.may = false := by
  cases hh : l.may with
  | false => rfl
  | true => rw [((L.may_iff l).1 hh).2 i hi] at h; cases h
theorem L.may_yes {l : L} (h : 0 ≤ l.c ∧ l.c ≤ 1099511627776) (hp : ∀ i, i < 4 → l.okAt i = true) : l.may = true := (L.may_iff l).2 ⟨h, hp⟩
theorem L.okAt_last {l : L} {i : Nat} {p : Prop} [Decidable p] (h : p ↔ ¬ (-1 ≤ l.p i ∧ l.p i ≤ 1099511627776 ∧ ¬ (l.p i ≥ l.c ∧ l.p i ≥ 0 ∧ l.c > 0))) : decide p = !l.okAt i := by
  unfold L.okAt
  rw [← decide_not]
  exact decide_eq_decide.2 h
theorem L.okAt_t {l : L} {i : Nat} (h : ¬ (-1 ≤ l.p i ∧ l.p i ≤ 1099511627776 ∧ ¬ (l.p i ≥ l.c ∧ l.p i ≥ 0 ∧ l.c > 0))) : true = !l.okAt i := by
  unfold L.okAt; rw [decide_eq_false h]; rfl
theorem L.okAt_f {l : L} {i : Nat} (h : -1 ≤ l.p i ∧ l.p i ≤ 1099511627776 ∧ ¬ (l.p i ≥ l.c ∧ l.p i ≥ 0 ∧ l.c > 0)) : false = !l.okAt i := by
  unfold L.okAt; rw [decide_eq_true h]; rfl
theorem levp_cell {w : World} {g i : Nat} {l : L} (h : Box w g l.cells) (hi : i < 4) : w.cell? ((⟨g, 1, none⟩ : Addr).add (i * 1)) = some (.int .i64 (l.p i)) := by
  rw [Addr.add_lit, h.cell]
  match i, hi with
  | 0, _ => rfl
  | 1, _ => rfl
  | 2, _ => rfl
  | 3, _ => rfl
theorem levp_arr {l : L} {i : Nat} (hi : i < 4) : (#[Value.int .i64 l.p0, .int .i64 l.p1, .int .i64 l.p2, .int .i64 l.p3] : Array Value)[i]? = some (.int .i64 (l.p i)) := by
  match i, hi with
  | 0, _ => rfl
  | 1, _ => rfl
  | 2, _ => rfl
  | 3, _ => rfl

/-- The one form of a level. -/
def L.form (l : L) : L := if l.p0 ≥ 0 ∧ l.p0 ≥ l.c ∨ l.p1 ≥ 0 ∧ l.p1 ≥ l.c ∨ l.p2 ≥ 0 ∧ l.p2 ≥ l.c ∨ l.p3 ≥ 0 ∧ l.p3 ≥ l.c then { l with c := 0 } else l
theorem L.form_same (l : L) : l.form.same l = true ↔ l.c = 0 ∨ ¬ (l.p0 ≥ 0 ∧ l.p0 ≥ l.c ∨ l.p1 ≥ 0 ∧ l.p1 ≥ l.c ∨ l.p2 ≥ 0 ∧ l.p2 ≥ l.c ∨ l.p3 ≥ 0 ∧ l.p3 ≥ l.c) := by
  unfold L.form
  split
  · rename_i h
    simp [L.same, h, eq_comm]
  · rename_i h
    simp [L.same, h]
theorem L.may_noP {l : L} {i : Nat} (hi : i < 4) (h : ¬ (-1 ≤ l.p i ∧ l.p i ≤ 1099511627776)) : l.may = false :=
  L.may_noAt hi (decide_eq_false fun hh => h ⟨hh.1, hh.2.1⟩)
theorem L.may_form {l : L} (h : 0 ≤ l.c ∧ l.c ≤ 1099511627776) (hp : ∀ i, i < 4 → -1 ≤ l.p i ∧ l.p i ≤ 1099511627776) : l.form.same l = l.may := by
  have h0 := hp 0 (by omega)
  have h1 := hp 1 (by omega)
  have h2 := hp 2 (by omega)
  have h3 := hp 3 (by omega)
  simp only [L.p] at h0 h1 h2 h3
  rw [Bool.eq_iff_iff, L.form_same]
  unfold L.may
  simp only [Bool.and_eq_true, decide_eq_true_eq]
  constructor
  · intro hh
    exact ⟨⟨⟨⟨h, by omega⟩, by omega⟩, by omega⟩, by omega⟩
  · rintro ⟨⟨⟨⟨_, a0⟩, a1⟩, a2⟩, a3⟩
    omega

/-- how many terms a kind has; below 0: it is none -/
def kidsI (k : Int) : Int := if k = 1 ∨ k = 2 ∨ k = 3 then 0 else if k = 4 ∨ k = 5 ∨ k = 6 then 2 else if k = 7 then 3 else if k = 8 then 1 else -1

def nodeB : T → Bool
  | .mk k n s ls ts => decide (0 ≤ kidsI k) && decide ((ts.length : Int) = kidsI k) && ls.all L.may &&
    (if k = 3 ∨ k = 8 then nameB s else decide (s.size = 0)) &&
    (if k = 2 then decide (0 ≤ n ∧ n ≤ 1048576) else if k = 8 then decide (0 ≤ n ∧ n < 12) else decide (n = 0)) &&
    (if k = 1 then decide (ls.length = 1) else if k = 3 then decide (ls.length ≤ 4) else decide (ls.length = 0))

theorem nodeB_iff (k n : Int) (s : ByteArray) (ls : List L) (ts : List T) : nodeB (.mk k n s ls ts) = true ↔ 0 ≤ kidsI k ∧ (ts.length : Int) = kidsI k ∧ ls.all L.may = true ∧
    (if k = 3 ∨ k = 8 then nameB s = true else s.size = 0) ∧ (if k = 2 then 0 ≤ n ∧ n ≤ 1048576 else if k = 8 then 0 ≤ n ∧ n < 12 else n = 0) ∧
    (if k = 1 then ls.length = 1 else if k = 3 then ls.length ≤ 4 else ls.length = 0) := by
  unfold nodeB
  simp only [Bool.and_eq_true, decide_eq_true_eq, and_assoc]
  refine and_congr_right fun _ => and_congr_right fun _ => and_congr_right fun _ => and_congr ?_ (and_congr ?_ ?_) <;> (repeat' split) <;> simp
theorem nodeEq {b : Bool} {k n : Int} {s : ByteArray} {ls : List L} {ts : List T} (h : b = true ↔ 0 ≤ kidsI k ∧ (ts.length : Int) = kidsI k ∧ ls.all L.may = true ∧
    (if k = 3 ∨ k = 8 then nameB s = true else s.size = 0) ∧ (if k = 2 then 0 ≤ n ∧ n ≤ 1048576 else if k = 8 then 0 ≤ n ∧ n < 12 else n = 0) ∧
    (if k = 1 then ls.length = 1 else if k = 3 then ls.length ≤ 4 else ls.length = 0)) : b = nodeB (.mk k n s ls ts) := by
  rw [Bool.eq_iff_iff, nodeB_iff]; exact h

mutual
def size : T → Nat
  | .mk _ _ _ _ ts => 1 + sizes ts
def sizes : List T → Nat
  | [] => 0
  | t :: r => size t + sizes r
end
mutual
def depth : T → Nat
  | .mk _ _ _ _ ts => 1 + depths ts
def depths : List T → Nat
  | [] => 0
  | t :: r => max (depth t) (depths r)
end
mutual
def nodes : T → Bool
  | .mk k n s ls ts => nodeB (.mk k n s ls ts) && nodess ts
def nodess : List T → Bool
  | [] => true
  | t :: r => nodes t && nodess r
end
/-- May a term be, with so many nodes left, and so deep? -/
def mayB (t : T) (left deep : Nat) : Bool := nodes t && decide (size t ≤ left ∧ depth t ≤ deep)
def mayT (t : T) : Bool := mayB t 65536 4096

theorem size_pos (t : T) : 1 ≤ size t := by cases t; simp only [size]; omega
theorem depth_pos (t : T) : 1 ≤ depth t := by cases t; simp only [depth]; omega
theorem sizes_append (a b : List T) : sizes (a ++ b) = sizes a + sizes b := by
  induction a with
  | nil => simp [sizes]
  | cons t r ih => simp only [List.cons_append, sizes, ih]; omega
theorem depths_append (a b : List T) : depths (a ++ b) = max (depths a) (depths b) := by
  induction a with
  | nil => simp [depths]
  | cons t r ih => simp only [List.cons_append, depths, ih]; omega
theorem nodess_append (a b : List T) : nodess (a ++ b) = (nodess a && nodess b) := by
  induction a with
  | nil => simp [nodess]
  | cons t r ih => simp only [List.cons_append, nodess, ih, Bool.and_assoc]
theorem take_snoc {α : Type} (ts : List α) (k : Nat) (h : k < ts.length) : ts.take (k + 1) = ts.take k ++ [ts[k]] := List.take_succ_eq_append_getElem h
theorem sizes_take (ts : List T) (k : Nat) (h : k < ts.length) : sizes (ts.take (k + 1)) = sizes (ts.take k) + size ts[k] := by
  rw [take_snoc ts k h, sizes_append]; simp [sizes]
theorem sizes_take_le (ts : List T) (k : Nat) : sizes (ts.take k) ≤ sizes ts := by
  conv => rhs; rw [← List.take_append_drop k ts, sizes_append]
  omega
theorem depths_take (ts : List T) (k : Nat) (h : k < ts.length) : depths (ts.take (k + 1)) = max (depths (ts.take k)) (depth ts[k]) := by
  rw [take_snoc ts k h, depths_append]; simp [depths]
theorem depths_take_le (ts : List T) (k : Nat) : depths (ts.take k) ≤ depths ts := by
  conv => rhs; rw [← List.take_append_drop k ts, depths_append]
  omega
theorem nodess_take (ts : List T) (k : Nat) (h : k < ts.length) : nodess (ts.take (k + 1)) = (nodess (ts.take k) && nodes ts[k]) := by
  rw [take_snoc ts k h, nodess_append]; simp [nodess]
theorem nodess_take_le (ts : List T) (k : Nat) (h : nodess ts = true) : nodess (ts.take k) = true := by
  rw [← List.take_append_drop k ts, nodess_append, Bool.and_eq_true] at h
  exact h.1

/-! the reference's way of counting what is left -/
mutual
def mayF : T → Int → Int → Int
  | .mk k n s ls ts, left, deep => if left - 1 < 0 ∨ deep ≤ 0 ∨ nodeB (.mk k n s ls ts) = false then -1 else maysF ts (left - 1) (deep - 1)
def maysF : List T → Int → Int → Int
  | [], left, _ => left
  | t :: r, left, deep => if mayF t left deep < 0 then -1 else maysF r (mayF t left deep) deep
end
theorem mayF_spec (t : T) : ∀ (left deep : Int), 0 ≤ left →
    (nodes t = true ∧ (size t : Int) ≤ left ∧ (depth t : Int) ≤ deep → mayF t left deep = left - size t) ∧ (¬ (nodes t = true ∧ (size t : Int) ≤ left ∧ (depth t : Int) ≤ deep) → mayF t left deep = -1) := by
  refine T.rec (motive_1 := fun t => ∀ (left deep : Int), 0 ≤ left →
      (nodes t = true ∧ (size t : Int) ≤ left ∧ (depth t : Int) ≤ deep → mayF t left deep = left - size t) ∧ (¬ (nodes t = true ∧ (size t : Int) ≤ left ∧ (depth t : Int) ≤ deep) → mayF t left deep = -1))
    (motive_2 := fun ts => ∀ (left deep : Int), 0 ≤ left → 0 ≤ deep →
      (nodess ts = true ∧ (sizes ts : Int) ≤ left ∧ (depths ts : Int) ≤ deep → maysF ts left deep = left - sizes ts) ∧ (¬ (nodess ts = true ∧ (sizes ts : Int) ≤ left ∧ (depths ts : Int) ≤ deep) → maysF ts left deep = -1)) ?_ ?_ ?_ t
  · intro k n s ls ts ih left deep h0
    simp only [mayF, nodes, size, depth, Bool.and_eq_true]
    by_cases h1 : left - 1 < 0 ∨ deep ≤ 0 ∨ nodeB (.mk k n s ls ts) = false
    · rw [if_pos h1]
      refine ⟨?_, fun _ => rfl⟩
      rintro ⟨⟨h2, _⟩, h3, h4⟩
      rcases h1 with h1 | h1 | h1
      · omega
      · omega
      · rw [h2] at h1; cases h1
    · rw [if_neg h1]
      have hn : nodeB (.mk k n s ls ts) = true := by
        cases hh : nodeB (.mk k n s ls ts) with
        | true => rfl
        | false => exact absurd (.inr (.inr hh)) h1
      have ha : ¬ left - 1 < 0 := fun h => h1 (.inl h)
      have hb : ¬ deep ≤ 0 := fun h => h1 (.inr (.inl h))
      obtain ⟨i1, i2⟩ := ih (left - 1) (deep - 1) (by omega) (by omega)
      constructor
      · rintro ⟨⟨_, h3⟩, h4, h5⟩
        rw [i1 ⟨h3, by omega, by omega⟩]; omega
      · intro hne
        exact i2 fun ⟨h3, h4, h5⟩ => hne ⟨⟨hn, h3⟩, by omega, by omega⟩
  · intro left deep h0 hd
    simp only [maysF, nodess, sizes, depths]
    exact ⟨fun _ => by omega, fun h => absurd ⟨trivial, by omega, by omega⟩ h⟩
  · intro t r iht ihr left deep h0 hd
    simp only [maysF, nodess, sizes, depths, Bool.and_eq_true]
    obtain ⟨t1, t2⟩ := iht left deep h0
    by_cases h1 : nodes t = true ∧ (size t : Int) ≤ left ∧ (depth t : Int) ≤ deep
    · rw [t1 h1, if_neg (by omega)]
      obtain ⟨r1, r2⟩ := ihr (left - size t) deep (by omega) hd
      constructor
      · rintro ⟨⟨_, h3⟩, h4, h5⟩
        rw [r1 ⟨h3, by omega, by omega⟩]; omega
      · intro hne
        exact r2 fun ⟨h3, h4, h5⟩ => hne ⟨⟨h1.1, h3⟩, by omega, by omega⟩
    · rw [t2 h1, if_pos (by omega)]
      refine ⟨?_, fun _ => rfl⟩
      rintro ⟨⟨h2, _⟩, h3, h4⟩
      exact absurd ⟨h2, by omega, by omega⟩ h1
theorem mayB_iff (t : T) (l d : Nat) : mayB t l d = true ↔ nodes t = true ∧ (size t : Int) ≤ l ∧ (depth t : Int) ≤ d := by
  unfold mayB
  rw [Bool.and_eq_true, decide_eq_true_eq]
  constructor
  · rintro ⟨h1, h2, h3⟩; exact ⟨h1, by omega, by omega⟩
  · rintro ⟨h1, h2, h3⟩; exact ⟨h1, by omega, by omega⟩
theorem mayF_T (t : T) : decide (0 ≤ mayF t 65536 4096) = mayT t := by
  obtain ⟨h1, h2⟩ := mayF_spec t 65536 4096 (by omega)
  by_cases h : nodes t = true ∧ (size t : Int) ≤ 65536 ∧ (depth t : Int) ≤ 4096
  · rw [h1 h, show mayT t = true from (mayB_iff t _ _).2 h]
    have := h.2.1
    exact decide_eq_true (by omega)
  · rw [h2 h]
    cases hm : mayT t with
    | false => rfl
    | true => exact absurd ((mayB_iff t _ _).1 hm) h

theorem mayF_neg (t : T) (l d : Int) : mayF t l d = -1 ∨ (0 ≤ mayF t l d ∧ mayF t l d ≤ l) := by
  by_cases hl : 0 ≤ l
  · obtain ⟨h1, h2⟩ := mayF_spec t l d hl
    by_cases h : nodes t = true ∧ (size t : Int) ≤ l ∧ (depth t : Int) ≤ d
    · rw [h1 h]; right; omega
    · rw [h2 h]; left; rfl
  · left
    cases t with
    | mk k n s ls ts => simp only [mayF]; rw [if_pos (.inl (by omega))]
theorem maysF_nil (l d : Int) : maysF [] l d = l := by rw [maysF]
theorem maysF_cons (x : T) (r : List T) (l d : Int) : maysF (x :: r) l d = if mayF x l d < 0 then -1 else maysF r (mayF x l d) d := by rw [maysF]
theorem maysF_one (t : T) (l d : Int) : maysF [t] l d = if mayF t l d < 0 then -1 else mayF t l d := by rw [maysF_cons, maysF_nil]
theorem maysF_snoc (a : List T) (t : T) (d : Int) : ∀ l, 0 ≤ l → (maysF a l d < 0 → maysF (a ++ [t]) l d = -1) ∧
    (0 ≤ maysF a l d → mayF t (maysF a l d) d < 0 → maysF (a ++ [t]) l d = -1) ∧ (0 ≤ maysF a l d → 0 ≤ mayF t (maysF a l d) d → maysF (a ++ [t]) l d = mayF t (maysF a l d) d) := by
  induction a with
  | nil =>
    intro l hl
    rw [List.nil_append, maysF_nil, maysF_one]
    exact ⟨fun h => by omega, fun _ h => by rw [if_pos h], fun _ h => by rw [if_neg (by omega)]⟩
  | cons x r ih =>
    intro l hl
    rw [List.cons_append, maysF_cons, maysF_cons]
    by_cases h : mayF x l d < 0
    · rw [if_pos h, if_pos h]
      exact ⟨fun _ => rfl, fun h => by omega, fun h => by omega⟩
    · rw [if_neg h, if_neg h]; exact ih _ (by omega)
theorem maysF_neg (a b : List T) (d : Int) : ∀ l, 0 ≤ l → maysF a l d < 0 → maysF (a ++ b) l d = -1 := by
  induction a with
  | nil => intro l hl h; rw [maysF_nil] at h; omega
  | cons x r ih =>
    intro l hl h
    rw [maysF_cons] at h
    rw [List.cons_append, maysF_cons]
    by_cases h1 : mayF x l d < 0
    · rw [if_pos h1]
    · rw [if_neg h1] at h ⊢; exact ih _ (by omega) h
theorem maysF_step (ts : List T) (i : Nat) (hi : i < ts.length) (l d : Int) (hl : 0 ≤ l) (h0 : 0 ≤ maysF (ts.take i) l d) :
    (0 ≤ mayF ts[i] (maysF (ts.take i) l d) d → maysF (ts.take (i + 1)) l d = mayF ts[i] (maysF (ts.take i) l d) d) ∧ (mayF ts[i] (maysF (ts.take i) l d) d < 0 → maysF ts l d = -1) := by
  obtain ⟨_, hs1, hs2⟩ := maysF_snoc (ts.take i) ts[i] d l hl
  rw [← take_snoc ts i hi] at hs1 hs2
  constructor
  · intro h; exact hs2 h0 h
  · intro h
    have hs := hs1 h0 h
    have := maysF_neg (ts.take (i + 1)) (ts.drop (i + 1)) d l hl (by omega)
    rwa [List.take_append_drop] at this
theorem mayF_mk (k n : Int) (s : ByteArray) (ls : List L) (ts : List T) (left deep : Int) : mayF (.mk k n s ls ts) left deep = if left - 1 < 0 ∨ deep ≤ 0 ∨ nodeB (.mk k n s ls ts) = false then -1 else maysF ts (left - 1) (deep - 1) := by
  simp only [mayF]

/-! the same trees -/
def lsSame : List L → List L → Bool
  | [], [] => true
  | a :: r, b :: q => a.same b && lsSame r q
  | _, _ => false
mutual
def sameB : T → T → Bool
  | .mk k n s ls ts, .mk k' n' s' ls' ts' => decide (k = k') && decide (n = n') && (s.toList == s'.toList) && lsSame ls ls' && sameBs ts ts'
def sameBs : List T → List T → Bool
  | [], [] => true
  | a :: r, b :: q => sameB a b && sameBs r q
  | _, _ => false
end
theorem L.same_iff (a b : L) : a.same b = true ↔ a = b := by
  cases a; cases b; simp [L.same, and_assoc]
theorem lsSame_iff (a b : List L) : lsSame a b = true ↔ a = b := by
  induction a generalizing b with
  | nil => cases b <;> simp [lsSame]
  | cons x r ih => cases b with
    | nil => simp [lsSame]
    | cons y q => simp [lsSame, L.same_iff, ih]
theorem bytes_eq (a b : ByteArray) : (a.toList == b.toList) = true ↔ a = b := by
  rw [beq_iff_eq]
  constructor
  · intro h
    rw [ByteArray.toList_eq, ByteArray.toList_eq] at h
    exact ByteArray.ext (Array.toList_inj.1 h)
  · rintro rfl; rfl
theorem sameB_iff (a : T) : ∀ b, sameB a b = true ↔ a = b := by
  refine T.rec (motive_1 := fun a => ∀ b, sameB a b = true ↔ a = b) (motive_2 := fun a => ∀ b, sameBs a b = true ↔ a = b) ?_ ?_ ?_ a
  · intro k n s ls ts ih b
    cases b with
    | mk k' n' s' ls' ts' =>
      simp only [sameB, Bool.and_eq_true, decide_eq_true_eq, lsSame_iff, bytes_eq, ih, T.mk.injEq, and_assoc]
  · intro b; cases b <;> simp [sameBs]
  · intro t r iht ihr b
    cases b with
    | nil => simp [sameBs]
    | cons y q => simp [sameBs, iht, ihr]

/-! free variables -/
def binds (k : Int) (i : Nat) : Int := if (k = 5 ∨ k = 6) ∧ i = 1 ∨ k = 7 ∧ i = 2 then 1 else 0
mutual
/-- one more than the greatest free variable, with so many binders around -/
def free : T → Int → Int
  | .mk k n _ _ ts, around => if k = 2 then max 0 (n + 1 - around) else frees k ts 0 around
def frees (k : Int) : List T → Nat → Int → Int
  | [], _, _ => 0
  | t :: r, i, around => max (free t (around + binds k i)) (frees k r (i + 1) around)
end
mutual
def has : T → Int → Bool
  | .mk k n _ _ ts, v => if k = 2 then decide (n = v) else hass k ts 0 v
def hass (k : Int) : List T → Nat → Int → Bool
  | [], _, _ => false
  | t :: r, i, v => has t (v + binds k i) || hass k r (i + 1) v
end

/-! terms that the statements make -/
def lZero : L := ⟨0, -1, -1, -1, -1⟩
theorem lZero_wf : lZero.wf := by simp [L.wf, lZero, i64ok]
def noS : ByteArray := ⟨#[]⟩
def tS : T := .mk 1 0 ⟨#[]⟩ [lZero] []
def tV (n : Int) : T := .mk 2 n ⟨#[]⟩ [] []
def tC (s : ByteArray) : T := .mk 3 0 s [] []
def tA (f x : T) : T := .mk 4 0 ⟨#[]⟩ [] [f, x]
def tL (a b : T) : T := .mk 5 0 ⟨#[]⟩ [] [a, b]
def tP (a b : T) : T := .mk 6 0 ⟨#[]⟩ [] [a, b]
def tZ : T := .mk 0 0 ⟨#[]⟩ [] []

/-! going through all nodes -/
mutual
def eachF {σ : Type} (step : T → Int → σ → σ × Bool) : T → Int → σ → σ × Bool
  | .mk k n s ls ts, around, st => if (step (.mk k n s ls ts) around st).2 = true then eachsF step k ts 0 around (step (.mk k n s ls ts) around st).1 else ((step (.mk k n s ls ts) around st).1, false)
def eachsF {σ : Type} (step : T → Int → σ → σ × Bool) (k : Int) : List T → Nat → Int → σ → σ × Bool
  | [], _, _, st => (st, true)
  | t :: r, i, around, st => if (eachF step t (around + binds k i) st).2 = true then eachsF step k r (i + 1) around (eachF step t (around + binds k i) st).1 else ((eachF step t (around + binds k i) st).1, false)
end
theorem eachsF_append {σ : Type} (step : T → Int → σ → σ × Bool) (k : Int) (a b : List T) : ∀ (i : Nat) (around : Int) (st : σ),
    eachsF step k (a ++ b) i around st = if (eachsF step k a i around st).2 = true then eachsF step k b (i + a.length) around (eachsF step k a i around st).1 else ((eachsF step k a i around st).1, false) := by
  induction a with
  | nil => intro i around st; simp [eachsF]
  | cons t r ih =>
    intro i around st
    simp only [List.cons_append, eachsF]
    by_cases h : (eachF step t (around + binds k i) st).2 = true
    · simp only [h, if_true]
      rw [ih, List.length_cons]
      simp only [Nat.add_assoc, Nat.add_comm 1]
    · simp [h]
theorem eachsF_take {σ : Type} (step : T → Int → σ → σ × Bool) (k : Int) (ts : List T) (q : Nat) (hq : q < ts.length) (around : Int) (st : σ) (h : (eachsF step k (ts.take q) 0 around st).2 = true) :
    eachsF step k (ts.take (q + 1)) 0 around st = eachF step ts[q] (around + binds k q) (eachsF step k (ts.take q) 0 around st).1 := by
  rw [take_snoc ts q hq, eachsF_append, if_pos h, List.length_take, Nat.min_eq_left (by omega), Nat.zero_add]
  simp only [eachsF]
  split
  · rename_i h2; exact Prod.ext rfl h2.symm
  · rename_i h2; exact Prod.ext rfl (by simpa using (Bool.eq_false_iff.2 h2).symm)
theorem eachsF_stop {σ : Type} (step : T → Int → σ → σ × Bool) (k : Int) (ts : List T) (q : Nat) (around : Int) (st : σ) (h : (eachsF step k (ts.take q) 0 around st).2 = false) :
    eachsF step k ts 0 around st = eachsF step k (ts.take q) 0 around st := by
  conv => lhs; rw [← List.take_append_drop q ts, eachsF_append, if_neg (by rw [h]; decide)]
  rw [← h]
theorem depths_le (ts : List T) (q : Nat) (h : q < ts.length) : depth ts[q] ≤ depths ts := by
  have h1 := depths_take ts q h
  have h2 := depths_take_le ts (q + 1)
  omega
theorem nodess_at {ts : List T} (h : nodess ts = true) (q : Nat) (hq : q < ts.length) : nodes ts[q] = true := by
  have h1 := nodess_take_le ts (q + 1) h
  rw [nodess_take ts q hq, Bool.and_eq_true] at h1
  exact h1.2
theorem nodes_mk {k n : Int} {s : ByteArray} {ls : List L} {ts : List T} (h : nodes (.mk k n s ls ts) = true) : nodeB (.mk k n s ls ts) = true ∧ nodess ts = true := by
  simpa only [nodes, Bool.and_eq_true] using h
theorem eachF_mk {σ : Type} (step : T → Int → σ → σ × Bool) (k n : Int) (s : ByteArray) (ls : List L) (ts : List T) (around : Int) (st : σ) : eachF step (.mk k n s ls ts) around st =
    if (step (.mk k n s ls ts) around st).2 = true then eachsF step k ts 0 around (step (.mk k n s ls ts) around st).1 else ((step (.mk k n s ls ts) around st).1, false) := by rw [eachF]
theorem binds_le (k : Int) (i : Nat) : 0 ≤ binds k i ∧ binds k i ≤ 1 := by unfold binds; split <;> omega

/-! what Size, Free, Has go through -/
def T.k : T → Int | .mk k _ _ _ _ => k
def T.n : T → Int | .mk _ n _ _ _ => n
def sizeStep (_ : T) (_ : Int) (s : Int) : Int × Bool := (IntKind.i64.wrap (s + 1), true)
def freeStep : T → Int → Int → Int × Bool | .mk k n _ _ _, a, s => (if k = 2 then (if n + 1 - a > s then n + 1 - a else s) else s, true)
def hasStep (v : Int) : T → Int → Unit → Unit × Bool | .mk k n _ _ _, a, s => (s, !(decide (k = 2) && decide (n = v + a)))
theorem each_size (t : T) : ∀ (a s : Int), 0 ≤ s → s + size t ≤ 4611686018427387904 → eachF sizeStep t a s = (s + size t, true) := by
  refine T.rec (motive_1 := fun t => ∀ (a s : Int), 0 ≤ s → s + size t ≤ 4611686018427387904 → eachF sizeStep t a s = (s + size t, true))
    (motive_2 := fun ts => ∀ (k : Int) (i : Nat) (a s : Int), 0 ≤ s → s + sizes ts ≤ 4611686018427387904 → eachsF sizeStep k ts i a s = (s + sizes ts, true)) ?_ ?_ ?_ t
  · intro k n b ls ts ih a s h0 h1
    simp only [size] at h1 ⊢
    rw [eachF_mk, if_pos (show (sizeStep (T.mk k n b ls ts) a s).2 = true from rfl)]
    simp only [sizeStep]
    rw [wrap_i64 (by omega), ih k 0 a (s + 1) (by omega) (by omega)]
    exact Prod.ext (by simp; omega) rfl
  · intro k i a s _ _
    simp [eachsF, sizes]
  · intro t r iht ihr k i a s h0 h1
    simp only [sizes] at h1 ⊢
    rw [eachsF, iht _ s h0 (by omega), if_pos rfl, ihr k (i + 1) a (s + size t) (by omega) (by omega)]
    exact Prod.ext (by simp; omega) rfl
theorem node_var {n : Int} {b : ByteArray} {ls : List L} {ts : List T} (h : nodeB (.mk 2 n b ls ts) = true) : ts = [] := by
  have h1 := ((nodeB_iff _ _ _ _ _).1 h).2.1
  rw [show kidsI 2 = 0 by decide] at h1
  exact List.eq_nil_of_length_eq_zero (by omega)
theorem each_free (t : T) : ∀ (a s : Int), 0 ≤ s → nodes t = true → eachF freeStep t a s = (max s (free t a), true) := by
  refine T.rec (motive_1 := fun t => ∀ (a s : Int), 0 ≤ s → nodes t = true → eachF freeStep t a s = (max s (free t a), true))
    (motive_2 := fun ts => ∀ (k : Int) (i : Nat) (a s : Int), 0 ≤ s → nodess ts = true → eachsF freeStep k ts i a s = (max s (frees k ts i a), true)) ?_ ?_ ?_ t
  · intro k n b ls ts ih a s h0 h1
    obtain ⟨hn, hns⟩ := nodes_mk h1
    rw [eachF_mk, if_pos (show (freeStep (T.mk k n b ls ts) a s).2 = true from rfl)]
    simp only [freeStep, free]
    by_cases hk : k = 2
    · subst hk
      have := node_var hn
      subst this
      simp only [if_true, eachsF]
      refine Prod.ext ?_ rfl
      show (if n + 1 - a > s then n + 1 - a else s) = max s (max 0 (n + 1 - a))
      by_cases h9 : n + 1 - a > s
      · rw [if_pos h9]; omega
      · rw [if_neg h9]; omega
    · simp only [if_neg hk]
      rw [ih k 0 a s h0 hns]
  · intro k i a s h0 _
    simp only [eachsF, frees]
    exact Prod.ext (by simp only []; omega) rfl
  · intro t r iht ihr k i a s h0 h1
    simp only [nodess, Bool.and_eq_true] at h1
    rw [eachsF, iht _ s h0 h1.1, if_pos rfl, ihr k (i + 1) a _ (by simp only []; omega) h1.2]
    simp only [frees]
    exact Prod.ext (by simp only []; omega) rfl
theorem each_has (k0 : Int) (t : T) : ∀ (a : Int), nodes t = true → eachF (hasStep k0) t a () = ((), !has t (k0 + a)) := by
  refine T.rec (motive_1 := fun t => ∀ (a : Int), nodes t = true → eachF (hasStep k0) t a () = ((), !has t (k0 + a)))
    (motive_2 := fun ts => ∀ (k : Int) (i : Nat) (a : Int), nodess ts = true → eachsF (hasStep k0) k ts i a () = ((), !hass k ts i (k0 + a))) ?_ ?_ ?_ t
  · intro k n b ls ts ih a h1
    obtain ⟨hn, hns⟩ := nodes_mk h1
    rw [eachF_mk]
    simp only [hasStep, has]
    by_cases hk : k = 2
    · subst hk
      have := node_var hn
      subst this
      by_cases he : n = k0 + a <;> simp [he, eachsF]
    · simp [hk, ih k 0 a hns]
  · intro k i a _
    simp [eachsF, hass]
  · intro t r iht ihr k i a h1
    simp only [nodess, Bool.and_eq_true] at h1
    rw [eachsF, iht _ h1.1, ihr k (i + 1) a h1.2]
    simp only [hass, Int.add_assoc]
    cases has t (k0 + (a + binds k i)) <;> simp
theorem mayT_iff (t : T) : mayT t = true ↔ nodes t = true ∧ size t ≤ 65536 ∧ depth t ≤ 4096 := by
  unfold mayT mayB; rw [Bool.and_eq_true, decide_eq_true_eq]
theorem may_nodes {t : T} (h : mayT t = true) : nodes t = true := ((mayT_iff t).1 h).1
theorem may_size {t : T} (h : mayT t = true) : size t ≤ 65536 := ((mayT_iff t).1 h).2.1
theorem may_depth {t : T} (h : mayT t = true) : depth t ≤ 4096 := ((mayT_iff t).1 h).2.2
theorem node_varN {k n : Int} {b : ByteArray} {ls : List L} {ts : List T} (h : nodeB (.mk k n b ls ts) = true) (hk : k = 2) : 0 ≤ n ∧ n ≤ 1048576 := by
  subst hk
  have h1 := ((nodeB_iff _ _ _ _ _).1 h).2.2.2.2.1
  simpa using h1
theorem no_of_iff {b : Bool} {p : Prop} (h : b = true ↔ p) (hn : ¬ p) : false = b := by
  cases hb : b with
  | false => rfl
  | true => exact absurd (h.1 hb) hn
theorem ne_at {α : Type} {a b : List α} {q : Nat} (h1 : q < a.length) (h2 : q < b.length) (h : a[q] ≠ b[q]) : ¬ a = b := fun e => by subst e; exact h rfl
theorem take_eq_succ {α : Type} {a b : List α} {q : Nat} (h : a.take q = b.take q) (h1 : q < a.length) (h2 : q < b.length) (he : a[q] = b[q]) : a.take (q + 1) = b.take (q + 1) := by
  rw [take_snoc a q h1, take_snoc b q h2, h, he]
theorem take_all {α : Type} {a b : List α} {q : Nat} (h : a.take q = b.take q) (h1 : a.length ≤ q) (h2 : a.length = b.length) : a = b := by
  rwa [List.take_of_length_le h1, List.take_of_length_le (by omega)] at h
theorem sameBs_iff : ∀ (a b : List T), sameBs a b = true ↔ a = b
  | [], [] => by simp [sameBs]
  | [], _ :: _ => by simp [sameBs]
  | _ :: _, [] => by simp [sameBs]
  | x :: r, y :: q => by rw [sameBs, Bool.and_eq_true, sameB_iff, sameBs_iff r q, List.cons.injEq]
theorem L.same_no {a b : L} (h : a.same b = false) : a ≠ b := fun e => by rw [(L.same_iff a b).2 e] at h; cases h
theorem T.same_no {a b : T} (h : sameB a b = false) : a ≠ b := fun e => by rw [(sameB_iff a b).2 e] at h; cases h

/-! spines -/
mutual
def head : T → T
  | .mk k n s ls ts => if k = 4 then heads (.mk k n s ls ts) ts else .mk k n s ls ts
def heads (d : T) : List T → T
  | [] => d
  | t :: _ => head t
end
mutual
def spArgs : T → List T
  | .mk k _ _ _ ts => if k = 4 then spArgss ts else []
def spArgss : List T → List T
  | [] => []
  | t :: r => spArgs t ++ r
end
theorem head_app (n : Int) (s : ByteArray) (ls : List L) (f x : T) : head (.mk 4 n s ls [f, x]) = head f := by simp [head, heads]
theorem spArgs_app (n : Int) (s : ByteArray) (ls : List L) (f x : T) : spArgs (.mk 4 n s ls [f, x]) = spArgs f ++ [x] := by simp [spArgs, spArgss]
theorem head_no {k n : Int} {s : ByteArray} {ls : List L} {ts : List T} (h : k ≠ 4) : head (.mk k n s ls ts) = .mk k n s ls ts := by simp [head, h]
theorem spArgs_no {k n : Int} {s : ByteArray} {ls : List L} {ts : List T} (h : k ≠ 4) : spArgs (.mk k n s ls ts) = [] := by simp [spArgs, h]
theorem node_app {n : Int} {b : ByteArray} {ls : List L} {ts : List T} (h : nodeB (.mk 4 n b ls ts) = true) : ∃ f x, ts = [f, x] := by
  have h1 := ((nodeB_iff _ _ _ _ _).1 h).2.1
  rw [show kidsI 4 = 2 by decide] at h1
  match ts, h1 with
  | [f, x], _ => exact ⟨f, x, rfl⟩
  | [], h1 => simp at h1
  | [_], h1 => simp at h1
  | _ :: _ :: _ :: _, h1 => simp at h1; omega
theorem node_app2 {k n : Int} {b : ByteArray} {ls : List L} {ts : List T} (h : nodes (.mk k n b ls ts) = true) (hk : k = 4) : ∃ hl : ts.length = 2,
    head (.mk k n b ls ts) = head ts[0] ∧ spArgs (.mk k n b ls ts) = spArgs ts[0] ++ [ts[1]] ∧ size (.mk k n b ls ts) = 1 + size ts[0] + size ts[1] ∧ nodes ts[0] = true := by
  subst hk
  obtain ⟨h1, h2⟩ := nodes_mk h
  obtain ⟨f, x, rfl⟩ := node_app h1
  refine ⟨rfl, head_app .., spArgs_app .., ?_, nodess_at h2 0 (by simp)⟩
  simp only [size, sizes, List.getElem_cons_zero, List.getElem_cons_succ]
  omega
/-- Where a walk along a spine stands. -/
structure Sp where
  t : T
  l : List T
  cs : List Value
  A : Option Addr
  c : Nat
  css : List (List Value)

/-! the terms of TermBounds -/
def rowL : Nat → T
  | 0 => tS
  | n + 1 => tL tS (rowL n)
def dbl : Nat → T
  | 0 => tV 0
  | n + 1 => tA (dbl n) (dbl n)
def prj : Nat → T
  | 0 => dbl 15
  | n + 1 => .mk 8 0 ⟨#[115]⟩ [] [prj n]
theorem rowL_all (q : Nat) : nodes (rowL q) = true ∧ size (rowL q) = 2 * q + 1 ∧ depth (rowL q) = q + 1 := by
  induction q with
  | zero => exact ⟨rfl, rfl, rfl⟩
  | succ n ih =>
    obtain ⟨h1, h2, h3⟩ := ih
    have e1 : nodes tS = true := rfl
    have e2 : size tS = 1 := rfl
    have e3 : depth tS = 1 := rfl
    have e4 : nodeB (.mk 5 0 ⟨#[]⟩ [] [tS, rowL n]) = true := rfl
    rw [rowL, tL]
    simp only [nodes, nodess, size, sizes, depth, depths, h1, h2, h3, e1, e2, e3, e4]
    exact ⟨rfl, by omega, by omega⟩
theorem dbl_all (q : Nat) : nodes (dbl q) = true ∧ size (dbl q) + 1 = 2 * 2 ^ q ∧ depth (dbl q) = q + 1 := by
  induction q with
  | zero => exact ⟨rfl, rfl, rfl⟩
  | succ n ih =>
    obtain ⟨h1, h2, h3⟩ := ih
    have e4 : nodeB (.mk 4 0 ⟨#[]⟩ [] [dbl n, dbl n]) = true := rfl
    rw [dbl, tA]
    simp only [nodes, nodess, size, sizes, depth, depths, h1, h3, e4]
    exact ⟨rfl, by rw [Nat.pow_succ]; omega, by omega⟩
theorem dbl14 : size (dbl 14) = 32767 := by have := (dbl_all 14).2.1; simp at this; omega
theorem prj_all (q : Nat) : nodes (prj q) = true ∧ size (prj q) = 65535 + q ∧ depth (prj q) = 16 + q := by
  induction q with
  | zero =>
    have h := dbl_all 15
    exact ⟨h.1, by have h2 := h.2.1; simp at h2; show size (dbl 15) = 65535; omega, h.2.2⟩
  | succ n ih =>
    obtain ⟨h1, h2, h3⟩ := ih
    have e4 : nodeB (.mk 8 0 ⟨#[115]⟩ [] [prj n]) = true := rfl
    rw [prj]
    simp only [nodes, nodess, size, sizes, depth, depths, h1, h2, h3, e4]
    exact ⟨rfl, by omega, by omega⟩
theorem rowL_may {q : Nat} {p : Prop} [Decidable p] (h : q + 1 ≤ 4096 ↔ p) : (mayT (rowL q) == decide p) = true := by
  obtain ⟨h1, h2, h3⟩ := rowL_all q
  rw [beq_iff_eq, Bool.eq_iff_iff, mayT_iff, h1, h2, h3, decide_eq_true_eq, ← h]
  simp; omega
theorem prj_may {q : Nat} {p : Prop} [Decidable p] (hq : q ≤ 100) (h : 65535 + q ≤ 65536 ↔ p) : (mayT (prj q) == decide p) = true := by
  obtain ⟨h1, h2, h3⟩ := prj_all q
  rw [beq_iff_eq, Bool.eq_iff_iff, mayT_iff, h1, h2, h3, decide_eq_true_eq, ← h]
  simp; omega
theorem tmod4 {a : Int} (h : -128 ≤ a ∧ a ≤ 127) : -3 ≤ a.tmod 4 ∧ a.tmod 4 ≤ 3 := by
  rcases Int.le_total 0 a with h0 | h0
  · rw [Int.tmod_eq_emod_of_nonneg h0]; omega
  · have e : a = -(-a) := by omega
    rw [e, Int.neg_tmod, Int.tmod_eq_emod_of_nonneg (by omega)]; omega

/-! the reference's Deep -/
mutual
def lvs : T → Bool
  | .mk _ _ _ ls ts => decide (ls.length ≤ 20) && lvss ts
def lvss : List T → Bool
  | [] => true
  | t :: r => lvs t && lvss r
end
mutual
def deepF : T → Int → Int → Int
  | .mk _ _ _ ls ts, left, deep => if left - 1 < 0 ∨ deep ≤ 0 ∨ 20 < (ls.length : Int) then -1 else deepsF ts (left - 1) (deep - 1)
def deepsF : List T → Int → Int → Int
  | [], left, _ => left
  | t :: r, left, deep => if deepF t left deep < 0 then -1 else deepsF r (deepF t left deep) deep
end
theorem deepF_spec (t : T) : ∀ (left deep : Int), 0 ≤ left →
    (lvs t = true ∧ (size t : Int) ≤ left ∧ (depth t : Int) ≤ deep → deepF t left deep = left - size t) ∧ (¬ (lvs t = true ∧ (size t : Int) ≤ left ∧ (depth t : Int) ≤ deep) → deepF t left deep = -1) := by
  refine T.rec (motive_1 := fun t => ∀ (left deep : Int), 0 ≤ left →
      (lvs t = true ∧ (size t : Int) ≤ left ∧ (depth t : Int) ≤ deep → deepF t left deep = left - size t) ∧ (¬ (lvs t = true ∧ (size t : Int) ≤ left ∧ (depth t : Int) ≤ deep) → deepF t left deep = -1))
    (motive_2 := fun ts => ∀ (left deep : Int), 0 ≤ left → 0 ≤ deep →
      (lvss ts = true ∧ (sizes ts : Int) ≤ left ∧ (depths ts : Int) ≤ deep → deepsF ts left deep = left - sizes ts) ∧ (¬ (lvss ts = true ∧ (sizes ts : Int) ≤ left ∧ (depths ts : Int) ≤ deep) → deepsF ts left deep = -1)) ?_ ?_ ?_ t
  · intro k n s ls ts ih left deep h0
    simp only [deepF, lvs, size, depth, Bool.and_eq_true, decide_eq_true_eq]
    by_cases h1 : left - 1 < 0 ∨ deep ≤ 0 ∨ 20 < (ls.length : Int)
    · rw [if_pos h1]
      refine ⟨?_, fun _ => rfl⟩
      rintro ⟨⟨h2, _⟩, h3, h4⟩
      omega
    · rw [if_neg h1]
      obtain ⟨i1, i2⟩ := ih (left - 1) (deep - 1) (by omega) (by omega)
      constructor
      · rintro ⟨⟨_, h3⟩, h4, h5⟩
        rw [i1 ⟨h3, by omega, by omega⟩]; omega
      · intro hne
        exact i2 fun ⟨h3, h4, h5⟩ => hne ⟨⟨by omega, h3⟩, by omega, by omega⟩
  · intro left deep h0 hd
    simp only [deepsF, lvss, sizes, depths]
    exact ⟨fun _ => by omega, fun h => absurd ⟨trivial, by omega, by omega⟩ h⟩
  · intro t r iht ihr left deep h0 hd
    simp only [deepsF, lvss, sizes, depths, Bool.and_eq_true]
    obtain ⟨t1, t2⟩ := iht left deep h0
    by_cases h1 : lvs t = true ∧ (size t : Int) ≤ left ∧ (depth t : Int) ≤ deep
    · rw [t1 h1, if_neg (by omega)]
      obtain ⟨r1, r2⟩ := ihr (left - size t) deep (by omega) hd
      constructor
      · rintro ⟨⟨_, h3⟩, h4, h5⟩
        rw [r1 ⟨h3, by omega, by omega⟩]; omega
      · intro hne
        exact r2 fun ⟨h3, h4, h5⟩ => hne ⟨⟨h1.1, h3⟩, by omega, by omega⟩
    · rw [t2 h1, if_pos (by omega)]
      refine ⟨?_, fun _ => rfl⟩
      rintro ⟨⟨h2, _⟩, h3, h4⟩
      exact absurd ⟨h2, by omega, by omega⟩ h1
theorem deepF_neg (t : T) (left deep : Int) : -1 ≤ deepF t left deep ∨ left < 0 := by
  rcases Int.lt_or_le left 0 with h | h
  · exact .inr h
  · left
    by_cases h1 : lvs t = true ∧ (size t : Int) ≤ left ∧ (depth t : Int) ≤ deep
    · rw [((deepF_spec t left deep h).1 h1)]; omega
    · rw [((deepF_spec t left deep h).2 h1)]; omega
theorem deepF_le (t : T) (left deep : Int) (h : 0 ≤ left) : deepF t left deep ≤ left := by
  have := size_pos t
  by_cases h1 : lvs t = true ∧ (size t : Int) ≤ left ∧ (depth t : Int) ≤ deep
  · rw [((deepF_spec t left deep h).1 h1)]; omega
  · rw [((deepF_spec t left deep h).2 h1)]; omega
theorem deepsF_nil (l d : Int) : deepsF [] l d = l := by rw [deepsF]
theorem deepsF_cons (x : T) (r : List T) (l d : Int) : deepsF (x :: r) l d = if deepF x l d < 0 then -1 else deepsF r (deepF x l d) d := by rw [deepsF]
theorem deepsF_one (t : T) (l d : Int) : deepsF [t] l d = if deepF t l d < 0 then -1 else deepF t l d := by rw [deepsF_cons, deepsF_nil]
theorem deepsF_snoc (a : List T) (t : T) (d : Int) : ∀ l, 0 ≤ l → (deepsF a l d < 0 → deepsF (a ++ [t]) l d = -1) ∧
    (0 ≤ deepsF a l d → deepF t (deepsF a l d) d < 0 → deepsF (a ++ [t]) l d = -1) ∧ (0 ≤ deepsF a l d → 0 ≤ deepF t (deepsF a l d) d → deepsF (a ++ [t]) l d = deepF t (deepsF a l d) d) := by
  induction a with
  | nil =>
    intro l hl
    rw [List.nil_append, deepsF_nil, deepsF_one]
    exact ⟨fun h => by omega, fun _ h => by rw [if_pos h], fun _ h => by rw [if_neg (by omega)]⟩
  | cons x r ih =>
    intro l hl
    rw [List.cons_append, deepsF_cons, deepsF_cons]
    by_cases h : deepF x l d < 0
    · rw [if_pos h, if_pos h]
      exact ⟨fun _ => rfl, fun h => by omega, fun h => by omega⟩
    · rw [if_neg h, if_neg h]; exact ih _ (by omega)
theorem deepsF_neg (a b : List T) (d : Int) : ∀ l, 0 ≤ l → deepsF a l d < 0 → deepsF (a ++ b) l d = -1 := by
  induction a with
  | nil => intro l hl h; rw [deepsF_nil] at h; omega
  | cons x r ih =>
    intro l hl h
    rw [deepsF_cons] at h
    rw [List.cons_append, deepsF_cons]
    by_cases h1 : deepF x l d < 0
    · rw [if_pos h1]
    · rw [if_neg h1] at h ⊢; exact ih _ (by omega) h
theorem deepsF_step (ts : List T) (i : Nat) (hi : i < ts.length) (l d : Int) (hl : 0 ≤ l) (h0 : 0 ≤ deepsF (ts.take i) l d) :
    (0 ≤ deepF ts[i] (deepsF (ts.take i) l d) d → deepsF (ts.take (i + 1)) l d = deepF ts[i] (deepsF (ts.take i) l d) d) ∧ (deepF ts[i] (deepsF (ts.take i) l d) d < 0 → deepsF ts l d = -1) := by
  obtain ⟨_, hs1, hs2⟩ := deepsF_snoc (ts.take i) ts[i] d l hl
  rw [← take_snoc ts i hi] at hs1 hs2
  constructor
  · intro h; exact hs2 h0 h
  · intro h
    have hs := hs1 h0 h
    have := deepsF_neg (ts.take (i + 1)) (ts.drop (i + 1)) d l hl (by omega)
    rwa [List.take_append_drop] at this
theorem deepF_mk (k n : Int) (s : ByteArray) (ls : List L) (ts : List T) (left deep : Int) : deepF (.mk k n s ls ts) left deep = if left - 1 < 0 ∨ deep ≤ 0 ∨ 20 < (ls.length : Int) then -1 else deepsF ts (left - 1) (deep - 1) := by rw [deepF]
def isDeep (t : T) : Bool := decide (deepF t 131072 8192 < 0)
theorem node_lvs {k n : Int} {b : ByteArray} {ls : List L} {ts : List T} (h : nodeB (.mk k n b ls ts) = true) : ls.length ≤ 20 := by
  have h1 := ((nodeB_iff _ _ _ _ _).1 h).2.2.2.2.2
  split at h1
  · omega
  · split at h1 <;> omega
theorem nodes_lvs (t : T) : nodes t = true → lvs t = true := by
  refine T.rec (motive_1 := fun t => nodes t = true → lvs t = true) (motive_2 := fun ts => nodess ts = true → lvss ts = true) ?_ ?_ ?_ t
  · intro k n s ls ts ih h
    obtain ⟨h1, h2⟩ := nodes_mk h
    simp only [lvs, Bool.and_eq_true, decide_eq_true_eq]
    exact ⟨node_lvs h1, ih h2⟩
  · intro _; rfl
  · intro t r iht ihr h
    simp only [nodess, Bool.and_eq_true] at h
    simp only [lvss, Bool.and_eq_true]
    exact ⟨iht h.1, ihr h.2⟩
theorem isDeep_no {t : T} (h : isDeep t = false) : size t ≤ 131072 ∧ depth t ≤ 8192 := by
  unfold isDeep at h
  have h1 := of_decide_eq_false h
  by_cases h2 : lvs t = true ∧ (size t : Int) ≤ 131072 ∧ (depth t : Int) ≤ 8192
  · omega
  · rw [((deepF_spec t 131072 8192 (by omega)).2 h2)] at h1; omega
theorem may_isDeep {t : T} (h : mayT t = true) : isDeep t = false := by
  obtain ⟨h1, h2, h3⟩ := (mayT_iff t).1 h
  unfold isDeep
  apply decide_eq_false
  rw [((deepF_spec t 131072 8192 (by omega)).1 ⟨nodes_lvs t h1, by omega, by omega⟩)]; omega

/-! applying -/
def apT (f : T) (l : List T) : T := l.foldl tA f
theorem apT_nil (f : T) : apT f [] = f := rfl
theorem apT_snoc (f : T) (l : List T) (x : T) : apT f (l ++ [x]) = tA (apT f l) x := by unfold apT; rw [List.foldl_append]; rfl
theorem apT_succ (f : T) (ts : List T) (q : Nat) (h : q < ts.length) : apT f (ts.take (q + 1)) = tA (apT f (ts.take q)) ts[q] := by rw [take_snoc ts q h, apT_snoc]
theorem tA_all {f x : T} (h : mayT (tA f x) = true) : mayT f = true := by
  obtain ⟨h1, h2, h3⟩ := (mayT_iff _).1 h
  rw [tA] at h1 h2 h3
  obtain ⟨_, h4⟩ := nodes_mk h1
  simp only [nodess, Bool.and_eq_true] at h4
  simp only [size, sizes] at h2
  simp only [depth, depths] at h3
  exact (mayT_iff f).2 ⟨h4.1, by omega, by omega⟩
theorem may_apT (f : T) (l : List T) : mayT (apT f l) = true → mayT f = true := by
  unfold apT
  induction l generalizing f with
  | nil => exact fun h => h
  | cons x r ih => exact fun h => tA_all (ih (tA f x) h)
theorem head_apT (f : T) (l : List T) : head (apT f l) = head f := by
  unfold apT
  induction l generalizing f with
  | nil => rfl
  | cons x r ih => rw [List.foldl_cons, ih, tA, head_app]
theorem spArgs_apT (f : T) (l : List T) : spArgs (apT f l) = spArgs f ++ l := by
  unfold apT
  induction l generalizing f with
  | nil => simp
  | cons x r ih => rw [List.foldl_cons, ih, tA, spArgs_app, List.append_assoc]; rfl
theorem node_tA {n : Int} {b : ByteArray} {ls : List L} {ts : List T} (h : nodeB (.mk 4 n b ls ts) = true) : n = 0 ∧ b = ⟨#[]⟩ ∧ ls = [] := by
  obtain ⟨_, _, _, h1, h2, h3⟩ := (nodeB_iff _ _ _ _ _).1 h
  simp at h2 h3
  rw [if_neg (by decide)] at h1
  refine ⟨h2, ?_, h3⟩
  cases b with
  | mk d =>
    have h4 : d.size = 0 := h1
    congr 1
    exact Array.eq_empty_of_size_eq_zero h4
theorem head_kind (t : T) : nodes t = true → (head t).k ≠ 4 := by
  refine T.rec (motive_1 := fun t => nodes t = true → (head t).k ≠ 4) (motive_2 := fun ts => nodess ts = true → ∀ t, t ∈ ts → (head t).k ≠ 4) ?_ ?_ ?_ t
  · intro k n s ls ts ih h
    obtain ⟨h1, h2⟩ := nodes_mk h
    by_cases hk : k = 4
    · subst hk
      obtain ⟨f, x, rfl⟩ := node_app h1
      rw [head_app]
      exact ih h2 f (by simp)
    · rw [head_no hk]; exact hk
  · intro _ t ht; cases ht
  · intro t r iht ihr h u hu
    simp only [nodess, Bool.and_eq_true] at h
    cases hu with
    | head => exact iht h.1
    | tail _ hu => exact ihr h.2 u hu
theorem apT_spine (t : T) : nodes t = true → apT (head t) (spArgs t) = t := by
  refine T.rec (motive_1 := fun t => nodes t = true → apT (head t) (spArgs t) = t) (motive_2 := fun ts => nodess ts = true → ∀ t, t ∈ ts → apT (head t) (spArgs t) = t) ?_ ?_ ?_ t
  · intro k n s ls ts ih h
    obtain ⟨h1, h2⟩ := nodes_mk h
    by_cases hk : k = 4
    · subst hk
      obtain ⟨e1, e2, e3⟩ := node_tA h1
      obtain ⟨f, x, rfl⟩ := node_app h1
      rw [head_app, spArgs_app, apT_snoc, ih h2 f (by simp), e1, e2, e3]
      rfl
    · rw [head_no hk, spArgs_no hk]; rfl
  · intro _ t ht; cases ht
  · intro t r iht ihr h u hu
    simp only [nodess, Bool.and_eq_true] at h
    cases hu with
    | head => exact iht h.1
    | tail _ hu => exact ihr h.2 u hu
theorem apT_back (f : T) (l : List T) (h : mayT f = true) : apT (head f) (spArgs f ++ l) = apT f l := by
  have h1 := apT_spine f (may_nodes h)
  conv => rhs; rw [← h1]
  unfold apT; rw [List.foldl_append]
theorem sameB_refl (t : T) : sameB t t = true := (sameB_iff t t).2 rfl
end Go.Proofs.Bw
