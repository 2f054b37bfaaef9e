/-
  Conditions of a function's code, by a program: what slots hold is told by words of one's own (SV), and what an operation that only computes does is computed; it stops where something is to be shown.
-/
import Derived.Test.YtnoghkpofpaeeaaGreatDraw
namespace Go.Proofs.Bw
open Go Go.RowKit

/-! ### what a slot holds -/
inductive SV where
  | v (x : Value)
  | p (k off : Nat)
  | a (l : List SV)
  | t (l : List SV)
  | f (g : Nat) (first cap : List SV)

def adr : List Nat → Nat → Nat
  | [], _ => 0
  | g :: _, 0 => g
  | _ :: r, k + 1 => adr r k

mutual
def conc (ρ : List Nat) : SV → Value
  | .v x => x
  | .p k off => .pointer (some ⟨adr ρ k, off, none⟩)
  | .a l => .agg ⟨concs ρ l⟩
  | .t l => .tuple ⟨concs ρ l⟩
  | .f g fs cs => .func (.func g) ⟨concs ρ fs⟩ ⟨concs ρ cs⟩
def concs (ρ : List Nat) : List SV → List Value
  | [] => []
  | s :: r => conc ρ s :: concs ρ r
end
mutual
def wf (n : Nat) : SV → Bool
  | .v _ => true
  | .p k _ => Nat.blt k n
  | .a l => wfs n l
  | .t l => wfs n l
  | .f _ fs cs => wfs n fs && wfs n cs
def wfs (n : Nat) : List SV → Bool
  | [] => true
  | s :: r => wf n s && wfs n r
end

theorem adr_app {ρ : List Nat} (l : List Nat) : ∀ {k : Nat}, k < ρ.length → adr (ρ ++ l) k = adr ρ k := by
  induction ρ with
  | nil => intro k h; simp at h
  | cons g r ih =>
    intro k h
    cases k with
    | zero => rfl
    | succ k => exact ih (by simpa using h)
theorem adr_new (ρ : List Nat) (g : Nat) : adr (ρ ++ [g]) ρ.length = g := by
  induction ρ with
  | nil => rfl
  | cons _ r ih => exact ih
theorem conc_app {ρ : List Nat} (l : List Nat) : ∀ s : SV, wf ρ.length s = true → conc (ρ ++ l) s = conc ρ s := by
  refine SV.rec (motive_1 := fun s => wf ρ.length s = true → conc (ρ ++ l) s = conc ρ s) (motive_2 := fun r => wfs ρ.length r = true → concs (ρ ++ l) r = concs ρ r) ?_ ?_ ?_ ?_ ?_ ?_ ?_
  · intro x _; rfl
  · intro k off h
    simp only [wf, Nat.blt_eq] at h
    simp only [conc, adr_app l h]
  · intro r ih h; simp only [wf] at h; simp only [conc, ih h]
  · intro r ih h; simp only [wf] at h; simp only [conc, ih h]
  · intro g fs cs h1 h2 h; simp only [wf, Bool.and_eq_true] at h; simp only [conc, h1 h.1, h2 h.2]
  · intro _; rfl
  · intro s r h1 h2 h; simp only [wfs, Bool.and_eq_true] at h; simp only [concs, h1 h.1, h2 h.2]
theorem concs_app {ρ : List Nat} (l : List Nat) : ∀ r : List SV, wfs ρ.length r = true → concs (ρ ++ l) r = concs ρ r
  | [], _ => rfl
  | s :: r, h => by simp only [wfs, Bool.and_eq_true] at h; simp only [concs, conc_app l s h.1, concs_app l r h.2]
theorem wf_mono {n m : Nat} (hnm : n ≤ m) : ∀ s : SV, wf n s = true → wf m s = true := by
  refine SV.rec (motive_1 := fun s => wf n s = true → wf m s = true) (motive_2 := fun r => wfs n r = true → wfs m r = true) ?_ ?_ ?_ ?_ ?_ ?_ ?_
  · intro x _; rfl
  · intro k off h
    simp only [wf, Nat.blt_eq] at h ⊢; omega
  · intro r ih h; exact ih h
  · intro r ih h; exact ih h
  · intro g fs cs h1 h2 h; simp only [wf, Bool.and_eq_true] at h ⊢; exact ⟨h1 h.1, h2 h.2⟩
  · intro _; rfl
  · intro s r h1 h2 h; simp only [wfs, Bool.and_eq_true] at h ⊢; exact ⟨h1 h.1, h2 h.2⟩
theorem wfs_mono {n m : Nat} (hnm : n ≤ m) : ∀ r : List SV, wfs n r = true → wfs m r = true
  | [], _ => rfl
  | s :: r, h => by simp only [wfs, Bool.and_eq_true] at h ⊢; exact ⟨wf_mono hnm s h.1, wfs_mono hnm r h.2⟩
theorem concs_length (ρ : List Nat) (l : List SV) : (concs ρ l).length = l.length := by
  induction l with
  | nil => rfl
  | cons s r ih => simp [concs, ih]
theorem concs_get (ρ : List Nat) (l : List SV) (i : Nat) : (concs ρ l)[i]? = (l[i]?).map (conc ρ) := by
  induction l generalizing i with
  | nil => simp [concs]
  | cons s r ih => cases i with
    | zero => simp [concs]
    | succ i => simp [concs, ih]
theorem concs_append (ρ : List Nat) (l m : List SV) : concs ρ (l ++ m) = concs ρ l ++ concs ρ m := by
  induction l with
  | nil => rfl
  | cons s r ih => simp [concs, ih]
theorem concs_drop (ρ : List Nat) (l : List SV) (n : Nat) : concs ρ (l.drop n) = (concs ρ l).drop n := by
  induction l generalizing n with
  | nil => simp [concs]
  | cons s r ih => cases n with
    | zero => rfl
    | succ n => simp [concs, ih]
theorem concs_take (ρ : List Nat) (l : List SV) (n : Nat) : concs ρ (l.take n) = (concs ρ l).take n := by
  induction l generalizing n with
  | nil => simp [concs]
  | cons s r ih => cases n with
    | zero => rfl
    | succ n => simp [concs, ih]
theorem concs_set (ρ : List Nat) (l : List SV) (i : Nat) (s : SV) : concs ρ (l.set i s) = (concs ρ l).set i (conc ρ s) := by
  induction l generalizing i with
  | nil => simp [concs]
  | cons x r ih => cases i with
    | zero => rfl
    | succ i => simp [concs, ih]
theorem wfs_get {n : Nat} {l : List SV} (h : wfs n l = true) {i : Nat} {s : SV} (hs : l[i]? = some s) : wf n s = true := by
  induction l generalizing i with
  | nil => simp at hs
  | cons x r ih =>
    simp only [wfs, Bool.and_eq_true] at h
    cases i with
    | zero => simp at hs; subst hs; exact h.1
    | succ i => exact ih h.2 (by simpa using hs)
theorem wfs_drop {n : Nat} {l : List SV} (h : wfs n l = true) (k : Nat) : wfs n (l.drop k) = true := by
  induction l generalizing k with
  | nil => simpa using h
  | cons x r ih =>
    cases k with
    | zero => exact h
    | succ k => simp only [wfs, Bool.and_eq_true] at h; exact ih h.2 k
theorem wfs_take {n : Nat} {l : List SV} (h : wfs n l = true) (k : Nat) : wfs n (l.take k) = true := by
  induction l generalizing k with
  | nil => simp [wfs]
  | cons x r ih =>
    cases k with
    | zero => rfl
    | succ k => simp only [wfs, Bool.and_eq_true, List.take_succ_cons] at h ⊢; exact ⟨h.1, ih h.2 k⟩
theorem wfs_set {n : Nat} {l : List SV} (h : wfs n l = true) (i : Nat) {s : SV} (hs : wf n s = true) : wfs n (l.set i s) = true := by
  induction l generalizing i with
  | nil => simpa using h
  | cons x r ih =>
    simp only [wfs, Bool.and_eq_true] at h
    cases i with
    | zero => simp only [List.set_cons_zero, wfs, Bool.and_eq_true]; exact ⟨hs, h.2⟩
    | succ i => simp only [List.set_cons_succ, wfs, Bool.and_eq_true]; exact ⟨h.1, ih h.2 i⟩
theorem wfs_append {n : Nat} {l m : List SV} (h1 : wfs n l = true) (h2 : wfs n m = true) : wfs n (l ++ m) = true := by
  induction l with
  | nil => exact h2
  | cons x r ih => simp only [wfs, Bool.and_eq_true] at h1; simp only [List.cons_append, wfs, Bool.and_eq_true]; exact ⟨h1.1, ih h1.2⟩

/-! ### blocks of one's own, by numbers -/
abbrev Heap := List (Nat × List SV)
def hget : Heap → Nat → Option (List SV)
  | [], _ => none
  | (k, c) :: r, i => bif Nat.beq k i then some c else hget r i
def hset : Heap → Nat → List SV → Heap
  | [], _, _ => []
  | (k, c) :: r, i, d => bif Nat.beq k i then (k, d) :: r else (k, c) :: hset r i d
structure Holds (ρ : List Nat) (H : Heap) (w : World) : Prop where
  box : ∀ k cs, hget H k = some cs → Box w (adr ρ k) (concs ρ cs)
  ne : ∀ i j, i < ρ.length → j < ρ.length → i ≠ j → adr ρ i ≠ adr ρ j
  lt : ∀ i, i < ρ.length → adr ρ i < w.heap.size
  ok : ∀ k cs, hget H k = some cs → k < ρ.length ∧ wfs ρ.length cs = true

theorem beq_ne {a b : Nat} (h : a ≠ b) : Nat.beq a b = false := by
  cases hh : Nat.beq a b with
  | false => rfl
  | true => exact absurd (Nat.eq_of_beq_eq_true hh) h
theorem beq_self (a : Nat) : Nat.beq a a = true := by simp
theorem hget_set {H : Heap} {k : Nat} {d : List SV} {c : List SV} (hc : hget H k = some c) (i : Nat) : hget (hset H k d) i = if i = k then some d else hget H i := by
  induction H with
  | nil => cases hc
  | cons x r ih =>
    obtain ⟨q, e⟩ := x
    simp only [hget, hset] at hc ⊢
    by_cases hq : q = k
    · subst hq
      simp only [beq_self, cond_true, hget]
      by_cases hi : i = q
      · subst hi; simp
      · simp [beq_ne (fun h => hi h.symm), hi]
    · rw [beq_ne hq] at hc ⊢
      simp only [cond_false, hget] at hc ⊢
      by_cases hi : q = i
      · subst hi; simp [hq]
      · simp only [beq_ne hi, cond_false]; exact ih hc
theorem hget_app {H : Heap} {k : Nat} {c : List SV} (i : Nat) (hk : ∀ cs, hget H k ≠ some cs) : hget (H ++ [(k, c)]) i = if i = k then some c else hget H i := by
  induction H with
  | nil =>
    simp only [List.nil_append, hget]
    by_cases hi : k = i
    · subst hi; simp
    · simp only [beq_ne hi, cond_false]; rw [if_neg (fun h => hi h.symm)]
  | cons x r ih =>
    obtain ⟨q, e⟩ := x
    simp only [hget, List.cons_append] at hk ⊢
    by_cases hq : q = k
    · subst hq; simp at hk
    · rw [beq_ne hq] at hk
      by_cases hi : q = i
      · subst hi; simp [hq]
      · simp only [beq_ne hi, cond_false]; exact ih hk

section
variable {ρ : List Nat} {H : Heap} {w w' : World}
theorem Holds.nil (w : World) : Holds [] [] w := ⟨fun _ _ h => by simp [hget] at h, fun i j h => by simp at h, fun i h => by simp at h, fun _ _ h => by simp [hget] at h⟩
theorem Holds.ext (h : Holds ρ H w) (hx : Ext w w') : Holds ρ H w' :=
  ⟨fun k cs hk => (h.box k cs hk).ext hx, h.ne, fun i hi => Nat.lt_of_lt_of_le (h.lt i hi) hx.size, h.ok⟩
theorem Holds.upd (h : Holds ρ H w) {b : Nat} {c d : List SV} (hb : hget H b = some c) (hx : Upd (adr ρ b) w w') (hB : Box w' (adr ρ b) (concs ρ d)) (hd : wfs ρ.length d = true) : Holds ρ (hset H b d) w' := by
  obtain ⟨hbl, _⟩ := h.ok b c hb
  refine ⟨fun k cs hk => ?_, h.ne, fun i hi => Nat.lt_of_lt_of_le (h.lt i hi) hx.size, fun k cs hk => ?_⟩
  · rw [hget_set hb] at hk
    by_cases hkb : k = b
    · subst hkb; rw [if_pos rfl] at hk; cases hk; exact hB
    · rw [if_neg hkb] at hk
      exact (h.box k cs hk).upd hx (h.ne k b (h.ok k cs hk).1 hbl hkb)
  · rw [hget_set hb] at hk
    by_cases hkb : k = b
    · subst hkb; rw [if_pos rfl] at hk; cases hk; exact ⟨hbl, hd⟩
    · rw [if_neg hkb] at hk; exact h.ok k cs hk
theorem Holds.new (h : Holds ρ H w) {g : Nat} {c : List SV} (hg : g = w.heap.size) (hx : Ext w w') (hs : w'.heap.size = w.heap.size + 1) (hB : Box w' g (concs ρ c)) (hc : wfs ρ.length c = true) : Holds (ρ ++ [g]) (H ++ [(ρ.length, c)]) w' := by
  have hno : ∀ cs, hget H ρ.length ≠ some cs := fun cs hk => by have := (h.ok _ _ hk).1; omega
  refine ⟨fun k cs hk => ?_, fun i j hi hj hij => ?_, fun i hi => ?_, fun k cs hk => ?_⟩
  · rw [hget_app _ hno] at hk
    by_cases hkr : k = ρ.length
    · subst hkr
      rw [if_pos rfl] at hk; cases hk
      rw [adr_new, concs_app _ _ hc]; exact hB
    · rw [if_neg hkr] at hk
      obtain ⟨h1, h2⟩ := h.ok k cs hk
      rw [adr_app _ h1, concs_app _ _ h2]; exact (h.box k cs hk).ext hx
  · simp only [List.length_append, List.length_singleton] at hi hj
    by_cases hi' : i = ρ.length <;> by_cases hj' : j = ρ.length
    · omega
    · subst hi'
      have := h.lt j (by omega)
      rw [adr_new, adr_app _ (by omega)]; omega
    · subst hj'
      have := h.lt i (by omega)
      rw [adr_new, adr_app _ (by omega)]; omega
    · rw [adr_app _ (by omega), adr_app _ (by omega)]; exact h.ne i j (by omega) (by omega) hij
  · simp only [List.length_append, List.length_singleton] at hi
    by_cases hi' : i = ρ.length
    · subst hi'; rw [adr_new]; omega
    · have := h.lt i (by omega); rw [adr_app _ (by omega)]; omega
  · rw [hget_app _ hno] at hk
    simp only [List.length_append, List.length_singleton]
    by_cases hkr : k = ρ.length
    · subst hkr; rw [if_pos rfl] at hk; cases hk; exact ⟨by omega, wfs_mono (by omega) _ hc⟩
    · rw [if_neg hkr] at hk
      obtain ⟨h1, h2⟩ := h.ok k cs hk
      exact ⟨by omega, wfs_mono (by omega) _ h2⟩
/-- A box that is forgotten. -/
def hsub : Heap → Heap → Prop
  | [], _ => True
  | (k, c) :: r, H => hget H k = some c ∧ hsub r H
theorem hsub.get {H H' : Heap} (h : hsub H' H) : ∀ k c, hget H' k = some c → hget H k = some c := by
  induction H' with
  | nil => intro k c hk; cases hk
  | cons x r ih =>
    obtain ⟨q, e⟩ := x
    intro k c hk
    simp only [hget] at hk
    by_cases hq : q = k
    · subst hq; rw [beq_self] at hk; cases hk; exact h.1
    · rw [beq_ne hq] at hk; exact ih h.2 k c hk
theorem Holds.sub {H' : Heap} (h : Holds ρ H w) (hs : hsub H' H) : Holds ρ H' w := ⟨fun k cs hk => h.box k cs (hs.get k cs hk), h.ne, h.lt, fun k cs hk => h.ok k cs (hs.get k cs hk)⟩
/-- Newer boxes are forgotten. -/
theorem Holds.back {l : List Nat} (h : Holds (ρ ++ l) H w) {H' : Heap} (hs : hsub H' H) (hw : ∀ k c, hget H' k = some c → k < ρ.length ∧ wfs ρ.length c = true) : Holds ρ H' w := by
  refine ⟨fun k cs hk => ?_, fun i j hi hj hij => ?_, fun i hi => ?_, hw⟩
  · have hb := h.box k cs (hs.get k cs hk)
    obtain ⟨h1, h2⟩ := hw k cs hk
    rwa [adr_app _ h1, concs_app _ _ h2] at hb
  · have := h.ne i j (by simp; omega) (by simp; omega) hij
    rwa [adr_app _ hi, adr_app _ hj] at this
  · have := h.lt i (by simp; omega)
    rwa [adr_app _ hi] at this
end

/-! ### types -/
structure FD where
  off : Nat
  size : Nat
  agg : Bool
inductive TK where
  | int (k : IntKind)
  | bool
  | str
  | slice (el sz : Nat)
  | arr (len el sz : Nat) (agg : Bool)
  | struct (fs : List FD)
  | ptr
  | other
structure TD where
  agg : Bool
  size : Nat
  zero : List Value
  k : TK
abbrev Tab := List (Nat × TD)
def tget : Tab → Nat → Option TD
  | [], _ => none
  | (k, d) :: r, i => bif Nat.beq k i then some d else tget r i
def FDOk (P : Program) : List Field → List FD → Prop
  | [], [] => True
  | f :: fs, d :: r => f.offset = d.off ∧ SizeIs P f.type d.size ∧ AggIs P f.type d.agg ∧ FDOk P fs r
  | _, _ => False
def TKOk (P : Program) (t : Nat) : TK → Prop
  | .int k => P.underlying t = some (.int k)
  | .bool => P.underlying t = some .bool
  | .str => P.underlying t = some .string
  | .slice el sz => P.underlying t = some (.slice el) ∧ SizeIs P el sz
  | .arr len el sz ag => P.underlying t = some (.array len el) ∧ SizeIs P el sz ∧ AggIs P el ag
  | .struct l => ∃ fs, P.underlying t = some (.struct fs) ∧ FDOk P fs.toList l
  | .ptr => ∃ el, P.underlying t = some (.pointer el)
  | .other => True
structure TDOk (P : Program) (t : Nat) (d : TD) : Prop where
  agg : AggIs P t d.agg
  size : SizeIs P t d.size
  zero : ∃ z, ZeroIs P t z ∧ z.cells.toList = d.zero
  k : TKOk P t d.k
def TabOk (P : Program) : Tab → Prop
  | [] => True
  | (t, d) :: r => TDOk P t d ∧ TabOk P r
theorem TabOk.get {P : Program} {tab : Tab} (h : TabOk P tab) {t : Nat} {d : TD} (hd : tget tab t = some d) : TDOk P t d := by
  induction tab with
  | nil => cases hd
  | cons x r ih =>
    obtain ⟨q, e⟩ := x
    simp only [tget] at hd
    by_cases hq : q = t
    · subst hq; rw [beq_self] at hd; cases hd; exact h.1
    · rw [beq_ne hq] at hd; exact ih h.2 hd
theorem FDOk.get {P : Program} : ∀ {fs : List Field} {l : List FD}, FDOk P fs l → ∀ {i : Nat} {d : FD}, l[i]? = some d → ∃ fd, fs[i]? = some fd ∧ fd.offset = d.off ∧ SizeIs P fd.type d.size ∧ AggIs P fd.type d.agg
  | [], [], _, i, d, h => by simp at h
  | f :: fs, x :: r, h, 0, d, hd => by
    simp at hd; subst hd; exact ⟨f, rfl, h.1, h.2.1, h.2.2.1⟩
  | f :: fs, x :: r, h, i + 1, d, hd => FDOk.get h.2.2.2 (i := i) (by simpa using hd)
  | [], _ :: _, h, _, _, _ => h.elim
  | _ :: _, [], h, _, _, _ => h.elim
theorem FDOk.places {P : Program} (w : World) : ∀ {fs : List Field} {l : List FD}, FDOk P fs l → (fs.mapM (fun f : Field => (do pure (f.offset, ← sizeOf f.type) : Sem (Nat × Nat)))).run P w = .ok (l.map fun d => (d.off, d.size)) w
  | [], [], _ => by simp
  | f :: fs, x :: r, h => by
    have ih := FDOk.places w h.2.2.2
    simp only [List.mapM_cons, Sem.run_bind, Sem.run_pure, h.2.1 w, Result.andThen_ok, ih, h.1, List.map_cons]
  | [], _ :: _, h => h.elim
  | _ :: _, [], h => h.elim
def FnsOk (P : Program) : List Nat → Prop
  | [] => True
  | f :: r => EntersAt P f ∧ FnsOk P r
def nmem : List Nat → Nat → Bool
  | [], _ => false
  | f :: r, g => bif Nat.beq f g then true else nmem r g
theorem FnsOk.get {P : Program} {l : List Nat} (h : FnsOk P l) {g : Nat} (hg : nmem l g = true) : EntersAt P g := by
  induction l with
  | nil => cases hg
  | cons f r ih =>
    simp only [nmem] at hg
    by_cases hf : f = g
    · subst hf; exact h.1
    · rw [beq_ne hf] at hg; exact ih h.2 hg
structure Cx where
  P : Program
  tab : Tab
  fns : List Nat
structure Cx.Ok (C : Cx) : Prop where
  tab : TabOk C.P C.tab
  fns : FnsOk C.P C.fns
  mixed : C.P.follows .mixedOrders = true

/-! ### what is computed is laid out -/
def fS (s : SV) (k : SV → Prop) : Prop :=
  match s with
  | .v x => k (.v x)
  | .p a b => k (.p a b)
  | .a l => k (.a l)
  | .t l => k (.t l)
  | .f g a b => k (.f g a b)
theorem fS_eq (s : SV) (k : SV → Prop) : fS s k = k s := by cases s <;> rfl
def fSL : List SV → (List SV → Prop) → Prop
  | [], k => k []
  | s :: r, k => fSL r fun r' => fS s fun s' => k (s' :: r')
theorem fSL_eq : ∀ (l : List SV) (k : List SV → Prop), fSL l k = k l
  | [], _ => rfl
  | s :: r, k => by simp only [fSL, fSL_eq r, fS_eq]
def fH : Heap → (Heap → Prop) → Prop
  | [], k => k []
  | (i, c) :: r, k => fH r fun r' => fSL c fun c' => k ((i, c') :: r')
theorem fH_eq : ∀ (l : Heap) (k : Heap → Prop), fH l k = k l
  | [], _ => rfl
  | (i, c) :: r, k => by simp only [fH, fH_eq r, fSL_eq]
def fR : List Nat → (List Nat → Prop) → Prop
  | [], k => k []
  | g :: r, k => fR r fun r' => k (g :: r')
theorem fR_eq : ∀ (l : List Nat) (k : List Nat → Prop), fR l k = k l
  | [], _ => rfl
  | g :: r, k => by simp only [fR, fR_eq r]
def fE : List (Nat × SV) → (List (Nat × SV) → Prop) → Prop
  | [], k => k []
  | (t, s) :: r, k => fE r fun r' => fS s fun s' => k ((t, s') :: r')
theorem fE_eq : ∀ (l : List (Nat × SV)) (k : List (Nat × SV) → Prop), fE l k = k l
  | [], _ => rfl
  | (t, s) :: r, k => by simp only [fE, fE_eq r, fS_eq]
def fO : List (Nat × SV) → Option (List (Nat × SV))
  | [] => some []
  | (t, s) :: r => match fO r with
    | some r' => match s with
      | .v x => some ((t, .v x) :: r')
      | .p a b => some ((t, .p a b) :: r')
      | .a l => some ((t, .a l) :: r')
      | .t l => some ((t, .t l) :: r')
      | .f g a b => some ((t, .f g a b) :: r')
    | none => none
theorem fO_eq : ∀ (l : List (Nat × SV)), fO l = some l
  | [] => rfl
  | (t, s) :: r => by simp only [fO, fO_eq r]; cases s <;> rfl
end Go.Proofs.Bw
