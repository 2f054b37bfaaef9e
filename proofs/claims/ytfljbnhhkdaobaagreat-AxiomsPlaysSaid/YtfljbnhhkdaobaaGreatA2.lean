/-
  Conditions of a function's code, by a program: what slots hold is told by words of one's own (SV), and what an operation that only computes does is computed; it stops where something is to be shown.
-/
import Derived.Test.YtfljbnhhkdaobaaGreatA1
import Derived.OrdersIn
import Derived.TacticsIn
import Derived.RangeFuncNested
import Derived.RangeFuncBound
import Derived.RangeFuncCalls
import Derived.RangeFuncLeaves
namespace Go.Proofs.Bw
open Go Go.RowKit
/-! ### what a slot holds -/
inductive SV where
  | v (x : Value)
  | p (k off : Nat)
  | a (l : List SV)
  | t (l : List SV)
  | f (g : Nat) (first cap : List SV)
def adr : List Nat → Nat → Nat
  | [], _ => 0
  | g :: _, 0 => g
  | _ :: r, k + 1 => adr r k
mutual
def conc (ρ : List Nat) : SV → Value
  | .v x => x
  | .p k off => .pointer (some ⟨adr ρ k, off, none⟩)
  | .a l => .agg ⟨concs ρ l⟩
  | .t l => .tuple ⟨concs ρ l⟩
  | .f g fs cs => .func (.func g) ⟨concs ρ fs⟩ ⟨concs ρ cs⟩
def concs (ρ : List Nat) : List SV → List Value
  | [] => []
  | s :: r => conc ρ s :: concs ρ r
end
mutual
def wf (n : Nat) : SV → Bool
  | .v _ => true
  | .p k _ => Nat.blt k n
  | .a l => wfs n l
  | .t l => wfs n l
  | .f _ fs cs => wfs n fs && wfs n cs
def wfs (n : Nat) : List SV → Bool
  | [] => true
  | s :: r => wf n s && wfs n r
end
theorem adr_app {ρ : List Nat} (l : List Nat) : ∀ {k : Nat}, k < ρ.length → adr (ρ ++ l) k = adr ρ k := by
  induction ρ with
  | nil => intro k h; simp at h
  | cons g r ih =>
    intro k h
    cases k with
    | zero => rfl
    | succ k => exact ih (by simpa using h)
theorem adr_new (ρ : List Nat) (g : Nat) : adr (ρ ++ [g]) ρ.length = g := by
  induction ρ with
  | nil => rfl
  | cons _ r ih => exact ih
theorem conc_app {ρ : List Nat} (l : List Nat) : ∀ s : SV, wf ρ.length s = true → conc (ρ ++ l) s = conc ρ s := by
  refine SV.rec (motive_1 := fun s => wf ρ.length s = true → conc (ρ ++ l) s = conc ρ s) (motive_2 := fun r => wfs ρ.length r = true → concs (ρ ++ l) r = concs ρ r) ?_ ?_ ?_ ?_ ?_ ?_ ?_
  · intro x _; rfl
  · intro k off h
    simp only [wf, Nat.blt_eq] at h
    simp only [conc, adr_app l h]
  · intro r ih h; simp only [wf] at h; simp only [conc, ih h]
  · intro r ih h; simp only [wf] at h; simp only [conc, ih h]
  · intro g fs cs h1 h2 h; simp only [wf, Bool.and_eq_true] at h; simp only [conc, h1 h.1, h2 h.2]
  · intro _; rfl
  · intro s r h1 h2 h; simp only [wfs, Bool.and_eq_true] at h; simp only [concs, h1 h.1, h2 h.2]
theorem concs_app {ρ : List Nat} (l : List Nat) : ∀ r : List SV, wfs ρ.length r = true → concs (ρ ++ l) r = concs ρ r
  | [], _ => rfl
  | s :: r, h => by simp only [wfs, Bool.and_eq_true] at h; simp only [concs, conc_app l s h.1, concs_app l r h.2]
theorem wf_mono {n m : Nat} (hnm : n ≤ m) : ∀ s : SV, wf n s = true → wf m s = true := by
  refine SV.rec (motive_1 := fun s => wf n s = true → wf m s = true) (motive_2 := fun r => wfs n r = true → wfs m r = true) ?_ ?_ ?_ ?_ ?_ ?_ ?_
  · intro x _; rfl
  · intro k off h
    simp only [wf, Nat.blt_eq] at h ⊢; omega
  · intro r ih h; exact ih h
  · intro r ih h; exact ih h
  · intro g fs cs h1 h2 h; simp only [wf, Bool.and_eq_true] at h ⊢; exact ⟨h1 h.1, h2 h.2⟩
  · intro _; rfl
  · intro s r h1 h2 h; simp only [wfs, Bool.and_eq_true] at h ⊢; exact ⟨h1 h.1, h2 h.2⟩
theorem wfs_mono {n m : Nat} (hnm : n ≤ m) : ∀ r : List SV, wfs n r = true → wfs m r = true
  | [], _ => rfl
  | s :: r, h => by simp only [wfs, Bool.and_eq_true] at h ⊢; exact ⟨wf_mono hnm s h.1, wfs_mono hnm r h.2⟩
theorem concs_length (ρ : List Nat) (l : List SV) : (concs ρ l).length = l.length := by
  induction l with
  | nil => rfl
  | cons s r ih => simp [concs, ih]
theorem concs_get (ρ : List Nat) (l : List SV) (i : Nat) : (concs ρ l)[i]? = (l[i]?).map (conc ρ) := by
  induction l generalizing i with
  | nil => simp [concs]
  | cons s r ih => cases i with
    | zero => simp [concs]
    | succ i => simp [concs, ih]
theorem concs_append (ρ : List Nat) (l m : List SV) : concs ρ (l ++ m) = concs ρ l ++ concs ρ m := by
  induction l with
  | nil => rfl
  | cons s r ih => simp [concs, ih]
theorem concs_drop (ρ : List Nat) (l : List SV) (n : Nat) : concs ρ (l.drop n) = (concs ρ l).drop n := by
  induction l generalizing n with
  | nil => simp [concs]
  | cons s r ih => cases n with
    | zero => rfl
    | succ n => simp [concs, ih]
theorem concs_take (ρ : List Nat) (l : List SV) (n : Nat) : concs ρ (l.take n) = (concs ρ l).take n := by
  induction l generalizing n with
  | nil => simp [concs]
  | cons s r ih => cases n with
    | zero => rfl
    | succ n => simp [concs, ih]
theorem wfs_get {n : Nat} {l : List SV} (h : wfs n l = true) {i : Nat} {s : SV} (hs : l[i]? = some s) : wf n s = true := by
  induction l generalizing i with
  | nil => simp at hs
  | cons x r ih =>
    simp only [wfs, Bool.and_eq_true] at h
    cases i with
    | zero => simp at hs; subst hs; exact h.1
    | succ i => exact ih h.2 (by simpa using hs)
theorem wfs_drop {n : Nat} {l : List SV} (h : wfs n l = true) (k : Nat) : wfs n (l.drop k) = true := by
  induction l generalizing k with
  | nil => simpa using h
  | cons x r ih =>
    cases k with
    | zero => exact h
    | succ k => simp only [wfs, Bool.and_eq_true] at h; exact ih h.2 k
theorem wfs_take {n : Nat} {l : List SV} (h : wfs n l = true) (k : Nat) : wfs n (l.take k) = true := by
  induction l generalizing k with
  | nil => simp [wfs]
  | cons x r ih =>
    cases k with
    | zero => rfl
    | succ k => simp only [wfs, Bool.and_eq_true, List.take_succ_cons] at h ⊢; exact ⟨h.1, ih h.2 k⟩
theorem wfs_append {n : Nat} {l m : List SV} (h1 : wfs n l = true) (h2 : wfs n m = true) : wfs n (l ++ m) = true := by
  induction l with
  | nil => exact h2
  | cons x r ih => simp only [wfs, Bool.and_eq_true] at h1; simp only [List.cons_append, wfs, Bool.and_eq_true]; exact ⟨h1.1, ih h1.2⟩
/-! ### blocks of one's own, by numbers -/
abbrev Heap := List (Nat × List SV)
def hget : Heap → Nat → Option (List SV)
  | [], _ => none
  | (k, c) :: r, i => bif Nat.beq k i then some c else hget r i
def hset : Heap → Nat → List SV → Heap
  | [], _, _ => []
  | (k, c) :: r, i, d => bif Nat.beq k i then (k, d) :: r else (k, c) :: hset r i d
structure Holds (ρ : List Nat) (H : Heap) (w : World) : Prop where
  box : ∀ k cs, hget H k = some cs → Box w (adr ρ k) (concs ρ cs)
  ne : ∀ i j, i < ρ.length → j < ρ.length → i ≠ j → adr ρ i ≠ adr ρ j
  lt : ∀ i, i < ρ.length → adr ρ i < w.heap.size
  ok : ∀ k cs, hget H k = some cs → k < ρ.length ∧ wfs ρ.length cs = true
theorem beq_ne {a b : Nat} (h : a ≠ b) : Nat.beq a b = false := by
  cases hh : Nat.beq a b with
  | false => rfl
  | true => exact absurd (Nat.eq_of_beq_eq_true hh) h
theorem beq_self (a : Nat) : Nat.beq a a = true := by simp
theorem hget_set {H : Heap} {k : Nat} {d : List SV} {c : List SV} (hc : hget H k = some c) (i : Nat) : hget (hset H k d) i = if i = k then some d else hget H i := by
  induction H with
  | nil => cases hc
  | cons x r ih =>
    obtain ⟨q, e⟩ := x
    simp only [hget, hset] at hc ⊢
    by_cases hq : q = k
    · subst hq
      simp only [beq_self, cond_true, hget]
      by_cases hi : i = q
      · subst hi; simp
      · simp [beq_ne (fun h => hi h.symm), hi]
    · rw [beq_ne hq] at hc ⊢
      simp only [cond_false, hget] at hc ⊢
      by_cases hi : q = i
      · subst hi; simp [hq]
      · simp only [beq_ne hi, cond_false]; exact ih hc
theorem hget_app {H : Heap} {k : Nat} {c : List SV} (i : Nat) (hk : ∀ cs, hget H k ≠ some cs) : hget (H ++ [(k, c)]) i = if i = k then some c else hget H i := by
  induction H with
  | nil =>
    simp only [List.nil_append, hget]
    by_cases hi : k = i
    · subst hi; simp
    · simp only [beq_ne hi, cond_false]; rw [if_neg (fun h => hi h.symm)]
  | cons x r ih =>
    obtain ⟨q, e⟩ := x
    simp only [hget, List.cons_append] at hk ⊢
    by_cases hq : q = k
    · subst hq; simp at hk
    · rw [beq_ne hq] at hk
      by_cases hi : q = i
      · subst hi; simp [hq]
      · simp only [beq_ne hi, cond_false]; exact ih hk
section
variable {ρ : List Nat} {H : Heap} {w w' : World}
theorem Holds.nil (w : World) : Holds [] [] w := ⟨fun _ _ h => by simp [hget] at h, fun i j h => by simp at h, fun i h => by simp at h, fun _ _ h => by simp [hget] at h⟩
theorem Holds.ext (h : Holds ρ H w) (hx : Ext w w') : Holds ρ H w' :=
  ⟨fun k cs hk => (h.box k cs hk).ext hx, h.ne, fun i hi => Nat.lt_of_lt_of_le (h.lt i hi) hx.size, h.ok⟩
theorem Holds.upd (h : Holds ρ H w) {b : Nat} {c d : List SV} (hb : hget H b = some c) (hx : Upd (adr ρ b) w w') (hB : Box w' (adr ρ b) (concs ρ d)) (hd : wfs ρ.length d = true) : Holds ρ (hset H b d) w' := by
  obtain ⟨hbl, _⟩ := h.ok b c hb
  refine ⟨fun k cs hk => ?_, h.ne, fun i hi => Nat.lt_of_lt_of_le (h.lt i hi) hx.size, fun k cs hk => ?_⟩
  · rw [hget_set hb] at hk
    by_cases hkb : k = b
    · subst hkb; rw [if_pos rfl] at hk; cases hk; exact hB
    · rw [if_neg hkb] at hk
      exact (h.box k cs hk).upd hx (h.ne k b (h.ok k cs hk).1 hbl hkb)
  · rw [hget_set hb] at hk
    by_cases hkb : k = b
    · subst hkb; rw [if_pos rfl] at hk; cases hk; exact ⟨hbl, hd⟩
    · rw [if_neg hkb] at hk; exact h.ok k cs hk
theorem Holds.new (h : Holds ρ H w) {g : Nat} {c : List SV} (hg : g = w.heap.size) (hx : Ext w w') (hs : w'.heap.size = w.heap.size + 1) (hB : Box w' g (concs ρ c)) (hc : wfs ρ.length c = true) : Holds (ρ ++ [g]) (H ++ [(ρ.length, c)]) w' := by
  have hno : ∀ cs, hget H ρ.length ≠ some cs := fun cs hk => by have := (h.ok _ _ hk).1; omega
  refine ⟨fun k cs hk => ?_, fun i j hi hj hij => ?_, fun i hi => ?_, fun k cs hk => ?_⟩
  · rw [hget_app _ hno] at hk
    by_cases hkr : k = ρ.length
    · subst hkr
      rw [if_pos rfl] at hk; cases hk
      rw [adr_new, concs_app _ _ hc]; exact hB
    · rw [if_neg hkr] at hk
      obtain ⟨h1, h2⟩ := h.ok k cs hk
      rw [adr_app _ h1, concs_app _ _ h2]; exact (h.box k cs hk).ext hx
  · simp only [List.length_append, List.length_singleton] at hi hj
    by_cases hi' : i = ρ.length <;> by_cases hj' : j = ρ.length
    · omega
    · subst hi'
      have := h.lt j (by omega)
      rw [adr_new, adr_app _ (by omega)]; omega
    · subst hj'
      have := h.lt i (by omega)
      rw [adr_new, adr_app _ (by omega)]; omega
    · rw [adr_app _ (by omega), adr_app _ (by omega)]; exact h.ne i j (by omega) (by omega) hij
  · simp only [List.length_append, List.length_singleton] at hi
    by_cases hi' : i = ρ.length
    · subst hi'; rw [adr_new]; omega
    · have := h.lt i (by omega); rw [adr_app _ (by omega)]; omega
  · rw [hget_app _ hno] at hk
    simp only [List.length_append, List.length_singleton]
    by_cases hkr : k = ρ.length
    · subst hkr; rw [if_pos rfl] at hk; cases hk; exact ⟨by omega, wfs_mono (by omega) _ hc⟩
    · rw [if_neg hkr] at hk
      obtain ⟨h1, h2⟩ := h.ok k cs hk
      exact ⟨by omega, wfs_mono (by omega) _ h2⟩
def hsub : Heap → Heap → Prop
  | [], _ => True
  | (k, c) :: r, H => hget H k = some c ∧ hsub r H
theorem hsub.get {H H' : Heap} (h : hsub H' H) : ∀ k c, hget H' k = some c → hget H k = some c := by
  induction H' with
  | nil => intro k c hk; cases hk
  | cons x r ih =>
    obtain ⟨q, e⟩ := x
    intro k c hk
    simp only [hget] at hk
    by_cases hq : q = k
    · subst hq; rw [beq_self] at hk; cases hk; exact h.1
    · rw [beq_ne hq] at hk; exact ih h.2 k c hk
theorem Holds.sub {H' : Heap} (h : Holds ρ H w) (hs : hsub H' H) : Holds ρ H' w := ⟨fun k cs hk => h.box k cs (hs.get k cs hk), h.ne, h.lt, fun k cs hk => h.ok k cs (hs.get k cs hk)⟩
theorem Holds.back {l : List Nat} (h : Holds (ρ ++ l) H w) {H' : Heap} (hs : hsub H' H) (hw : ∀ k c, hget H' k = some c → k < ρ.length ∧ wfs ρ.length c = true) : Holds ρ H' w := by
  refine ⟨fun k cs hk => ?_, fun i j hi hj hij => ?_, fun i hi => ?_, hw⟩
  · have hb := h.box k cs (hs.get k cs hk)
    obtain ⟨h1, h2⟩ := hw k cs hk
    rwa [adr_app _ h1, concs_app _ _ h2] at hb
  · have := h.ne i j (by simp; omega) (by simp; omega) hij
    rwa [adr_app _ hi, adr_app _ hj] at this
  · have := h.lt i (by simp; omega)
    rwa [adr_app _ hi] at this
end
/-! ### types -/
structure FD where
  off : Nat
  size : Nat
  agg : Bool
inductive TK where
  | int (k : IntKind)
  | bool
  | str
  | slice (el sz : Nat)
  | arr (len el sz : Nat) (agg : Bool)
  | struct (fs : List FD)
  | ptr
  | other
structure TD where
  agg : Bool
  size : Nat
  zero : List Value
  k : TK
abbrev Tab := List (Nat × TD)
def tget : Tab → Nat → Option TD
  | [], _ => none
  | (k, d) :: r, i => bif Nat.beq k i then some d else tget r i
def FDOk (P : Program) : List Field → List FD → Prop
  | [], [] => True
  | f :: fs, d :: r => f.offset = d.off ∧ SizeIs P f.type d.size ∧ AggIs P f.type d.agg ∧ FDOk P fs r
  | _, _ => False
def TKOk (P : Program) (t : Nat) : TK → Prop
  | .int k => P.underlying t = some (.int k)
  | .bool => P.underlying t = some .bool
  | .str => P.underlying t = some .string
  | .slice el sz => P.underlying t = some (.slice el) ∧ SizeIs P el sz
  | .arr len el sz ag => P.underlying t = some (.array len el) ∧ SizeIs P el sz ∧ AggIs P el ag
  | .struct l => ∃ fs, P.underlying t = some (.struct fs) ∧ FDOk P fs.toList l
  | .ptr => ∃ el, P.underlying t = some (.pointer el)
  | .other => True
structure TDOk (P : Program) (t : Nat) (d : TD) : Prop where
  agg : AggIs P t d.agg
  size : SizeIs P t d.size
  zero : ∃ z, ZeroIs P t z ∧ z.cells.toList = d.zero
  k : TKOk P t d.k
def TabOk (P : Program) : Tab → Prop
  | [] => True
  | (t, d) :: r => TDOk P t d ∧ TabOk P r
theorem TabOk.get {P : Program} {tab : Tab} (h : TabOk P tab) {t : Nat} {d : TD} (hd : tget tab t = some d) : TDOk P t d := by
  induction tab with
  | nil => cases hd
  | cons x r ih =>
    obtain ⟨q, e⟩ := x
    simp only [tget] at hd
    by_cases hq : q = t
    · subst hq; rw [beq_self] at hd; cases hd; exact h.1
    · rw [beq_ne hq] at hd; exact ih h.2 hd
theorem FDOk.get {P : Program} : ∀ {fs : List Field} {l : List FD}, FDOk P fs l → ∀ {i : Nat} {d : FD}, l[i]? = some d → ∃ fd, fs[i]? = some fd ∧ fd.offset = d.off ∧ SizeIs P fd.type d.size ∧ AggIs P fd.type d.agg
  | [], [], _, i, d, h => by simp at h
  | f :: fs, x :: r, h, 0, d, hd => by
    simp at hd; subst hd; exact ⟨f, rfl, h.1, h.2.1, h.2.2.1⟩
  | f :: fs, x :: r, h, i + 1, d, hd => FDOk.get h.2.2.2 (i := i) (by simpa using hd)
  | [], _ :: _, h, _, _, _ => h.elim
  | _ :: _, [], h, _, _, _ => h.elim
theorem FDOk.places {P : Program} (w : World) : ∀ {fs : List Field} {l : List FD}, FDOk P fs l → (fs.mapM (fun f : Field => (do pure (f.offset, ← sizeOf f.type) : Sem (Nat × Nat)))).run P w = .ok (l.map fun d => (d.off, d.size)) w
  | [], [], _ => by simp
  | f :: fs, x :: r, h => by
    have ih := FDOk.places w h.2.2.2
    simp only [List.mapM_cons, Sem.run_bind, Sem.run_pure, h.2.1 w, Result.andThen_ok, ih, h.1, List.map_cons]
  | [], _ :: _, h => h.elim
  | _ :: _, [], h => h.elim
def FnsOk (P : Program) : List Nat → Prop
  | [] => True
  | f :: r => EntersAt P f ∧ FnsOk P r
def nmem : List Nat → Nat → Bool
  | [], _ => false
  | f :: r, g => bif Nat.beq f g then true else nmem r g
theorem FnsOk.get {P : Program} {l : List Nat} (h : FnsOk P l) {g : Nat} (hg : nmem l g = true) : EntersAt P g := by
  induction l with
  | nil => cases hg
  | cons f r ih =>
    simp only [nmem] at hg
    by_cases hf : f = g
    · subst hf; exact h.1
    · rw [beq_ne hf] at hg; exact ih h.2 hg
structure Cx where
  P : Program
  tab : Tab
  fns : List Nat
structure Cx.Ok (C : Cx) : Prop where
  tab : TabOk C.P C.tab
  fns : FnsOk C.P C.fns
  mixed : C.P.follows .mixedOrders = true
/-! ### what is computed is laid out -/
def fS (s : SV) (k : SV → Prop) : Prop :=
  match s with
  | .v x => k (.v x)
  | .p a b => k (.p a b)
  | .a l => k (.a l)
  | .t l => k (.t l)
  | .f g a b => k (.f g a b)
theorem fS_eq (s : SV) (k : SV → Prop) : fS s k = k s := by cases s <;> rfl
def fSL : List SV → (List SV → Prop) → Prop
  | [], k => k []
  | s :: r, k => fSL r fun r' => fS s fun s' => k (s' :: r')
theorem fSL_eq : ∀ (l : List SV) (k : List SV → Prop), fSL l k = k l
  | [], _ => rfl
  | s :: r, k => by simp only [fSL, fSL_eq r, fS_eq]
def fH : Heap → (Heap → Prop) → Prop
  | [], k => k []
  | (i, c) :: r, k => fH r fun r' => fSL c fun c' => k ((i, c') :: r')
theorem fH_eq : ∀ (l : Heap) (k : Heap → Prop), fH l k = k l
  | [], _ => rfl
  | (i, c) :: r, k => by simp only [fH, fH_eq r, fSL_eq]
def fR : List Nat → (List Nat → Prop) → Prop
  | [], k => k []
  | g :: r, k => fR r fun r' => k (g :: r')
theorem fR_eq : ∀ (l : List Nat) (k : List Nat → Prop), fR l k = k l
  | [], _ => rfl
  | g :: r, k => by simp only [fR, fR_eq r]
def fE : List (Nat × SV) → (List (Nat × SV) → Prop) → Prop
  | [], k => k []
  | (t, s) :: r, k => fE r fun r' => fS s fun s' => k ((t, s') :: r')
theorem fE_eq : ∀ (l : List (Nat × SV)) (k : List (Nat × SV) → Prop), fE l k = k l
  | [], _ => rfl
  | (t, s) :: r, k => by simp only [fE, fE_eq r, fS_eq]
def fO : List (Nat × SV) → Option (List (Nat × SV))
  | [] => some []
  | (t, s) :: r => match fO r with
    | some r' => match s with
      | .v x => some ((t, .v x) :: r')
      | .p a b => some ((t, .p a b) :: r')
      | .a l => some ((t, .a l) :: r')
      | .t l => some ((t, .t l) :: r')
      | .f g a b => some ((t, .f g a b) :: r')
    | none => none
theorem fO_eq : ∀ (l : List (Nat × SV)), fO l = some l
  | [] => rfl
  | (t, s) :: r => by simp only [fO, fO_eq r]; cases s <;> rfl
end Go.Proofs.Bw

/-
  What an operation that only computes yields, by a program, and that it does so.
-/
namespace Go.Proofs.Bw
open Go Go.RowKit
def sel (b x y : Bool) : Bool := (b && x) || (!b && y)
inductive PR where
  | ok (s : SV)
  | side (p : Prop) (s : SV)
  | no
def ikEq : IntKind → IntKind → Bool
  | .i8, .i8 | .i16, .i16 | .i32, .i32 | .i64, .i64 | .u8, .u8 | .u16, .u16 | .u32, .u32 | .u64, .u64 => true
  | _, _ => false
theorem ikEq_eq {a b : IntKind} (h : ikEq a b = true) : a = b := by cases a <;> cases b <;> first | rfl | cases h
def inKind : IntKind → Int → Prop
  | .i8, n => -128 ≤ n ∧ n ≤ 127
  | .i16, n => -32768 ≤ n ∧ n ≤ 32767
  | .i32, n => -2147483648 ≤ n ∧ n ≤ 2147483647
  | .i64, n => -9223372036854775808 ≤ n ∧ n ≤ 9223372036854775807
  | .u8, n => 0 ≤ n ∧ n ≤ 255
  | .u16, n => 0 ≤ n ∧ n ≤ 65535
  | .u32, n => 0 ≤ n ∧ n ≤ 4294967295
  | .u64, n => 0 ≤ n ∧ n ≤ 18446744073709551615
theorem wrap_in {k : IntKind} {n : Int} (h : inKind k n) : k.wrap n = n := by
  cases k <;> simp only [inKind] at h <;> simp [IntKind.wrap, IntKind.bits, IntKind.signed] <;> omega
def arith (k : IntKind) (n : Int) : PR := .side (inKind k n) (.v (.int k n))
def pint (b : BinOp) (k : IntKind) (x y : Int) : PR :=
  match b with
  | .add => arith k (x + y)
  | .sub => arith k (x - y)
  | .mul => arith k (x * y)
  | .lss => .ok (.v (.bool (decide (x < y))))
  | .leq => .ok (.v (.bool (decide (x ≤ y))))
  | .gtr => .ok (.v (.bool (decide (y < x))))
  | .geq => .ok (.v (.bool (decide (y ≤ x))))
  | .eql => .ok (.v (.bool (decide (x = y))))
  | .neq => .ok (.v (.bool (!decide (x = y))))
  | .quo => .side (0 ≤ x ∧ 0 < y ∧ inKind k (x / y)) (.v (.int k (x / y)))
  | .rem => .side (0 ≤ x ∧ 0 < y) (.v (.int k (x % y)))
  | .and => .ok (.v (.int k (bits .and k x y)))
  | .or => .ok (.v (.int k (bits .or k x y)))
  | .xor => .ok (.v (.int k (bits .xor k x y)))
  | .andNot => .ok (.v (.int k (bits .andNot k x y)))
  | _ => .no
def pshift (b : BinOp) (k : IntKind) (x y : Int) : PR :=
  match b with
  | .shl => .side (0 ≤ y) (.v (.int k (k.wrap (x * 2 ^ min y.toNat k.bits))))
  | .shr => .side (0 ≤ y) (.v (.int k (x.fdiv (2 ^ min y.toNat k.bits))))
  | _ => .no
def isShift : BinOp → Bool
  | .shl => true
  | .shr => true
  | _ => false
def pbool (b : BinOp) (x y : Bool) : PR :=
  match b with
  | .eql => .ok (.v (.bool (x == y)))
  | .neq => .ok (.v (.bool (!(x == y))))
  | _ => .no
def pstr (b : BinOp) (x y : ByteArray) : PR :=
  match b with
  | .eql => .ok (.v (.bool (decide (x = y))))
  | .neq => .ok (.v (.bool (!decide (x = y))))
  | .lss => .ok (.v (.bool (Op.bytesLess x.toList y.toList)))
  | .gtr => .ok (.v (.bool (!(Op.bytesLess x.toList y.toList || decide (x = y)))))
  | .leq => .ok (.v (.bool (Op.bytesLess x.toList y.toList || decide (x = y))))
  | .geq => .ok (.v (.bool (!Op.bytesLess x.toList y.toList)))
  | .add => .side ((x.size : Int) + y.size ≤ 9223372036854775807) (.v (.string (x ++ y)))
  | _ => .no
def pnil (b : BinOp) (isNil : Bool) : PR :=
  match b with
  | .eql => .ok (.v (.bool isNil))
  | .neq => .ok (.v (.bool (!isNil)))
  | _ => .no
def isTK : Option TD → Nat
  | some ⟨_, _, _, .bool⟩ => 1
  | some ⟨_, _, _, .ptr⟩ => 2
  | some ⟨_, _, _, .slice _ _⟩ => 3
  | _ => 0
def pbin (tab : Tab) (b : BinOp) (xt : Nat) (x y : SV) : PR :=
  match x, y with
  | .v (.int k a), .v (.int k' c) => bif isShift b then pshift b k a c else bif ikEq k k' then pint b k a c else .no
  | .v (.bool a), .v (.bool c) => bif Nat.beq (isTK (tget tab xt)) 1 then pbool b a c else .no
  | .v (.string a), .v (.string c) => pstr b a c
  | .p _ _, .v (.pointer none) => bif Nat.beq (isTK (tget tab xt)) 2 then pnil b false else .no
  | .v (.pointer a), .v (.pointer none) => bif Nat.beq (isTK (tget tab xt)) 2 then pnil b a.isNone else .no
  | .v (.slice a _ _), .v (.slice none _ _) => bif Nat.beq (isTK (tget tab xt)) 3 then pnil b a.isNone else .no
  | _, _ => .no
def ofO : Option SV → PR
  | some (.v x) => .ok (.v x)
  | some (.p a b) => .ok (.p a b)
  | some (.a l) => .ok (.a l)
  | some (.t l) => .ok (.t l)
  | some (.f g a b) => .ok (.f g a b)
  | none => .no
def aggL : SV → Option (List SV)
  | .a l => some l
  | .v (.agg ⟨l⟩) => some (l.map .v)
  | _ => none
def tupL : SV → Option (List SV)
  | .t l => some l
  | .v (.tuple ⟨l⟩) => some (l.map .v)
  | _ => none
def evL (ev : Operand → Option SV) : List Operand → Option (List SV)
  | [] => some []
  | x :: r => match ev x with
    | some s => match evL ev r with
      | some l => some (s :: l)
      | none => none
    | none => none
def pfield (fs : List FD) (i : Nat) (l : List SV) : PR :=
  match fs[i]? with
  | some ⟨off, sz, ag⟩ => match ag with
    | true => .ok (.a ((l.drop off).take sz))
    | false => ofO l[off]?
  | none => .no
def laid : List SV → Option (List SV)
  | [] => some []
  | s :: r => match laid r with
    | some r' => match s with
      | .v x => some (.v x :: r')
      | .p a b => some (.p a b :: r')
      | .a l => some (.a l :: r')
      | .t l => some (.t l :: r')
      | .f g a b => some (.f g a b :: r')
    | none => none
theorem laid_eq : ∀ l : List SV, laid l = some l
  | [] => rfl
  | s :: r => by simp only [laid, laid_eq r]; cases s <;> rfl
def pload (d : TD) (off : Nat) (l : List SV) : PR :=
  match d.agg with
  | true => bif Nat.ble (off + d.size) l.length then (match laid ((l.drop off).take d.size) with | some c => .ok (.a c) | none => .no) else .no
  | false => ofO l[off]?
def plen (tab : Tab) (t : Nat) (x : SV) : PR :=
  match x, tget tab t with
  | .v (.slice _ n _), some ⟨_, _, _, .slice _ _⟩ => .ok (.v (.int .i64 n))
  | .v (.string s), some ⟨_, _, _, .str⟩ => .ok (.v (.int .i64 s.size))
  | _, _ => .no
def pmm (b : Builtin) (x y : SV) : PR :=
  match x, y with
  | .v (.int k a), .v (.int k' c) => bif ikEq k k' then (match b with
    | .min => .ok (.v (.int k (if c < a then c else a)))
    | .max => .ok (.v (.int k (if c > a then c else a)))
    | _ => .no) else .no
  | _, _ => .no
def pindex (d : TD) (x y : SV) : PR :=
  match y with
  | .v (.int _ i) => match d.k, x with
    | .str, .v (.string s) => .side (0 ≤ i ∧ i < s.size) (.v (.int .u8 (s[i.toNat]!.toNat)))
    | _, _ => .no
  | _ => .no
def kindOfT : Option TD → Option IntKind
  | some ⟨_, _, _, .int k⟩ => some k
  | _ => none
def cellsS : SV → Option (List SV)
  | .a l => some l
  | .v (.agg ⟨l⟩) => some (l.map .v)
  | .v (.tuple _) => none
  | .t _ => none
  | s => some [s]
def pfill (fs : List FD) : List SV → List (Nat × SV) → Option (List SV)
  | cs, [] => some cs
  | cs, (i, s) :: r => match fs[i]?, cellsS s with
    | some ⟨off, sz, _⟩, some us => bif Nat.beq us.length sz && Nat.ble (off + sz) cs.length then (match laid (cs.take off ++ us ++ cs.drop (off + sz)) with | some c => pfill fs c r | none => none) else none
    | _, _ => none
def evParts (ev : Operand → Option SV) : List (Nat × Operand) → Option (List (Nat × SV))
  | [] => some []
  | (i, x) :: r => match ev x, evParts ev r with
    | some s, some l => some ((i, s) :: l)
    | _, _ => none
def pbuild (d : TD) (ps : List (Nat × SV)) : PR :=
  match d.k with
  | .struct fs => match laid (d.zero.map .v) with
    | some z => match pfill fs z ps with
      | some cs => .ok (.a cs)
      | none => .no
    | none => .no
  | _ => .no
def pev (C : Cx) (ev evT evF : Operand → Option SV) (H : Heap) (o : Op) : PR :=
  match o with
  | .move x => ofO (ev x)
  | .assign x => ofO (ev x)
  | .pick c a b => match ev c, evT a, evF b with
    | some (.v (.bool q)), some (.v (.bool x)), some (.v (.bool y)) => .ok (.v (.bool (sel q x y)))
    | _, _, _ => .no
  | .binOp b xt x y _ => match ev x, ev y with
    | some x, some y => pbin C.tab b xt x y
    | _, _ => .no
  | .unOp .not _ x => match ev x with
    | some (.v (.bool q)) => .ok (.v (.bool (!q)))
    | _ => .no
  | .extract x i => match ev x with
    | some x => match tupL x with
      | some l => ofO l[i]?
      | none => .no
    | none => .no
  | .nilCheck x => match ev x with
    | some (.p k off) => .ok (.p k off)
    | some (.v (.pointer (some a))) => .ok (.v (.pointer (some a)))
    | some (.f g a b) => .ok (.f g a b)
    | _ => .no
  | .fieldAddr s x i => match ev x, tget C.tab s with
    | some (.p k off), some ⟨_, _, _, .struct fs⟩ => match fs[i]? with
      | some ⟨fo, fz, _⟩ => bif Nat.blt 0 fz then .ok (.p k (off + fo)) else .no
      | none => .no
    | some (.v (.pointer (some a))), some ⟨_, _, _, .struct fs⟩ => match fs[i]? with
      | some ⟨fo, fz, _⟩ => bif Nat.blt 0 fz then .ok (.v (.pointer (some (a.add fo)))) else .no
      | none => .no
    | _, _ => .no
  | .field s x i => match ev x, tget C.tab s with
    | some x, some ⟨_, _, _, .struct fs⟩ => match aggL x with
      | some l => pfield fs i l
      | none => .no
    | _, _ => .no
  | .load t x => match ev x, tget C.tab t with
    | some (.p k off), some d => match hget H k with
      | some l => pload d off l
      | none => .no
    | _, _ => .no
  | .makeFunc (.func g) fs cs => match evL ev fs.toList, evL ev cs.toList with
    | some a, some b => .ok (.f g a b)
    | _, _ => .no
  | .index t x y => match ev x, ev y, tget C.tab t with
    | some x, some y, some d => pindex d x y
    | _, _, _ => .no
  | .convert s u x => match ev x, kindOfT (tget C.tab s), kindOfT (tget C.tab u) with
    | some (.v (.int _ a)), some s, some k => bif Nat.blt k.bits s.bits then .ok (.v (.int k (k.wrap a))) else .side (inKind k a) (.v (.int k a))
    | _, _, _ => .no
  | .build bt ps => match tget C.tab bt, evParts ev ps.toList with
    | some d, some l => pbuild d l
    | _, _ => .no
  | .call ⟨.builtin b, args, ats⟩ => match b with
    | .len => match args.toList, ats.toList with
      | [x], [t] => match ev x with
        | some x => plen C.tab t x
        | none => .no
      | _, _ => .no
    | .min | .max => match args.toList with
      | [x, y] => match ev x, ev y with
        | some x, some y => pmm b x y
        | _, _ => .no
      | _ => .no
    | _ => .no
  | _ => .no
def Does (P : Program) (a : Operand → Value) (w : World) (o : Oper) (v : Value) : Prop := (execOp a o).run P w = .ok (.value v) w
section
variable {C : Cx} {ρ : List Nat} {H : Heap} {w : World} {a : Operand → Value} {ev evT evF : Operand → Option SV} {o : Oper}
def Tells (ρ : List Nat) (ev : Operand → Option SV) (a : Operand → Value) : Prop := ∀ x s, ev x = some s → wf ρ.length s = true ∧ a x = conc ρ s
theorem aggL_spec {x : SV} {l : List SV} (h : aggL x = some l) (hw : wf ρ.length x = true) : conc ρ x = .agg ⟨concs ρ l⟩ ∧ wfs ρ.length l = true := by
  cases x with
  | a l' => simp only [aggL, Option.some.injEq] at h; subst h; exact ⟨rfl, hw⟩
  | v y =>
    cases y with
    | agg cs =>
      obtain ⟨l'⟩ := cs
      simp only [aggL, Option.some.injEq] at h
      subst h
      have e : ∀ l' : List Value, concs ρ (l'.map .v) = l' ∧ wfs ρ.length (l'.map .v) = true := by
        intro l'
        induction l' with
        | nil => exact ⟨rfl, rfl⟩
        | cons y r ih => exact ⟨by simp only [List.map_cons, concs, conc, ih.1], by simp only [List.map_cons, wfs, wf, ih.2]; rfl⟩
      exact ⟨by simp only [conc, (e l').1], (e l').2⟩
    | _ => cases h
  | _ => cases h
theorem tupL_spec {x : SV} {l : List SV} (h : tupL x = some l) (hw : wf ρ.length x = true) : conc ρ x = .tuple ⟨concs ρ l⟩ ∧ wfs ρ.length l = true := by
  cases x with
  | t l' => simp only [tupL, Option.some.injEq] at h; subst h; exact ⟨rfl, hw⟩
  | v y =>
    cases y with
    | tuple cs =>
      obtain ⟨l'⟩ := cs
      simp only [tupL, Option.some.injEq] at h
      subst h
      have e : ∀ l' : List Value, concs ρ (l'.map .v) = l' ∧ wfs ρ.length (l'.map .v) = true := by
        intro l'
        induction l' with
        | nil => exact ⟨rfl, rfl⟩
        | cons y r ih => exact ⟨by simp only [List.map_cons, concs, conc, ih.1], by simp only [List.map_cons, wfs, wf, ih.2]; rfl⟩
      exact ⟨by simp only [conc, (e l').1], (e l').2⟩
    | _ => cases h
  | _ => cases h
theorem evL_spec (ht : Tells ρ ev a) : ∀ {xs : List Operand} {l : List SV}, evL ev xs = some l → xs.map a = concs ρ l ∧ wfs ρ.length l = true := by
  intro xs
  induction xs with
  | nil => intro l h; simp only [evL, Option.some.injEq] at h; subst h; exact ⟨rfl, rfl⟩
  | cons x r ih =>
    intro l h
    simp only [evL] at h
    cases hx : ev x with
    | none => rw [hx] at h; cases h
    | some s =>
      cases hr : evL ev r with
      | none => rw [hx, hr] at h; cases h
      | some m =>
        simp only [hx, hr, Option.some.injEq] at h
        subst h
        obtain ⟨h1, h2⟩ := ht x s hx
        obtain ⟨h3, h4⟩ := ih hr
        exact ⟨by simp only [List.map_cons, concs, h2, h3], by simp only [wfs, h1, h4]; rfl⟩
def PR.Good (P : Program) (ρ : List Nat) (a : Operand → Value) (w : World) (o : Oper) : PR → Prop
  | .ok s => wf ρ.length s = true ∧ Does P a w o (conc ρ s)
  | .side p s => wf ρ.length s = true ∧ (p → Does P a w o (conc ρ s))
  | .no => True
theorem ofO_good {s : Option SV} (h : ∀ x, s = some x → wf ρ.length x = true ∧ Does C.P a w o (conc ρ x)) : (ofO s).Good C.P ρ a w o := by
  cases s with
  | none => trivial
  | some x => cases x <;> exact h _ rfl
theorem toList_eq_iff (x y : ByteArray) : (x.toList == y.toList) = decide (x = y) := by
  rw [Bool.eq_iff_iff, beq_iff_eq, decide_eq_true_eq]
  constructor
  · intro h
    rw [ByteArray.toList_eq, ByteArray.toList_eq] at h
    cases x; cases y
    congr 1
    exact Array.toList_inj.1 h
  · intro h; rw [h]
theorem pint_good {b : BinOp} {xt yt : Nat} {x y : Operand} {k : IntKind} {p q : Int} {d t pos af g} (hx : a x = .int k p) (hy : a y = .int k q) : (pint b k p q).Good C.P ρ a w ⟨d, .binOp b xt x y yt, t, pos, af, g⟩ := by
  cases b <;> simp only [pint, PR.Good, arith] <;> first | trivial | skip
  · exact ⟨rfl, fun h => by simp [Does, execOp, hx, hy, go_sem, conc, wrap_in h]⟩
  · exact ⟨rfl, fun h => by simp [Does, execOp, hx, hy, go_sem, conc, wrap_in h]⟩
  · exact ⟨rfl, fun h => by simp [Does, execOp, hx, hy, go_sem, conc, wrap_in h]⟩
  · refine ⟨rfl, fun h => ?_⟩
    have h1 : ¬ q = 0 := by omega
    have h2 : p.tdiv q = p / q := Int.tdiv_eq_ediv_of_nonneg h.1
    simp [Does, execOp, hx, hy, go_sem, conc, Op.intDiv, h1, h2, wrap_in h.2.2]
  · refine ⟨rfl, fun h => ?_⟩
    have h1 : ¬ q = 0 := by omega
    have h2 : p.tmod q = p % q := Int.tmod_eq_emod_of_nonneg h.1
    simp [Does, execOp, hx, hy, go_sem, conc, Op.intDiv, h1, h2]
  all_goals exact ⟨rfl, by simp [Does, execOp, hx, hy, go_sem, conc]; try rfl⟩
theorem pshift_good {b : BinOp} {xt yt : Nat} {x y : Operand} {k k' : IntKind} {p q : Int} {d t pos af g} (hx : a x = .int k p) (hy : a y = .int k' q) : (pshift b k p q).Good C.P ρ a w ⟨d, .binOp b xt x y yt, t, pos, af, g⟩ := by
  cases b <;> simp only [pshift, PR.Good] <;> first | trivial | skip
  · refine ⟨rfl, fun h => ?_⟩
    have h1 : ¬ q < 0 := by omega
    simp [Does, execOp, hx, hy, eqGuard, binOp, Op.shift, h1, conc]
  · refine ⟨rfl, fun h => ?_⟩
    have h1 : ¬ q < 0 := by omega
    simp [Does, execOp, hx, hy, eqGuard, binOp, Op.shift, h1, conc]
theorem pbool_good {b : BinOp} {xt yt : Nat} {x y : Operand} {p q : Bool} {d t pos af g} (hu : C.P.underlying xt = some .bool) (hx : a x = .bool p) (hy : a y = .bool q) : (pbool b p q).Good C.P ρ a w ⟨d, .binOp b xt x y yt, t, pos, af, g⟩ := by
  cases b <;> simp only [pbool, PR.Good] <;> first | trivial | exact ⟨rfl, by simp [Does, execOp, hx, hy, go_sem, conc, hu]⟩
theorem pstr_good {b : BinOp} {xt yt : Nat} {x y : Operand} {p q : ByteArray} {d t pos af g} (hx : a x = .string p) (hy : a y = .string q) : (pstr b p q).Good C.P ρ a w ⟨d, .binOp b xt x y yt, t, pos, af, g⟩ := by
  cases b <;> simp only [pstr, PR.Good] <;> first | trivial | exact ⟨rfl, by simp [Does, execOp, hx, hy, go_sem, conc, binOp, Op.stringOp, ← toList_eq_iff]⟩
theorem pnil_good {b : BinOp} {xt yt el : Nat} {x y : Operand} {p : Option Addr} {d t pos af g} (hu : C.P.underlying xt = some (.pointer el)) (hx : a x = .pointer p) (hy : a y = .pointer none) : (pnil b p.isNone).Good C.P ρ a w ⟨d, .binOp b xt x y yt, t, pos, af, g⟩ := by
  have hp : C.P.underlying xt = some (.pointer (C.P.pointee xt)) := by rw [hu]; simp [Program.pointee, hu]
  cases b <;> simp only [pnil, PR.Good] <;> first | trivial | exact ⟨rfl, by simp [Does, execOp, hx, hy, conc, run_eql_pointer_nil _ _ _ hp, run_neq_pointer_nil _ _ _ hp, go_sem]⟩
theorem run_equalIn_slice_nil {P : Program} (w : World) (d : Nat) (t el : TypeId) (p : Option Addr) (m c m' c' : Nat) (h : P.underlying t = some (.slice el)) : (Op.equalIn (d + 1) t (.slice p m c) (.slice none m' c')).run P w = .ok p.isNone w := by
  cases p <;> simp [Op.equalIn, run_underlying h]
theorem run_equal_slice_nil {P : Program} (w : World) (t el : TypeId) (p : Option Addr) (m c m' c' : Nat) (h : P.underlying t = some (.slice el)) : (Op.equal t (.slice p m c) (.slice none m' c')).run P w = .ok p.isNone w := run_equalIn_slice_nil w 9999 t el p m c m' c' h
theorem run_eql_slice_nil {P : Program} (w : World) (t el : TypeId) (p : Option Addr) (m c m' c' : Nat) (h : P.underlying t = some (.slice el)) : (binOp .eql t (.slice p m c) (.slice none m' c')).run P w = .ok (.bool p.isNone) w := by
  simp only [binOp]
  simp [run_equal_slice_nil w t el p m c m' c' h]
theorem run_neq_slice_nil {P : Program} (w : World) (t el : TypeId) (p : Option Addr) (m c m' c' : Nat) (h : P.underlying t = some (.slice el)) : (binOp .neq t (.slice p m c) (.slice none m' c')).run P w = .ok (.bool (!p.isNone)) w := by
  simp only [binOp]
  simp [run_equal_slice_nil w t el p m c m' c' h]
theorem pnilS_good {b : BinOp} {xt yt el : Nat} {x y : Operand} {p : Option Addr} {m c m' c' : Nat} {d t pos af g} (hu : C.P.underlying xt = some (.slice el)) (hx : a x = .slice p m c) (hy : a y = .slice none m' c') : (pnil b p.isNone).Good C.P ρ a w ⟨d, .binOp b xt x y yt, t, pos, af, g⟩ := by
  cases b <;> simp only [pnil, PR.Good] <;> first | trivial | exact ⟨rfl, by simp [Does, execOp, hx, hy, conc, eqGuard, run_eql_slice_nil w xt el p m c m' c' hu, run_neq_slice_nil w xt el p m c m' c' hu]⟩
theorem pbin_good {b : BinOp} {xt yt : Nat} {x y : Operand} {sx sy : SV} {d t pos af g} (hC : C.Ok) (hx : a x = conc ρ sx) (hy : a y = conc ρ sy) : (pbin C.tab b xt sx sy).Good C.P ρ a w ⟨d, .binOp b xt x y yt, t, pos, af, g⟩ := by
  have tk1 : Nat.beq (isTK (tget C.tab xt)) 1 = true → C.P.underlying xt = some .bool := by
    intro h
    cases hd : tget C.tab xt with
    | none => rw [hd] at h; cases h
    | some td =>
      have hk := (hC.tab.get hd).k
      obtain ⟨_, _, _, k⟩ := td
      rw [hd] at h
      cases k <;> first | exact hk | cases h
  have tk2 : Nat.beq (isTK (tget C.tab xt)) 2 = true → ∃ el, C.P.underlying xt = some (.pointer el) := by
    intro h
    cases hd : tget C.tab xt with
    | none => rw [hd] at h; cases h
    | some td =>
      have hk := (hC.tab.get hd).k
      obtain ⟨_, _, _, k⟩ := td
      rw [hd] at h
      cases k <;> first | exact hk | cases h
  have tk3 : Nat.beq (isTK (tget C.tab xt)) 3 = true → ∃ el, C.P.underlying xt = some (.slice el) := by
    intro h
    cases hd : tget C.tab xt with
    | none => rw [hd] at h; cases h
    | some td =>
      have hk := (hC.tab.get hd).k
      obtain ⟨_, _, _, k⟩ := td
      rw [hd] at h
      cases k <;> first | exact ⟨_, hk.1⟩ | cases h
  unfold pbin
  split
  · rename_i k p k' q
    cases hsh : isShift b with
    | true => exact pshift_good hx hy
    | false =>
      cases hk : ikEq k k' with
      | false => trivial
      | true => have := ikEq_eq hk; subst this; exact pint_good hx hy
  · cases hk : Nat.beq (isTK (tget C.tab xt)) 1 with
    | false => trivial
    | true => exact pbool_good (tk1 hk) hx hy
  · exact pstr_good hx hy
  · cases hk : Nat.beq (isTK (tget C.tab xt)) 2 with
    | false => trivial
    | true => obtain ⟨el, he⟩ := tk2 hk; exact pnil_good he hx hy
  · cases hk : Nat.beq (isTK (tget C.tab xt)) 2 with
    | false => trivial
    | true => obtain ⟨el, he⟩ := tk2 hk; exact pnil_good he hx hy
  · cases hk : Nat.beq (isTK (tget C.tab xt)) 3 with
    | false => trivial
    | true => obtain ⟨el, he⟩ := tk3 hk; exact pnilS_good he hx hy
  · trivial
theorem plen_good {x : Operand} {sx : SV} {st : Nat} {d t pos af g} (hC : C.Ok) (hx : a x = conc ρ sx) : (plen C.tab st sx).Good C.P ρ a w ⟨d, .call ⟨.builtin .len, #[x], #[st]⟩, t, pos, af, g⟩ := by
  unfold plen
  split
  · rename_i hd
    have hk : C.P.underlying st = some (.slice _) ∧ _ := (hC.tab.get hd).k
    exact ⟨rfl, by simp [Does, execOp, resolve, invoke, builtin, Builtin.len_, hx, run_underlying hk.1, goInt, conc]⟩
  · rename_i hd
    have hk : C.P.underlying st = some .string := (hC.tab.get hd).k
    exact ⟨rfl, by simp [Does, execOp, resolve, invoke, builtin, Builtin.len_, hx, run_underlying hk, goInt, conc]⟩
  · trivial
theorem pmm_good {b : Builtin} {x y : Operand} {sx sy : SV} {ats : Array TypeId} {d t pos af g} (hx : a x = conc ρ sx) (hy : a y = conc ρ sy) : (pmm b sx sy).Good C.P ρ a w ⟨d, .call ⟨.builtin b, #[x, y], ats⟩, t, pos, af, g⟩ := by
  unfold pmm
  split
  · rename_i k p k' q
    cases hk : ikEq k k' with
    | false => trivial
    | true =>
      have := ikEq_eq hk; subst this
      simp only [conc] at hx hy
      cases b <;> simp only [cond_true] <;> first | trivial | skip
      · exact ⟨rfl, by simp [Does, execOp, resolve, invoke, builtin, Builtin.max_, Builtin.max2, hx, hy, conc]⟩
      · exact ⟨rfl, by simp [Does, execOp, resolve, invoke, builtin, Builtin.min_, Builtin.min2, hx, hy, conc]⟩
  · trivial
theorem pindex_good {x y : Operand} {sx sy : SV} {st : Nat} {td : TD} {d t pos af g} (hC : C.Ok) (hd : tget C.tab st = some td) (hx : a x = conc ρ sx) (hy : a y = conc ρ sy) : (pindex td sx sy).Good C.P ρ a w ⟨d, .index st x y, t, pos, af, g⟩ := by
  have hk := (hC.tab.get hd).k
  obtain ⟨_, _, _, k⟩ := td
  unfold pindex
  split
  · rename_i k' i
    simp only [conc] at hy
    split
    · rename_i s hkk
      have hk2 : C.P.underlying st = some .string := by
        simp only at hkk
        subst hkk; exact hk
      simp only [conc] at hx
      refine ⟨rfl, fun hi => ?_⟩
      have hi2 : i.toNat < s.size := by omega
      have hb : s[i.toNat]? = some s[i.toNat]! := by rw [getElem?_pos s i.toNat hi2, getElem!_pos s i.toNat hi2]
      simp [Does, execOp, Instr.index, asIntOf, hx, hy, run_underlying hk2, hi.1, hb, conc]
    · trivial
  · trivial
theorem cellsS_spec {s : SV} {cs : List SV} (h : cellsS s = some cs) (hw : wf ρ.length s = true) : (conc ρ s).cells.toList = concs ρ cs ∧ wfs ρ.length cs = true := by
  cases s with
  | a l => simp only [cellsS, Option.some.injEq] at h; subst h; exact ⟨rfl, hw⟩
  | p k off => simp only [cellsS, Option.some.injEq] at h; subst h; exact ⟨rfl, by simp only [wfs, hw]; rfl⟩
  | f g u v => simp only [cellsS, Option.some.injEq] at h; subst h; exact ⟨rfl, by simp only [wfs, hw]; rfl⟩
  | t l => simp [cellsS] at h
  | v x =>
    have one : ∀ y : Value, y.cells = #[y] → some [SV.v y] = some cs → (conc ρ (.v y)).cells.toList = concs ρ cs ∧ wfs ρ.length cs = true := by
      intro y hy hc
      simp only [Option.some.injEq] at hc
      subst hc
      exact ⟨by simp only [conc, hy, concs], rfl⟩
    cases x with
    | agg l =>
      obtain ⟨hc, hw'⟩ := aggL_spec (ρ := ρ) (x := .v (.agg l)) (l := cs) h rfl
      exact ⟨by rw [hc]; rfl, hw'⟩
    | tuple l => simp [cellsS] at h
    | _ => exact one _ rfl h
theorem fold_set : ∀ (us : List Value) (off k : Nat) (cs : List Value), off + k + us.length ≤ cs.length →
    (us.zipIdx k).foldl (fun (cs : Array Value) (p : Value × Nat) => cs.setIfInBounds (off + p.2) p.1) cs.toArray = (cs.take (off + k) ++ us ++ cs.drop (off + k + us.length)).toArray
  | [], off, k, cs, h => by simp
  | u :: us, off, k, cs, h => by
    simp only [List.length_cons] at h
    rw [List.zipIdx_cons, List.foldl_cons]
    have h1 : cs.toArray.setIfInBounds (off + k) u = (cs.set (off + k) u).toArray := by simp
    rw [h1, fold_set us off (k + 1) _ (by simp; omega)]
    congr 1
    have e1 : (cs.set (off + k) u).take (off + (k + 1)) = cs.take (off + k) ++ [u] := by
      rw [show off + (k + 1) = off + k + 1 by omega, List.take_succ_eq_append_getElem (by simp; omega), List.take_set_of_le (Nat.le_refl _)]
      simp
    have e2 : (cs.set (off + k) u).drop (off + (k + 1) + us.length) = cs.drop (off + k + (u :: us).length) := by
      rw [List.drop_set_of_lt (by omega)]
      congr 1
      simp only [List.length_cons]; omega
    rw [e1, e2]; simp
theorem pfill_spec {fs : List FD} : ∀ {ps : List (Nat × SV)} {cs r : List SV}, pfill fs cs ps = some r → wfs ρ.length cs = true → (∀ i s, (i, s) ∈ ps → wf ρ.length s = true) →
    wfs ρ.length r = true ∧ Instr.fill ((fs.map fun d => (d.off, d.size)).toArray[·]?) (concs ρ cs).toArray (ps.map fun p => (p.1, conc ρ p.2)) = some (concs ρ r).toArray
  | [], cs, r, h, hw, _ => by simp only [pfill, Option.some.injEq] at h; subst h; exact ⟨hw, rfl⟩
  | (i, s) :: ps, cs, r, h, hw, hp => by
    simp only [pfill, laid_eq] at h
    split at h
    · rename_i off sz ag us hf hus
      cases hc : (Nat.beq us.length sz && Nat.ble (off + sz) cs.length) with
      | false => rw [hc] at h; cases h
      | true =>
        rw [hc] at h
        simp only [cond_true] at h
        simp only [Bool.and_eq_true] at hc
        have c1 := Nat.eq_of_beq_eq_true hc.1
        have c2 := Nat.le_of_ble_eq_true hc.2
        obtain ⟨e1, e2⟩ := cellsS_spec (ρ := ρ) hus (hp i s (by simp))
        obtain ⟨g1, g2⟩ := pfill_spec h (wfs_append (wfs_append (wfs_take hw _) e2) (wfs_drop hw _)) (fun j s' hm => hp j s' (by simp [hm]))
        refine ⟨g1, ?_⟩
        have e3 : (conc ρ s).cells = (concs ρ us).toArray := by rw [← e1]
        have hpl : ((fs.map fun d => (d.off, d.size)).toArray[i]?) = some (off, sz) := by simp [hf]
        simp only [List.map_cons, Instr.fill, hpl]
        have hsz : (conc ρ s).cells.size = sz := by rw [e3]; simp [concs_length, c1]
        have hcs : (concs ρ cs).toArray.size = cs.length := by simp [concs_length]
        rw [if_neg (by simp only [hsz, hcs, ne_eq, not_true_eq_false, decide_false, Bool.false_or, decide_eq_true_eq]; omega)]
        rw [← g2]
        congr 1
        rw [e3]
        have := fold_set (concs ρ us) off 0 (concs ρ cs) (by rw [concs_length, concs_length]; omega)
        simp only [Nat.add_zero] at this
        rw [concs_length, c1] at this
        rw [concs_append, concs_append, concs_take, concs_drop]
        simpa using this
    · cases h
theorem evParts_spec (ht : Tells ρ ev a) : ∀ {ps : List (Nat × Operand)} {l : List (Nat × SV)}, evParts ev ps = some l → ps.map (fun (i, x) => (i, a x)) = l.map (fun p => (p.1, conc ρ p.2)) ∧ ∀ i s, (i, s) ∈ l → wf ρ.length s = true
  | [], l, h => by simp only [evParts, Option.some.injEq] at h; subst h; exact ⟨rfl, fun i s hm => by cases hm⟩
  | (i, x) :: r, l, h => by
    simp only [evParts] at h
    split at h
    · rename_i s m hs hm
      simp only [Option.some.injEq] at h
      subst h
      obtain ⟨h1, h2⟩ := ht x s hs
      obtain ⟨h3, h4⟩ := evParts_spec ht hm
      refine ⟨by simp only [List.map_cons, h2]; rw [h3], fun j s' hm' => ?_⟩
      rcases List.mem_cons.1 hm' with e | hm'
      · cases e; exact h1
      · exact h4 j s' hm'
    · cases h
theorem pev_good (hC : C.Ok) (ht : Tells ρ ev a) (hH : Holds ρ H w)
    (hT : ∀ c x y, o.op = .pick c x y → a c = .bool true → ∀ s, evT x = some s → wf ρ.length s = true ∧ a x = conc ρ s)
    (hF : ∀ c x y, o.op = .pick c x y → a c = .bool false → ∀ s, evF y = some s → wf ρ.length s = true ∧ a y = conc ρ s) : (pev C ev evT evF H o.op).Good C.P ρ a w o := by
  obtain ⟨d, op, t, pos, af, g⟩ := o
  cases op <;> simp only [pev] <;> first | trivial | skip
  case move x => exact ofO_good fun s hs => ⟨(ht x s hs).1, by simp [Does, execOp, (ht x s hs).2]⟩
  case assign x => exact ofO_good fun s hs => ⟨(ht x s hs).1, by simp [Does, execOp, (ht x s hs).2]⟩
  case pick c x y =>
    split
    · rename_i q u v hc hx hy
      refine ⟨rfl, ?_⟩
      have hcv : a c = .bool q := (ht c _ hc).2
      cases q with
      | true => simp [Does, execOp, hcv, asBool, (hT c x y rfl hcv _ hx).2, conc, sel]
      | false => simp [Does, execOp, hcv, asBool, (hF c x y rfl hcv _ hy).2, conc, sel]
    · trivial
  case binOp b xt x y yt =>
    split
    · rename_i sx sy hx hy
      exact pbin_good hC (ht x _ hx).2 (ht y _ hy).2
    · trivial
  case unOp u xt x =>
    cases u <;> simp only <;> first | trivial | skip
    split
    · rename_i q hx
      refine ⟨rfl, ?_⟩
      have := (ht x _ hx).2
      simp only [conc] at this
      simp [Does, execOp, this, Op.unary, conc]
    · trivial
  case extract x i =>
    split
    · rename_i sx hx
      obtain ⟨h1, h2⟩ := ht x _ hx
      split
      · rename_i l hl
        obtain ⟨h3, h4⟩ := tupL_spec (ρ := ρ) hl h1
        refine ofO_good fun s hs => ⟨wfs_get h4 hs, ?_⟩
        have : (concs ρ l)[i]? = some (conc ρ s) := by rw [concs_get, hs]; rfl
        simp [Does, execOp, h2, h3, Instr.extract, this]
      · trivial
    · trivial
  case nilCheck x =>
    split
    · rename_i k off hx
      obtain ⟨h1, h2⟩ := ht x _ hx
      exact ⟨h1, by simp [Does, execOp, h2, conc]⟩
    · rename_i p hx
      obtain ⟨h1, h2⟩ := ht x _ hx
      exact ⟨h1, by simp [Does, execOp, h2, conc]⟩
    · rename_i g' u v hx
      obtain ⟨h1, h2⟩ := ht x _ hx
      exact ⟨h1, by simp [Does, execOp, h2, conc]⟩
    · trivial
  case fieldAddr s x i =>
    split
    · rename_i k off _ _ _ fs hx hd
      obtain ⟨h1, h2⟩ := ht x _ hx
      obtain ⟨⟨fs'⟩, hu, hfd⟩ : ∃ fs', _ := (hC.tab.get hd).k
      split
      · rename_i fo fz fa hf
        obtain ⟨fd, e1, e2, e3, e4⟩ := hfd.get hf
        simp only at e2 e3
        cases hz : Nat.blt 0 fz with
        | false => trivial
        | true =>
          obtain ⟨n, rfl⟩ : ∃ n, fz = n + 1 := ⟨fz - 1, by simp [Nat.blt_eq] at hz; omega⟩
          refine ⟨h1, ?_⟩
          simp only [conc] at h2
          simp [Does, execOp, h2, Instr.fieldAt, run_underlying hu, show fs'[i]? = some fd from e1, Instr.sureAddr, fieldPlace, e3, e2, Addr.add_lit, conc]
      · trivial
    · rename_i p _ _ _ fs hx hd
      obtain ⟨h1, h2⟩ := ht x _ hx
      obtain ⟨⟨fs'⟩, hu, hfd⟩ : ∃ fs', _ := (hC.tab.get hd).k
      split
      · rename_i fo fz fa hf
        obtain ⟨fd, e1, e2, e3, e4⟩ := hfd.get hf
        simp only at e2 e3
        cases hz : Nat.blt 0 fz with
        | false => trivial
        | true =>
          obtain ⟨n, rfl⟩ : ∃ n, fz = n + 1 := ⟨fz - 1, by simp [Nat.blt_eq] at hz; omega⟩
          refine ⟨rfl, ?_⟩
          simp only [conc] at h2
          simp [Does, execOp, h2, Instr.fieldAt, run_underlying hu, show fs'[i]? = some fd from e1, Instr.sureAddr, fieldPlace, e3, e2, conc]
      · trivial
    · trivial
  case field s x i =>
    split
    · rename_i sx _ _ _ fs hx hd
      obtain ⟨h1, h2⟩ := ht x _ hx
      obtain ⟨⟨fs'⟩, hu, hfd⟩ : ∃ fs', _ := (hC.tab.get hd).k
      split
      · rename_i l hl
        obtain ⟨h3, h4⟩ := aggL_spec (ρ := ρ) hl h1
        unfold pfield
        split
        · rename_i fo fz fa hf
          obtain ⟨fd, e1, e2, e3, e4⟩ := hfd.get hf
          simp only at e2 e3 e4
          cases fa with
          | true =>
            refine ⟨wfs_take (wfs_drop h4 _) _, ?_⟩
            simp [Does, execOp, h2, h3, Instr.field, run_underlying hu, show fs'[i]? = some fd from e1, part, e4 w, e3 w, asAgg, e2, conc, concs_take, concs_drop]
          | false =>
            refine ofO_good fun s' hs => ⟨wfs_get h4 hs, ?_⟩
            have : (concs ρ l)[fo]? = some (conc ρ s') := by rw [concs_get, hs]; rfl
            simp [Does, execOp, h2, h3, Instr.field, run_underlying hu, show fs'[i]? = some fd from e1, part, e4 w, asAgg, e2, this]
        · trivial
      · trivial
    · trivial
  case load u x =>
    split
    · rename_i k off td hx hd
      obtain ⟨h1, h2⟩ := ht x _ hx
      simp only [conc] at h2
      have hag := (hC.tab.get hd).agg
      have hsz := (hC.tab.get hd).size
      split
      · rename_i l hl
        have hB := hH.box k l hl
        obtain ⟨_, hw⟩ := hH.ok k l hl
        unfold pload
        simp only [laid_eq]
        split
        · rename_i hagg
          rw [hagg] at hag
          cases hle : Nat.ble (off + td.size) l.length with
          | false => trivial
          | true =>
            have hle' : off + td.size ≤ l.length := Nat.le_of_ble_eq_true hle
            refine ⟨wfs_take (wfs_drop hw _) _, ?_⟩
            have hr := (hB.rowAt off).take td.size
            have hlen : ((concs ρ l).drop off |>.take td.size).length = td.size := by
              rw [List.length_take, List.length_drop, concs_length]; omega
            have hrun := run_loadCells_list (P := C.P) w ⟨adr ρ k, off, none⟩ _ hr
            rw [hlen] at hrun
            simp [Does, execOp, h2, Instr.loadAt, Instr.sureAddr, loadVar, hag w, hsz w, hrun, conc, concs_take, concs_drop]
        · rename_i hagg
          rw [hagg] at hag
          refine ofO_good fun s hs => ⟨wfs_get hw hs, ?_⟩
          have : w.cell? ⟨adr ρ k, off, none⟩ = some (conc ρ s) := by rw [hB.cell, concs_get, hs]; rfl
          simp [Does, execOp, h2, Instr.loadAt, Instr.sureAddr, loadVar, hag w, this]
      · trivial
    · trivial
  case makeFunc fn fs cs =>
    cases fn <;> simp only <;> first | trivial | skip
    split
    · rename_i u v h1 h2
      obtain ⟨e1, w1⟩ := evL_spec ht h1
      obtain ⟨e2, w2⟩ := evL_spec ht h2
      refine ⟨by simp only [wf, w1, w2]; rfl, ?_⟩
      obtain ⟨fs⟩ := fs
      obtain ⟨cs⟩ := cs
      simp only at e1 e2
      simp [Does, execOp, Instr.makeFunc, conc, e1, e2]
    · trivial
  case index st x y =>
    split
    · rename_i sx sy td hx hy hd
      exact pindex_good hC hd (ht x _ hx).2 (ht y _ hy).2
    · trivial
  case convert s u x =>
    split
    · rename_i k' n k1 k hx hs hu
      obtain ⟨h1, h2⟩ := ht x _ hx
      simp only [conc] at h2
      have hku : ∀ t k, kindOfT (tget C.tab t) = some k → C.P.underlying t = some (.int k) := by
        intro t k h
        cases hd : tget C.tab t with
        | none => rw [hd] at h; cases h
        | some td =>
          have hk := (hC.tab.get hd).k
          obtain ⟨_, _, _, kk⟩ := td
          rw [hd] at h
          cases kk <;> first | (cases h; exact hk) | cases h
      cases hb : Nat.blt k.bits k1.bits with
      | true => exact ⟨rfl, by simp [Does, execOp, h2, convert, run_underlying (hku _ _ hs), run_underlying (hku _ _ hu), Conv.intToInt, conc]⟩
      | false =>
        refine ⟨rfl, fun hin => ?_⟩
        simp [Does, execOp, h2, convert, run_underlying (hku _ _ hs), run_underlying (hku _ _ hu), Conv.intToInt, wrap_in hin, conc]
    · trivial
  case build bt ps =>
    obtain ⟨ps⟩ := ps
    split
    · rename_i td l hd hl
      obtain ⟨h1, h2⟩ := evParts_spec ht hl
      obtain ⟨z, hz, hzz⟩ := (hC.tab.get hd).zero
      have hk := (hC.tab.get hd).k
      unfold pbuild
      simp only [laid_eq]
      split
      · rename_i fs hkk
        rw [hkk] at hk
        obtain ⟨⟨fs'⟩, hu, hfd⟩ := hk
        split
        · rename_i cs hcs
          have ez : ∀ l' : List Value, concs ρ (l'.map .v) = l' ∧ wfs ρ.length (l'.map .v) = true := by
            intro l'
            induction l' with
            | nil => exact ⟨rfl, rfl⟩
            | cons y r ih => exact ⟨by simp only [List.map_cons, concs, conc, ih.1], by simp only [List.map_cons, wfs, wf, ih.2]; rfl⟩
          obtain ⟨g1, g2⟩ := pfill_spec (ρ := ρ) hcs (ez _).2 h2
          refine ⟨g1, ?_⟩
          rw [(ez _).1] at g2
          have hz' : z.cells = td.zero.toArray := by rw [← hzz]
          have hpl := hfd.places w
          have hm : ((⟨ps⟩ : Array (Nat × Operand)).map fun (i, x) => (i, a x)) = (l.map fun p => (p.1, conc ρ p.2)).toArray := by rw [← h1]; simp
          have hb : (Instr.build bt ((⟨ps⟩ : Array (Nat × Operand)).map fun (i, x) => (i, a x))).run C.P w = .ok (.agg (concs ρ cs).toArray) w := by
            rw [hm]
            simp only [Instr.build, Sem.run_bind, hz w, Result.andThen_ok, run_underlying hu, List.mapM_toArray, map_eq_pure_bind, Sem.run_pure]
            rw [hpl]
            simp only [Result.andThen_ok, hz']
            rw [g2]
            simp
          simp only [Does, execOp, Sem.run_bind, hb, Sem.run_pure, Result.andThen_ok]
          rfl
        · trivial
      · trivial
    · trivial
  case call c =>
    obtain ⟨cal, args, ats⟩ := c
    cases cal <;> simp only <;> first | trivial | skip
    rename_i b
    obtain ⟨args⟩ := args
    obtain ⟨ats⟩ := ats
    cases b <;> simp only <;> first | trivial | skip
    · match args, ats with
      | [x], [u] =>
        simp only
        split
        · rename_i sx hx; exact plen_good hC (ht x _ hx).2
        · trivial
      | [], _ | _ :: _ :: _, _ | [_], [] | [_], _ :: _ :: _ => trivial
    · match args with
      | [x, y] =>
        simp only
        split
        · rename_i sx sy hx hy; exact pmm_good (ht x _ hx).2 (ht y _ hy).2
        · trivial
      | [] | [_] | _ :: _ :: _ :: _ => trivial
    · match args with
      | [x, y] =>
        simp only
        split
        · rename_i sx sy hx hy; exact pmm_good (ht x _ hx).2 (ht y _ hy).2
        · trivial
      | [] | [_] | _ :: _ :: _ :: _ => trivial
end
end Go.Proofs.Bw

/-
  A region in the text's order, by a program: what it leaves to be shown.
-/
namespace Go.Proofs.Bw
open Go Go.RowKit
structure RE where
  d : Option Nat
  p : List (Nat × Bool)
  sv : SV
abbrev SEnv := List (Nat × SV)
def lookS : SEnv → Nat → Option SV
  | [], _ => none
  | (k, s) :: r, t => bif Nat.beq k t then some s else lookS r t
def firstR : List RE → Nat → Option RE
  | [], _ => none
  | r :: l, t => match r.d with
    | some d => bif Nat.beq d t then some r else firstR l t
    | none => firstR l t
def boolOf : SV → Option Bool
  | .v (.bool x) => some x
  | _ => none
def entB (R : List RE) (t : Nat) : Option Bool :=
  match firstR R t with
  | some r => boolOf r.sv
  | none => none
def condR (R : List RE) : List (Nat × Bool) → Bool
  | [] => true
  | (t, q) :: p => condR R p && (match entB R t with
    | some x => bif q then x else !x
    | none => false)
def pathImp (R : List RE) : List (Nat × Bool) → Prop → Prop
  | [], G => G
  | (t, q) :: p, G => pathImp R p (match entB R t, q with
    | some x, true => x = true → G
    | some x, false => x = false → G
    | none, _ => False)
theorem pathImp_iff (R : List RE) : ∀ (p : List (Nat × Bool)) (G : Prop), pathImp R p G → condR R p = true → G
  | [], G, h, _ => h
  | (t, q) :: p, G, h, hc => by
    simp only [condR, Bool.and_eq_true] at hc
    have := pathImp_iff R p _ h hc.1
    cases he : entB R t with
    | none => rw [he] at hc; simp at hc
    | some x =>
      rw [he] at this hc
      cases q <;> cases x <;> simp_all
def eqPath : List (Nat × Bool) → List (Nat × Bool) → Bool
  | [], [] => true
  | (t, q) :: p, (u, s) :: r => Nat.beq t u && (q == s) && eqPath p r
  | _, _ => false
theorem eqPath_eq : ∀ {p r : List (Nat × Bool)}, eqPath p r = true → p = r
  | [], [], _ => rfl
  | (t, q) :: p, (u, s) :: r, h => by
    simp only [eqPath, Bool.and_eq_true] at h
    obtain ⟨⟨h1, h2⟩, h3⟩ := h
    rw [Nat.eq_of_beq_eq_true h1, eq_of_beq h2, eqPath_eq h3]
  | [], _ :: _, h => by cases h
  | _ :: _, [], h => by cases h
def isSuf (p : List (Nat × Bool)) : List (Nat × Bool) → Bool
  | [] => eqPath p []
  | x :: r => eqPath p (x :: r) || isSuf p r
theorem isSuf_cond {R : List RE} {p : List (Nat × Bool)} : ∀ {r : List (Nat × Bool)}, isSuf p r = true → condR R r = true → condR R p = true
  | [], h, hc => by rw [eqPath_eq h]; exact hc
  | (t, q) :: r, h, hc => by
    simp only [isSuf, Bool.or_eq_true] at h
    rcases h with h | h
    · rw [eqPath_eq h]; exact hc
    · simp only [condR, Bool.and_eq_true] at hc
      exact isSuf_cond h hc.1
def dstFree (n : Nat) (R : List RE) : Option Nat → Bool
  | none => true
  | some t => Nat.blt t n && (match firstR R t with
    | none => true
    | some _ => false)
inductive GR where
  | go (p : List (Nat × Bool))
  | skip (p : List (Nat × Bool))
  | no
def guardE (r : RE) (t : Nat) (q : Bool) : GR :=
  match r.sv with
  | .v (.bool _) => .go ((t, q) :: r.p)
  | .v (.tuple _) => .skip r.p
  | _ => .no
def guardOf (ops : List Oper) (R : List RE) (j : Nat) (q : Bool) : GR :=
  match ops[j]? with
  | some o => match o.dst with
    | some t => match firstR R t with
      | some r => guardE r t q
      | none => .no
    | none => .no
  | none => .no
def evR (R : List RE) (e : SEnv) (p : List (Nat × Bool)) : Operand → Option SV
  | .tmp t => match firstR R t with
    | some r => bif isSuf r.p p then some r.sv else none
    | none => lookS e t
  | .const v => some (.v v)
  | .global g => some (.v (.pointer (some ⟨g, 0, none⟩)))
  | .func f => some (.f f [] [])
def orE : Option SV → Option SV → Option SV
  | some s, _ => some s
  | none, x => x
def evP (R : List RE) (e : SEnv) (p : List (Nat × Bool)) (q : Bool) (o : Op) (x : Operand) : Option SV :=
  match o with
  | .pick (.tmp t) _ _ => match firstR R t with
    | some r => orE (evR R e p x) (evR R e ((t, q) :: r.p) x)
    | none => evR R e p x
  | _ => evR R e p x
def opE (ρ : List Nat) (f : Operand → Option SV) : List Nat → Env
  | [] => []
  | t :: r => match f (.tmp t) with
    | some s => (t, conc ρ s) :: opE ρ f r
    | none => opE ρ f r
def Lands (ρ : List Nat) (k : SV → List Nat → Heap → World → Prop) (v : Value) (w' : World) : Prop :=
  ∃ s l H', conc (ρ ++ l) s = v ∧ wf (ρ ++ l).length s = true ∧ Holds (ρ ++ l) H' w' ∧ k s (ρ ++ l) H' w'
def oneS : SV → Bool
  | .v x => x.oneCell'
  | .p _ _ => true
  | .f _ _ _ => true
  | _ => false
def putCells (sz off : Nat) (cs : List SV) (s : SV) : Option (List SV) :=
  match cellsS s with
  | some us => bif Nat.beq us.length sz && Nat.ble (off + sz) cs.length && us.all oneS then some (cs.take off ++ us ++ cs.drop (off + sz)) else none
  | none => none
def vGen (C : Cx) (o : Oper) (ev : Operand → Option SV) (ρ : List Nat) (w : World) (k : SV → List Nat → Heap → World → Prop) : Prop :=
  OpT C.P (opE ρ ev (looks o)) w o (Lands ρ k)
def vStore (C : Cx) (o : Oper) (ev : Operand → Option SV) (t : Nat) (a y : Operand) (ρ : List Nat) (H : Heap) (w : World) (k : SV → List Nat → Heap → World → Prop) : Prop :=
  match ev a, ev y, tget C.tab t with
  | some (.p b off), some s, some td => match hget H b with
    | some cs => match putCells td.size off cs s with
      | some cs' => ∀ w', Upd (adr ρ b) w w' → (w'.heap.size = w.heap.size ∧ ∀ k t, tyAt w k t → tyAt w' k t) → Holds ρ (hset H b cs') w' → fH (hset H b cs') fun H' => k (.v undef) ρ H' w'
      | none => vGen C o ev ρ w k
    | none => vGen C o ev ρ w k
  | _, _, _ => vGen C o ev ρ w k
def vCall (C : Cx) (o : Oper) (ev : Operand → Option SV) (x : Operand) (args : List Operand) (ρ : List Nat) (w : World) (k : SV → List Nat → Heap → World → Prop) : Prop :=
  match ev x, evL ev args with
  | some (.f g fs cs), some us => bif nmem C.fns g then Runs C.P g ⟨concs ρ (fs ++ us ++ cs)⟩ w (Lands ρ k) else vGen C o ev ρ w k
  | _, _ => vGen C o ev ρ w k
def vMove (C : Cx) (o : Oper) (ev : Operand → Option SV) (ρ : List Nat) (H : Heap) (w : World) (k : SV → List Nat → Heap → World → Prop) : Prop :=
  match o.op with
  | .box u x => match ev x with
    | some s => match cellsS s with
      | some cs => ∀ g w', g = w.heap.size → Ext w w' → (w'.heap.size = w.heap.size + 1 ∧ tyAt w' g u) → Holds (ρ ++ [g]) (H ++ [(ρ.length, cs)]) w' → fR (ρ ++ [g]) fun ρ' => fH (H ++ [(ρ.length, cs)]) fun H' => k (.p ρ.length 0) ρ' H' w'
      | none => vGen C o ev ρ w k
    | none => vGen C o ev ρ w k
  | .alloc t => match tget C.tab t with
    | some td => ∀ g w', g = w.heap.size → Ext w w' → (w'.heap.size = w.heap.size + 1 ∧ tyAt w' g t) → Holds (ρ ++ [g]) (H ++ [(ρ.length, td.zero.map .v)]) w' → fR (ρ ++ [g]) fun ρ' => fH (H ++ [(ρ.length, td.zero.map .v)]) fun H' => k (.p ρ.length 0) ρ' H' w'
    | none => vGen C o ev ρ w k
  | .store t a y => vStore C o ev t a y ρ H w k
  | .call ⟨.value x, args, _⟩ => vCall C o ev x args.toList ρ w k
  | _ => vGen C o ev ρ w k
def vDet (C : Cx) (o : Oper) (ev : Operand → Option SV) (ρ : List Nat) (w : World) (x : Value) : Prop :=
  match o.op with
  | .call ⟨.value g, args, _⟩ => match ev g, evL ev args.toList with
    | some (.f g fs cs), some us => bif nmem C.fns g then Runs C.P g ⟨concs ρ (fs ++ us ++ cs)⟩ w (fun v w' => v = x ∧ Ext w w') else OpT C.P (opE ρ ev (looks o)) w o (fun v w' => v = x ∧ Ext w w')
    | _, _ => OpT C.P (opE ρ ev (looks o)) w o (fun v w' => v = x ∧ Ext w w')
  | _ => OpT C.P (opE ρ ev (looks o)) w o (fun v w' => v = x ∧ Ext w w')
def chk (b : Bool) (p : Prop) : Prop :=
  match b with
  | true => p
  | false => False
def vOp (C : Cx) (o : Oper) (p : List (Nat × Bool)) (R : List RE) (e : SEnv) (ρ : List Nat) (H : Heap) (w : World) (k : SV → List Nat → Heap → World → Prop) : Prop :=
  match pev C (evR R e p) (evP R e p true o.op) (evP R e p false o.op) H o.op with
  | .ok s => chk (wf ρ.length s) (k s ρ H w)
  | .side q s => pathImp R p q ∧ chk (wf ρ.length s) (k s ρ H w)
  | .no => match p with
    | [] => vMove C o (evR R e []) ρ H w k
    | x :: r => (∃ v, pathImp R (x :: r) (vDet C o (evR R e (x :: r)) ρ w v) ∧ ∀ w', Ext w w' → Holds ρ H w' → k (.v v) ρ H w') ∨
        ((condR R (x :: r) = true → vMove C o (evR R e (x :: r)) ρ H w k) ∧ (condR R (x :: r) = false → k (.v undef) ρ H w))
def endE (R : List RE) (e : SEnv) : List Nat → SEnv
  | [] => []
  | t :: l => match firstR R t with
    | some r => match r.p with
      | [] => (t, r.sv) :: endE R e l
      | _ => endE R e l
    | none => match lookS e t with
      | some s => (t, s) :: endE R e l
      | none => endE R e l
abbrev KC := SEnv → List Nat → Heap → World → Prop
def vStep (C : Cx) (n : Nat) (ops : List Oper) (o : Oper) (ih : List RE → SEnv → List Nat → Heap → World → Prop) (R : List RE) (e : SEnv) (ρ : List Nat) (H : Heap) (w : World) : Prop :=
  match dstFree n R o.dst with
    | false => False
    | true => match o.guard with
      | none => vOp C o [] R e ρ H w fun s ρ' H' w' => ih (⟨o.dst, [], s⟩ :: R) e ρ' H' w'
      | some (j, q) => match guardOf ops R j q with
        | .go p => vOp C o p R e ρ H w fun s ρ' H' w' => ih (⟨o.dst, p, s⟩ :: R) e ρ' H' w'
        | .skip p => ih (⟨o.dst, p, .v undef⟩ :: R) e ρ H w
        | .no => False
def vOps (C : Cx) (n : Nat) (live : List Nat) (ops : List Oper) (K : KC) (l : List Oper) : List RE → SEnv → List Nat → Heap → World → Prop :=
  @List.rec Oper (fun _ => List RE → SEnv → List Nat → Heap → World → Prop) (fun R e ρ H w => fE (endE R e live) fun e' => K e' ρ H w) (fun o _ ih => vStep C n ops o ih) l
theorem vOps_nil {C : Cx} {n : Nat} {live : List Nat} {ops : List Oper} {K : KC} {R : List RE} {e : SEnv} {ρ : List Nat} {H : Heap} {w : World} :
    vOps C n live ops K [] R e ρ H w = fE (endE R e live) fun e' => K e' ρ H w := rfl
theorem vOps_cons {C : Cx} {n : Nat} {live : List Nat} {ops : List Oper} {K : KC} {o : Oper} {r : List Oper} {R : List RE} {e : SEnv} {ρ : List Nat} {H : Heap} {w : World} :
    vOps C n live ops K (o :: r) R e ρ H w = vStep C n ops o (vOps C n live ops K r) R e ρ H w := rfl
section
variable {ds : List Deferred} {r0 : Option Nat} {N : Nat} {ρ : List Nat} {n : Nat} {e : SEnv} {R : List RE} {H : Heap} {w : World} {a : Act} {P : Program} {C : Cx}
def AgT (n : Nat) (e : Env) (a : Act) : Prop := a.tmps.size = n ∧ ∀ t v, look e t = some v → a.tmps[t]? = some v
def AgS (ds : List Deferred) (ρ : List Nat) (n : Nat) (e : SEnv) (a : Act) : Prop := a.defers = ds ∧ a.tmps.size = n ∧ ∀ t s, lookS e t = some s → wf ρ.length s = true ∧ a.tmps[t]? = some (conc ρ s)
structure AgR (ds : List Deferred) (ρ : List Nat) (n : Nat) (e : SEnv) (R : List RE) (a : Act) : Prop where
  defers : a.defers = ds
  size : a.tmps.size = n
  base : ∀ t, firstR R t = none → ∀ s, lookS e t = some s → wf ρ.length s = true ∧ a.tmps[t]? = some (conc ρ s)
  loc : ∀ t r, firstR R t = some r → wf ρ.length r.sv = true ∧ a.tmps[t]? = some (bif condR R r.p then conc ρ r.sv else undef)
  paths : ∀ t r, firstR R t = some r → ∀ x ∈ r.p, (entB R x.1).isSome = true
theorem AgS.start (h : AgS ds ρ n e a) : AgR ds ρ n e [] a := ⟨h.1, h.2.1, fun t _ s hs => h.2.2 t s hs, fun t r h => by simp [firstR] at h, fun t r h => by simp [firstR] at h⟩
theorem AgR.app (h : AgR ds ρ n e R a) (l : List Nat) : AgR ds (ρ ++ l) n e R a := by
  refine ⟨h.defers, h.size, fun t ht s hs => ?_, fun t r hr => ?_, h.paths⟩
  · obtain ⟨h1, h2⟩ := h.base t ht s hs
    exact ⟨wf_mono (by simp) _ h1, by rw [conc_app l s h1]; exact h2⟩
  · obtain ⟨h1, h2⟩ := h.loc t r hr
    exact ⟨wf_mono (by simp) _ h1, by rw [conc_app l _ h1]; exact h2⟩
theorem firstR_cons (r : RE) (R : List RE) (t : Nat) : firstR (r :: R) t = if r.d = some t then some r else firstR R t := by
  simp only [firstR]
  cases hd : r.d with
  | none => simp
  | some d =>
    simp only
    by_cases hdt : d = t
    · subst hdt; simp
    · rw [beq_ne hdt, if_neg (by simp; exact hdt)]; rfl
theorem dstFree_spec {d : Option Nat} (h : dstFree n R d = true) : dstOk n d = true ∧ ∀ t, d = some t → firstR R t = none := by
  cases d with
  | none => exact ⟨rfl, fun t h => by cases h⟩
  | some t =>
    simp only [dstFree, Bool.and_eq_true] at h
    refine ⟨h.1, fun u hu => ?_⟩
    cases hu
    cases hf : firstR R t with
    | none => rfl
    | some r => rw [hf] at h; exact absurd h.2 (by simp)
theorem entB_cons {r : RE} {t : Nat} (hf : dstFree n R r.d = true) (ht : (entB R t).isSome = true) : entB (r :: R) t = entB R t := by
  unfold entB
  rw [firstR_cons]
  by_cases hd : r.d = some t
  · have := (dstFree_spec hf).2 t hd
    unfold entB at ht
    rw [this] at ht; cases ht
  · rw [if_neg hd]
theorem condR_cons {r : RE} (hf : dstFree n R r.d = true) : ∀ {p : List (Nat × Bool)}, (∀ x ∈ p, (entB R x.1).isSome = true) → condR (r :: R) p = condR R p
  | [], _ => rfl
  | (t, q) :: p, h => by
    simp only [condR]
    rw [entB_cons hf (h (t, q) (by simp)), condR_cons hf (fun x hx => h x (by simp [hx]))]
theorem put_get {a : Act} {d : Option Nat} (hd : dstOk a.tmps.size d = true) (v : Value) (t : Nat) : (a.put d v).tmps[t]? = if d = some t then some v else a.tmps[t]? := by
  cases d with
  | none => simp [Act.put]
  | some u =>
    have hu : u < a.tmps.size := by simpa [dstOk, Nat.blt_eq] using hd
    simp only [Act.put, Option.some.injEq]
    by_cases hut : u = t
    · subst hut; rw [if_pos rfl, Array.getElem?_setIfInBounds_self_of_lt hu]
    · rw [if_neg hut, Array.getElem?_setIfInBounds_ne hut]
theorem AgR.step (h : AgR ds ρ n e R a) {d : Option Nat} {p : List (Nat × Bool)} {s : SV} (hf : dstFree n R d = true) (hp : ∀ x ∈ p, (entB R x.1).isSome = true) (hs : wf ρ.length s = true) :
    AgR ds ρ n e (⟨d, p, s⟩ :: R) (a.put d (bif condR R p then conc ρ s else undef)) := by
  obtain ⟨hd, hfr⟩ := dstFree_spec hf
  have hd' : dstOk a.tmps.size d = true := by rw [h.size]; exact hd
  refine ⟨?_, ?_, fun t ht s' hs' => ?_, fun t r hr => ?_, fun t r hr x hx => ?_⟩
  · cases d <;> simp [Act.put, h.defers]
  · cases d <;> simp [Act.put, h.size]
  · rw [firstR_cons] at ht
    by_cases hdt : d = some t
    · rw [if_pos hdt] at ht; cases ht
    · rw [if_neg hdt] at ht
      rw [put_get hd', if_neg hdt]
      exact h.base t ht s' hs'
  · rw [firstR_cons] at hr
    rw [put_get hd']
    by_cases hdt : d = some t
    · rw [if_pos hdt] at hr; cases hr
      rw [if_pos hdt, condR_cons hf hp]
      exact ⟨hs, rfl⟩
    · rw [if_neg hdt] at hr
      rw [if_neg hdt, condR_cons hf (h.paths t r hr)]
      exact h.loc t r hr
  · rw [firstR_cons] at hr
    by_cases hdt : d = some t
    · rw [if_pos hdt] at hr; cases hr
      rw [entB_cons hf (hp x hx)]; exact hp x hx
    · rw [if_neg hdt] at hr
      rw [entB_cons hf (h.paths t r hr x hx)]; exact h.paths t r hr x hx
theorem AgR.eval (h : AgR ds ρ n e R a) {p : List (Nat × Bool)} (hc : condR R p = true) : Tells ρ (evR R e p) a.eval := by
  intro x s hs
  cases x with
  | tmp t =>
    simp only [evR] at hs
    have key : ∀ {v : Value}, a.tmps[t]? = some v → a.eval (.tmp t) = v := fun hv => by simp [Act.eval, Array.getD_eq_getD_getElem?, hv]
    cases hf : firstR R t with
    | none => rw [hf] at hs; obtain ⟨h1, h2⟩ := h.base t hf s hs; exact ⟨h1, key h2⟩
    | some r =>
      rw [hf] at hs
      simp only at hs
      obtain ⟨h1, h2⟩ := h.loc t r hf
      cases hsuf : isSuf r.p p with
      | false => rw [hsuf] at hs; cases hs
      | true =>
        rw [hsuf] at hs
        cases hs
        rw [isSuf_cond hsuf hc] at h2
        exact ⟨h1, key h2⟩
  | const v => simp only [evR, Option.some.injEq] at hs; subst hs; exact ⟨rfl, rfl⟩
  | global g => simp only [evR, Option.some.injEq] at hs; subst hs; exact ⟨rfl, rfl⟩
  | func f => simp only [evR, Option.some.injEq] at hs; subst hs; exact ⟨rfl, rfl⟩
theorem AgR.evalP (h : AgR ds ρ n e R a) {p : List (Nat × Bool)} (hc : condR R p = true) {c x y z : Operand} {q : Bool} (hq : a.eval c = .bool q) {s : SV} (hs : evP R e p q (.pick c x y) z = some s) :
    wf ρ.length s = true ∧ a.eval z = conc ρ s := by
  have h0 := h.eval hc
  cases c with
  | tmp t =>
    simp only [evP] at hs
    cases hf : firstR R t with
    | none => rw [hf] at hs; exact h0 z s hs
    | some r =>
      rw [hf] at hs
      simp only at hs
      cases hz : evR R e p z with
      | some s' => rw [hz] at hs; simp only [orE, Option.some.injEq] at hs; subst hs; exact h0 z _ hz
      | none =>
        rw [hz] at hs
        simp only [orE] at hs
        obtain ⟨h1, h2⟩ := h.loc t r hf
        have hv : (bif condR R r.p then conc ρ r.sv else undef) = .bool q := by
          have : a.eval (.tmp t) = (bif condR R r.p then conc ρ r.sv else undef) := by simp [Act.eval, Array.getD_eq_getD_getElem?, h2]
          rw [← this]; exact hq
        have hcond : condR R ((t, q) :: r.p) = true := by
          cases hcr : condR R r.p with
          | false => rw [hcr] at hv; simp [undef] at hv
          | true =>
            rw [hcr] at hv
            simp only [cond_true] at hv
            simp only [condR, hcr, Bool.true_and]
            have hb : entB R t = some q := by
              unfold entB
              rw [hf]
              simp only
              cases hsv : r.sv with
              | v y => rw [hsv] at hv; simp only [conc] at hv; subst hv; rfl
              | p k off => rw [hsv] at hv; simp [conc] at hv
              | a l => rw [hsv] at hv; simp [conc] at hv
              | t l => rw [hsv] at hv; simp [conc] at hv
              | f g u v => rw [hsv] at hv; simp [conc] at hv
            rw [hb]
            cases q <;> rfl
        exact h.eval hcond z s hs
  | _ => exact h0 z s hs
theorem opE_look {ev : Operand → Option SV} : ∀ (l : List Nat) (t : Nat) (v : Value), look (opE ρ ev l) t = some v → ∃ s, ev (.tmp t) = some s ∧ v = conc ρ s := by
  intro l
  induction l with
  | nil => intro t v h; cases h
  | cons u r ih =>
    intro t v h
    simp only [opE] at h
    cases hu : ev (.tmp u) with
    | none => rw [hu] at h; exact ih t v h
    | some s =>
      rw [hu] at h
      rw [look_cons] at h
      by_cases hut : u = t
      · subst hut; rw [if_pos rfl] at h; cases h; exact ⟨s, hu, rfl⟩
      · rw [if_neg hut] at h; exact ih t v h
theorem AgR.opE (h : AgR ds ρ n e R a) {p : List (Nat × Bool)} (hc : condR R p = true) (l : List Nat) : AgT n (opE ρ (evR R e p) l) a := by
  refine ⟨h.size, fun t v ht => ?_⟩
  obtain ⟨s, hs, rfl⟩ := opE_look l t v ht
  simp only [evR] at hs
  cases hf : firstR R t with
  | none => rw [hf] at hs; exact (h.base t hf s hs).2
  | some r =>
    rw [hf] at hs
    simp only at hs
    cases hsuf : isSuf r.p p with
    | false => rw [hsuf] at hs; cases hs
    | true =>
      rw [hsuf] at hs
      cases hs
      have := (h.loc t r hf).2
      rwa [isSuf_cond hsuf hc] at this
theorem guardOf_spec (h : AgR ds ρ n e R a) {ops : List Oper} {j : Nat} {q : Bool} : (∀ p, guardOf ops R j q = .go p → (∀ x ∈ p, (entB R x.1).isSome = true) ∧ ((yielded ops.toArray a.tmps j = some q) ↔ condR R p = true)) ∧
    (∀ p, guardOf ops R j q = .skip p → (∀ x ∈ p, (entB R x.1).isSome = true) ∧ yielded ops.toArray a.tmps j = none) := by
  unfold guardOf
  cases ho : ops[j]? with
  | none => simp
  | some o =>
    simp only
    cases hd : o.dst with
    | none => simp
    | some t =>
      simp only
      cases hf : firstR R t with
      | none => simp
      | some r =>
        simp only
        obtain ⟨h1, h2⟩ := h.loc t r hf
        have hy : yielded ops.toArray a.tmps j = match a.tmps[t]? with | some (.bool b) => some b | _ => none := by
          simp [yielded, ho, hd]
          rfl
        rw [h2] at hy
        have hpaths := h.paths t r hf
        unfold guardE
        split
        · rename_i b hsv
          refine ⟨fun p hp => ?_, fun p hp => by simp at hp⟩
          simp only [GR.go.injEq] at hp
          subst hp
          have hb : entB R t = some b := by unfold entB; rw [hf]; simp only; rw [hsv]; rfl
          refine ⟨fun x hx => ?_, ?_⟩
          · rcases List.mem_cons.1 hx with rfl | hx
            · show (entB R t).isSome = true; rw [hb]; rfl
            · exact hpaths x hx
          · rw [hy]
            simp only [condR, hb, hsv, conc]
            cases condR R r.p <;> cases b <;> cases q <;> simp [undef]
        · rename_i b hsv
          refine ⟨fun p hp => by simp at hp, fun p hp => ?_⟩
          simp only [GR.skip.injEq] at hp
          subst hp
          refine ⟨hpaths, ?_⟩
          rw [hy]
          simp only [hsv, conc]
          cases condR R r.p <;> simp [undef]
        · simp
theorem oneS_spec {s : SV} (h : oneS s = true) : (conc ρ s).oneCell' = true := by
  cases s <;> first | exact h | rfl | cases h
theorem store_box {P : Program} {g off sz : Nat} {us vs : List Value} {w : World} (hb : Box w g vs) (hn : us.length = sz) (hl : off + sz ≤ vs.length) (h1 : ∀ u ∈ us, u.oneCell' = true) :
    ∃ w', (storeCells ⟨g, off, none⟩ us).run P w = .ok () w' ∧ Upd g w w' ∧ (w'.heap.size = w.heap.size ∧ ∀ k t, tyAt w k t → tyAt w' k t) ∧ Box w' g (vs.take off ++ us ++ vs.drop (off + sz)) := by
  obtain ⟨w', hr, hu, hs, hB⟩ := run_storeCells_box (P := P) us off vs w hb (by omega) h1
  refine ⟨w', ?_, hu, hs, by rw [← hn]; exact hB⟩
  have off' : ∀ (us : List Value) (i : Nat) (w : World), (storeCells ⟨g, off, none⟩ us i).run P w = (storeCells ⟨g, 0, none⟩ us (off + i)).run P w := by
    intro us
    induction us with
    | nil => intro i w; simp [storeCells]
    | cons u r ih =>
      intro i w
      simp only [storeCells, Sem.run_bind, Addr.add_lit, Nat.zero_add]
      congr 1
      funext u' w'
      rw [ih, Nat.add_assoc]
  rw [off']; simpa using hr
def Runs1 (P : Program) (a : Act) (w : World) (o : Oper) (K : Value → World → Prop) : Prop := o.wp P a w (fun a' w' => ∃ v, a' = a.put o.dst v ∧ K v w') (fun _ _ _ => False)
theorem Runs1.of_does {K : Value → World → Prop} {v : Value} {o : Oper} (h : Does P a.eval w o v) (hk : K v w) : Runs1 P a w o K := by
  unfold Runs1 Oper.wp
  rw [h, Oper.upon_value]
  exact ⟨v, rfl, hk⟩
theorem Runs1.of_skip {K : Value → World → Prop} {w' : World} {o : Oper} (h : (execOp a.eval o).run P w = .ok .skip w') (hk : K undef w') : Runs1 P a w o K := by
  unfold Runs1 Oper.wp
  rw [h, Oper.upon_skip]
  exact ⟨undef, rfl, hk⟩
theorem Runs1.of_value {K : Value → World → Prop} {w' : World} {v : Value} {o : Oper} (h : (execOp a.eval o).run P w = .ok (.value v) w') (hk : K v w') : Runs1 P a w o K := by
  unfold Runs1 Oper.wp
  rw [h, Oper.upon_value]
  exact ⟨v, rfl, hk⟩
theorem Runs1.of_enter {K : Value → World → Prop} {o : Oper} {f : FuncId} {args : Array Value} (h : (execOp a.eval o).run P w = .ok (.enter f args) w) (hk : Runs P f args w K) : Runs1 P a w o K := by
  unfold Runs1 Oper.wp
  rw [h, Oper.upon_enter]
  refine Calls.mono hk ?_
  rintro ee w'' ⟨v, rfl, hv⟩
  exact ⟨v, rfl, hv⟩
theorem Runs1.mono {K K' : Value → World → Prop} {o : Oper} (h : Runs1 P a w o K) (hk : ∀ v w', K v w' → K' v w') : Runs1 P a w o K' :=
  Oper.wp_mono (fun _ _ ⟨v, hv, hK⟩ => ⟨v, hv, hk _ _ hK⟩) h
theorem put_clean {o : Oper} {v u : Value} (h : (Act.put { a with defers := [] } o.dst v) = (Act.put { a with defers := [] } o.dst u)) : a.put o.dst v = a.put o.dst u := by
  cases hd : o.dst with
  | none => rfl
  | some t =>
    rw [hd] at h
    simp only [Act.put, Act.mk.injEq] at h ⊢
    exact ⟨h.1, trivial⟩
theorem put_defer {o : Oper} {d : Deferred} {v u : Value} {b : Act} (h : (Act.put { b with defers := d :: b.defers } o.dst v) = b.put o.dst u) : False := by
  have h3 := congrArg Act.defers h
  cases hd : o.dst <;> simp [Act.put, hd] at h3
theorem Runs1.clean {K : Value → World → Prop} {o : Oper} (h : Runs1 P { a with defers := [] } w o K) : Runs1 P a w o K := by
  unfold Runs1 Oper.wp at *
  have e : (execOp (Act.eval { a with defers := [] }) o) = execOp a.eval o := rfl
  rw [e] at h
  generalize (execOp a.eval o).run P w = q at *
  cases q with
  | ok x w' =>
    cases x with
    | value v => obtain ⟨u, h1, h2⟩ := h; exact ⟨u, put_clean h1, h2⟩
    | skip => obtain ⟨u, h1, h2⟩ := h; exact ⟨u, put_clean h1, h2⟩
    | defer d => obtain ⟨u, h1, h2⟩ := h; exact (put_defer (b := { a with defers := [] }) h1).elim
    | enter f args =>
      refine Calls.mono h ?_
      intro e w'' he
      cases e with
      | returned v => obtain ⟨u, h1, h2⟩ := he; exact ⟨u, put_clean h1, h2⟩
      | panicked ch => exact he
      | outgrown => exact he
    | row r args =>
      refine Rows.mono h ?_
      rintro v w'' ⟨u, h1, h2⟩; exact ⟨u, put_clean h1, h2⟩
    | _ => exact h
  | halt x w' => cases x <;> exact h
theorem OpT.at {K : Value → World → Prop} {o : Oper} {e : Env} (h : OpT P e w o K) (ha : AgT n e a) : Runs1 P a w o K :=
  Runs1.clean (h n { a with defers := [] } ⟨rfl, ha.1, ha.2⟩)
def Wf (r : Option Nat) : Fence := { Fence.wide with round := r }
theorem Runs1.wpIn {K : Value → World → Prop} {o : Oper} {next : Act → World → Prop} {Q : Exit → Act → World → Prop} (h : Runs1 P a w o K) (hk : ∀ v w', K v w' → next (a.put o.dst v) w') : o.wpIn (Wf r0) N P a w next Q := by
  have hd : ∀ c, o.op ≠ .defer c := by
    intro c hc
    unfold Runs1 Oper.wp at h
    have e : execOp a.eval o = (do pure (.defer (← resolve a.eval c o.type)) : Sem Next) := by
      obtain ⟨d, op, t, pos, af, g⟩ := o
      simp only at hc
      subst hc
      rfl
    rw [e, Sem.run_bind] at h
    generalize (resolve a.eval c o.type).run P w = q at h
    cases q with
    | ok x w' =>
      simp only [Result.andThen_ok, Sem.run_pure, Oper.upon] at h
      obtain ⟨u, h1, _⟩ := h
      exact put_defer h1
    | halt x w' => cases x <;> exact h
  refine ⟨fun f _ => trivial, ?_⟩
  rw [Oper.semAt_eq _ _ _ hd]
  unfold Runs1 Oper.wp at h
  generalize (execOp a.eval o).run P w = q at *
  cases q with
  | ok x w' =>
    cases x with
    | value v => obtain ⟨u, h1, h2⟩ := h; show next _ _; rw [h1]; exact hk _ _ h2
    | skip => obtain ⟨u, h1, h2⟩ := h; show next _ _; rw [h1]; exact hk _ _ h2
    | defer d => obtain ⟨u, h1, h2⟩ := h; exact (put_defer h1).elim
    | enter f args =>
      refine ⟨fun hh => by simp [Wf, Fence.wide] at hh, ?_⟩
      refine (callsIn_wide (n := N - 1)).2 (Calls.mono h ?_)
      intro e w'' he
      cases e with
      | returned v => obtain ⟨u, h1, h2⟩ := he; show next _ _; rw [h1]; exact hk _ _ h2
      | panicked ch => exact he.elim
      | outgrown => obtain ⟨_, _, hq⟩ := he; exact hq.elim
    | row r args =>
      refine ⟨fun hh => by simp [Wf, Fence.wide] at hh, ?_⟩
      intro c cs _
      obtain ⟨v, w'', ⟨u, h1, h2⟩, s⟩ := h c cs
      exact ⟨v, w'', by show next _ _; rw [h1]; exact hk _ _ h2, stepsIn_wide.2 s⟩
    | _ => exact h.elim
  | halt x w' => cases x <;> exact h.elim
theorem Lands.stay {k : SV → List Nat → Heap → World → Prop} {s : SV} (hs : wf ρ.length s = true) (hH : Holds ρ H w) (hk : k s ρ H w) : Lands ρ k (conc ρ s) w :=
  ⟨s, [], H, by rw [List.append_nil], by rw [List.append_nil]; exact hs, by rw [List.append_nil]; exact hH, by rw [List.append_nil]; exact hk⟩
variable {o : Oper} {k : SV → List Nat → Heap → World → Prop} {ev : Operand → Option SV}
theorem vGen_sound (hag : ∀ l, AgT n (opE ρ ev l) a) (h : vGen C o ev ρ w k) : Runs1 C.P a w o (Lands ρ k) := h.at (hag _)
theorem run_callVal {P : Program} {a : Operand → Value} {x : Operand} {f : FuncId} {first captured : Array Value} {args : Array Operand} {ats : Array TypeId} {d t pos af g} {us : List Value} {w : World} (hf : EntersAt P f) (hx : a x = .func (.func f) first captured)
    (ha : args.toList.map a = us) : (execOp a ⟨d, .call ⟨.value x, args, ats⟩, t, pos, af, g⟩).run P w = .ok (.enter f (first ++ us.toArray ++ captured)) w := by
  have hm : args.map a = us.toArray := by
    subst ha
    obtain ⟨l⟩ := args
    simp
  simp [execOp, resolve, Deferred.ofValue, hx, hm, invoke, hf]
theorem vCall_sound (hC : C.Ok) (ht : Tells ρ ev a.eval) (hag : ∀ l, AgT n (opE ρ ev l) a) {x : Operand} {args : Array Operand} {ats : Array TypeId} (ho : o.op = .call ⟨.value x, args, ats⟩) (h : vCall C o ev x args.toList ρ w k) : Runs1 C.P a w o (Lands ρ k) := by
  unfold vCall at h
  split at h
  · rename_i g fs cs us hx hus
    cases hm : nmem C.fns g with
    | false => rw [hm] at h; exact vGen_sound hag h
    | true =>
      rw [hm] at h
      obtain ⟨_, h1⟩ := ht x _ hx
      obtain ⟨h2, _⟩ := evL_spec ht hus
      obtain ⟨d, op, t, pos, af, gd⟩ := o
      simp only at ho
      subst ho
      refine Runs1.of_enter (run_callVal (hC.fns.get hm) (show a.eval x = .func (.func g) ⟨concs ρ fs⟩ ⟨concs ρ cs⟩ from h1) h2) ?_
      simp only [cond_true, concs_append] at h
      simpa using h
  · exact vGen_sound hag h
theorem vStore_sound (hC : C.Ok) (ht : Tells ρ ev a.eval) (hag : ∀ l, AgT n (opE ρ ev l) a) (hH : Holds ρ H w) {t : Nat} {x y : Operand} (ho : o.op = .store t x y) (h : vStore C o ev t x y ρ H w k) : Runs1 C.P a w o (Lands ρ k) := by
  unfold vStore at h
  split at h
  · rename_i b off s td hx hy hd
    split at h
    · rename_i cs hcs
      split at h
      · rename_i cs' hput
        obtain ⟨_, h1⟩ := ht x _ hx
        obtain ⟨hw2, h2⟩ := ht y _ hy
        have hsz := (hC.tab.get hd).size
        unfold putCells at hput
        split at hput
        · rename_i us hus
          cases hc : (Nat.beq us.length td.size && Nat.ble (off + td.size) cs.length && us.all oneS) with
          | false => rw [hc] at hput; cases hput
          | true =>
            rw [hc] at hput
            simp only [cond_true, Option.some.injEq] at hput
            simp only [Bool.and_eq_true] at hc
            obtain ⟨⟨c1, c2⟩, c3⟩ := hc
            have c1' := Nat.eq_of_beq_eq_true c1
            have c2' := Nat.le_of_ble_eq_true c2
            obtain ⟨e1, e2⟩ := cellsS_spec (ρ := ρ) hus hw2
            obtain ⟨hbl, hwc⟩ := hH.ok b cs hcs
            obtain ⟨w', hr, hu, hs, hB⟩ := store_box (P := C.P) (us := concs ρ us) (sz := td.size) (off := off) (hH.box b cs hcs) (by rw [concs_length, c1']) (by rw [concs_length]; exact c2') (by
              intro u hu
              obtain ⟨i, hi, hiu⟩ := List.mem_iff_getElem.1 hu
              have := concs_get ρ us i
              rw [List.getElem?_eq_getElem hi, hiu] at this
              cases hsi : us[i]? with
              | none => rw [hsi] at this; cases this
              | some s' =>
                rw [hsi] at this
                cases this
                exact oneS_spec (List.all_eq_true.1 c3 s' (List.mem_of_getElem? hsi)))
            rw [← concs_take, ← concs_drop, ← concs_append, ← concs_append, hput] at hB
            have hw' : wfs ρ.length cs' = true := by rw [← hput]; exact wfs_append (wfs_append (wfs_take hwc _) e2) (wfs_drop hwc _)
            have hH' := hH.upd hcs hu hB hw'
            obtain ⟨d, op, t', pos, af, gd⟩ := o
            simp only at ho
            subst ho
            refine Runs1.of_skip (w' := w') ?_ ?_
            · simp only [conc] at h1
              have e3 : (conc ρ s).cells.toList.length = td.size := by rw [e1, concs_length, c1']
              have e4 : (conc ρ s).cells.size = td.size := by simpa using e3
              simp [execOp, h1, h2, Instr.storeAt, Instr.sureAddr, storeVar, hsz w, e1, e4, hr]
            · exact Lands.stay (s := .v undef) rfl hH' (by have := h w' hu hs hH'; rwa [fH_eq] at this)
        · cases hput
      · exact vGen_sound hag h
    · exact vGen_sound hag h
  · exact vGen_sound hag h
theorem vMove_sound (hC : C.Ok) (ht : Tells ρ ev a.eval) (hag : ∀ l, AgT n (opE ρ ev l) a) (hH : Holds ρ H w) (h : vMove C o ev ρ H w k) : Runs1 C.P a w o (Lands ρ k) := by
  have boxed : ∀ {cs : List SV} {v : Value} {u : Nat}, v.cells.toList = concs ρ cs → wfs ρ.length cs = true → (execOp a.eval o).run C.P w = .ok (.value (.pointer (some ⟨w.heap.size, 0, none⟩))) (w.alloc (.cells v.cells u)) →
      (∀ g w', g = w.heap.size → Ext w w' → (w'.heap.size = w.heap.size + 1 ∧ tyAt w' g u) → Holds (ρ ++ [g]) (H ++ [(ρ.length, cs)]) w' → k (.p ρ.length 0) (ρ ++ [g]) (H ++ [(ρ.length, cs)]) w') → Runs1 C.P a w o (Lands ρ k) := by
    intro cs v u e1 e2 hr hk
    have hB : Box (w.alloc (.cells v.cells u)) w.heap.size (concs ρ cs) := by
      have := Box.new w u v.cells.toList
      rw [e1] at this
      have e3 : v.cells = (concs ρ cs).toArray := by rw [← e1]
      rw [e3]; exact this
    have hH' := hH.new (g := w.heap.size) rfl (Ext.alloc _ _) (by simp) hB e2
    refine Runs1.of_value hr ⟨.p ρ.length 0, [w.heap.size], _, by simp only [conc, adr_new], by simp [wf], hH', hk _ _ rfl (Ext.alloc _ _) ⟨by simp, _, _, heap_alloc_new w _⟩ hH'⟩
  unfold vMove at h
  split at h
  · rename_i u x ho
    split at h
    · rename_i s hs
      split at h
      · rename_i cs hcs
        obtain ⟨h1, h2⟩ := ht x s hs
        obtain ⟨e1, e2⟩ := cellsS_spec (ρ := ρ) hcs h1
        simp only [fR_eq, fH_eq] at h
        refine boxed (v := conc ρ s) (u := u) e1 e2 ?_ h
        obtain ⟨d, op, t', pos, af, gd⟩ := o
        simp only at ho
        subst ho
        simp [execOp, h2, Instr.box, newVar, newRow]
      · exact vGen_sound hag h
    · exact vGen_sound hag h
  · rename_i t ho
    split at h
    · rename_i td hd
      obtain ⟨z, hz, hzz⟩ := (hC.tab.get hd).zero
      have e : ∀ l' : List Value, concs ρ (l'.map .v) = l' ∧ wfs ρ.length (l'.map .v) = true := by
        intro l'
        induction l' with
        | nil => exact ⟨rfl, rfl⟩
        | cons y r ih => exact ⟨by simp only [List.map_cons, concs, conc, ih.1], by simp only [List.map_cons, wfs, wf, ih.2]; rfl⟩
      simp only [fR_eq, fH_eq] at h
      refine boxed (v := z) (u := t) (by rw [hzz, (e _).1]) (e _).2 ?_ h
      obtain ⟨d, op, t', pos, af, gd⟩ := o
      simp only at ho
      subst ho
      simp [execOp, Instr.alloc, hz w, newVar, newRow]
    · exact vGen_sound hag h
  · rename_i t x y ho; exact vStore_sound hC ht hag hH ho h
  · rename_i x args ats ho; exact vCall_sound hC ht hag ho h
  · exact vGen_sound hag h
end
end Go.Proofs.Bw

/-
  Code of a function, by a program: what it leaves to be shown.
-/
namespace Go.Proofs.Bw
open Go Go.RowKit
section
variable {ds : List Deferred} {r0 : Option Nat} {N : Nat} {ρ : List Nat} {n : Nat} {e : SEnv} {R : List RE} {H : Heap} {w : World} {a : Act} {C : Cx} {o : Oper} {k : SV → List Nat → Heap → World → Prop}
theorem vDet_sound (hC : C.Ok) {ev : Operand → Option SV} (ht : Tells ρ ev a.eval) (hag : ∀ l, AgT n (opE ρ ev l) a) {x : Value} (h : vDet C o ev ρ w x) : Runs1 C.P a w o (fun v w' => v = x ∧ Ext w w') := by
  unfold vDet at h
  split at h
  · rename_i g args ats ho
    split at h
    · rename_i g' fs cs us hx hus
      cases hm : nmem C.fns g' with
      | false => rw [hm] at h; exact h.at (hag _)
      | true =>
        rw [hm] at h
        obtain ⟨_, h1⟩ := ht g _ hx
        obtain ⟨h2, _⟩ := evL_spec ht hus
        obtain ⟨d, op, t, pos, af, gd⟩ := o
        simp only at ho
        subst ho
        refine Runs1.of_enter (run_callVal (hC.fns.get hm) (show a.eval g = .func (.func g') ⟨concs ρ fs⟩ ⟨concs ρ cs⟩ from h1) h2) ?_
        simp only [cond_true, concs_append] at h
        simpa using h
    · exact h.at (hag _)
  · exact h.at (hag _)
theorem vOp_sound (hC : C.Ok) {p : List (Nat × Bool)} (ha : AgR ds ρ n e R a) (hH : Holds ρ H w) (h : vOp C o p R e ρ H w k) :
    (condR R p = true → Runs1 C.P a w o (Lands ρ k)) ∧ (condR R p = false → ∃ s, wf ρ.length s = true ∧ k s ρ H w) := by
  unfold vOp at h
  have good : condR R p = true → (pev C (evR R e p) (evP R e p true o.op) (evP R e p false o.op) H o.op).Good C.P ρ a.eval w o := fun hc =>
    pev_good hC (ha.eval hc) hH (fun c x y hop hcv s hs => by rw [hop] at hs; exact ha.evalP hc hcv hs) (fun c x y hop hcv s hs => by rw [hop] at hs; exact ha.evalP hc hcv hs)
  have chk_of : ∀ {b : Bool} {q : Prop}, chk b q → b = true ∧ q := by
    intro b q hh
    cases b with
    | true => exact ⟨rfl, hh⟩
    | false => exact hh.elim
  split at h
  · rename_i s hs
    rw [hs] at good
    obtain ⟨hw, hk⟩ := chk_of h
    refine ⟨fun hc => ?_, fun _ => ⟨s, hw, hk⟩⟩
    exact Runs1.of_does (good hc).2 (Lands.stay hw hH hk)
  · rename_i q s hs
    rw [hs] at good
    obtain ⟨hq, h⟩ := h
    obtain ⟨hw, hk⟩ := chk_of h
    refine ⟨fun hc => ?_, fun _ => ⟨s, hw, hk⟩⟩
    exact Runs1.of_does ((good hc).2 (pathImp_iff R p q hq hc)) (Lands.stay hw hH hk)
  · split at h
    · refine ⟨fun hc => vMove_sound hC (ha.eval hc) (ha.opE hc) hH h, fun hc => by simp [condR] at hc⟩
    · rename_i x r _
      rcases h with ⟨v0, h1, h2⟩ | ⟨h1, h2⟩
      · refine ⟨fun hc => ?_, fun _ => ⟨.v v0, rfl, h2 w (Ext.refl w) hH⟩⟩
        refine (vDet_sound hC (ha.eval hc) (ha.opE hc) (pathImp_iff R _ _ h1 hc)).mono ?_
        rintro _ w' ⟨rfl, hx⟩
        exact Lands.stay rfl (hH.ext hx) (h2 w' hx (hH.ext hx))
      · exact ⟨fun hc => vMove_sound hC (ha.eval hc) (ha.opE hc) hH (h1 hc), fun hc => ⟨.v undef, rfl, h2 hc⟩⟩
theorem endE_look (R : List RE) (e : SEnv) : ∀ (live : List Nat) (t : Nat) (s : SV), lookS (endE R e live) t = some s → (∃ r, firstR R t = some r ∧ r.p = [] ∧ r.sv = s) ∨ (firstR R t = none ∧ lookS e t = some s) := by
  intro live
  induction live with
  | nil => intro t s h; simp [endE, lookS] at h
  | cons u l ih =>
    intro t s h
    have cons : ∀ (v : SV), lookS ((u, v) :: endE R e l) t = some s → (u = t ∧ v = s) ∨ lookS (endE R e l) t = some s := by
      intro v hv
      simp only [lookS] at hv
      by_cases hut : u = t
      · subst hut; rw [beq_self] at hv; cases hv; exact .inl ⟨rfl, rfl⟩
      · rw [beq_ne hut] at hv; exact .inr hv
    simp only [endE] at h
    cases hf : firstR R u with
    | none =>
      rw [hf] at h
      simp only at h
      cases hl : lookS e u with
      | none => rw [hl] at h; exact ih t s h
      | some v =>
        rw [hl] at h
        rcases cons v h with ⟨rfl, rfl⟩ | h
        · exact .inr ⟨hf, hl⟩
        · exact ih t s h
    | some r =>
      rw [hf] at h
      simp only at h
      split at h
      · rename_i hp
        rcases cons r.sv h with ⟨rfl, rfl⟩ | h
        · exact .inl ⟨r, hf, hp, rfl⟩
        · exact ih t s h
      · exact ih t s h
theorem AgR.close (h : AgR ds ρ n e R a) (live : List Nat) : AgS ds ρ n (endE R e live) a := by
  refine ⟨h.defers, h.size, fun t s hs => ?_⟩
  rcases endE_look R e live t s hs with ⟨r, h1, h2, h3⟩ | ⟨h1, h2⟩
  · obtain ⟨h4, h5⟩ := h.loc t r h1
    rw [h2, h3] at h5
    rw [h3] at h4
    exact ⟨h4, h5⟩
  · exact h.base t h1 s h2
def Goes (ds : List Deferred) (ρ : List Nat) (n : Nat) (K : KC) (Q : Act → World → Prop) : Prop := ∀ e' l H' a' w', AgS ds (ρ ++ l) n e' a' → Holds (ρ ++ l) H' w' → K e' (ρ ++ l) H' w' → Q a' w'
theorem Goes.app {K : KC} {Q : Act → World → Prop} (h : Goes ds ρ n K Q) (l : List Nat) : Goes ds (ρ ++ l) n K Q := fun e' l' H' a' w' h1 h2 h3 => by
  rw [List.append_assoc] at h1 h2 h3
  exact h e' (l ++ l') H' a' w' h1 h2 h3
theorem vOps_sound (hC : C.Ok) {live : List Nat} {ops : List Oper} {K : KC} {Q : Exit → Act → World → Prop} : ∀ (l : List Oper) (R : List RE) (ρ : List Nat) (H : Heap) (a : Act) (w : World), Goes ds ρ n K (Q .normal) → AgR ds ρ n e R a → Holds ρ H w →
    vOps C n live ops K l R e ρ H w → wpListIn (Wf r0) N C.P ops.toArray Q l a w := by
  intro l
  induction l with
  | nil =>
    intro R ρ H a w hQ ha hH h
    have := hQ (endE R e live) [] H a w (by rw [List.append_nil]; exact ha.close live) (by rw [List.append_nil]; exact hH) (by rw [List.append_nil]; simp only [vOps_nil, fE_eq] at h; exact h)
    exact this
  | cons o r ih =>
    intro R ρ H a w hQ ha hH h
    rw [vOps_cons] at h
    unfold vStep at h
    cases hd : dstFree n R o.dst with
    | false => rw [hd] at h; exact h.elim
    | true =>
      rw [hd] at h
      simp only at h
      have step : ∀ (p : List (Nat × Bool)), (∀ x ∈ p, (entB R x.1).isSome = true) → condR R p = true →
          Runs1 C.P a w o (Lands ρ fun s ρ' H' w' => vOps C n live ops K r (⟨o.dst, p, s⟩ :: R) e ρ' H' w') → o.wpIn (Wf r0) N C.P a w (wpListIn (Wf r0) N C.P ops.toArray Q r) Q := by
        intro p hp hc h1
        refine Runs1.wpIn h1 ?_
        rintro v w' ⟨s, l, H', rfl, hw, hH', hk⟩
        have hst := (ha.app l).step hd hp hw
        rw [hc] at hst
        exact ih _ _ _ _ _ (hQ.app l) hst hH' hk
      cases hg : o.guard with
      | none =>
        rw [hg] at h
        obtain ⟨h1, _⟩ := vOp_sound hC ha hH h
        unfold wpListIn
        rw [if_pos (by simp [Region.wanted, hg])]
        exact (step [] (fun x hx => by cases hx) rfl (h1 rfl))
      | some jq =>
        obtain ⟨j, q⟩ := jq
        rw [hg] at h
        simp only at h
        obtain ⟨g1, g2⟩ := guardOf_spec (ops := ops) (j := j) (q := q) ha
        split at h
        · rename_i p hgo
          obtain ⟨hp, hy⟩ := g1 p hgo
          obtain ⟨h1, h2⟩ := vOp_sound hC ha hH h
          unfold wpListIn
          cases hc : condR R p with
          | true =>
            rw [if_pos (by simp [Region.wanted, hg, hy.2 hc])]
            exact (step p hp hc (h1 hc))
          | false =>
            have : ¬ yielded ops.toArray a.tmps j = some q := fun hh => by rw [hy.1 hh] at hc; cases hc
            rw [if_neg (by simp [Region.wanted, hg, this])]
            obtain ⟨s, hw, hk⟩ := h2 hc
            have hst := ha.step hd hp hw
            rw [hc] at hst
            exact ⟨fun f _ => trivial, ih _ _ _ _ _ hQ hst hH hk⟩
        · rename_i p hgo
          obtain ⟨hp, hy⟩ := g2 p hgo
          unfold wpListIn
          rw [if_neg (by simp [Region.wanted, hg, hy])]
          have hst := ha.step (s := .v undef) hd hp rfl
          have e1 : (bif condR R p then conc ρ (.v undef) else undef) = undef := by cases condR R p <;> rfl
          rw [e1] at hst
          exact ⟨fun f _ => trivial, ih _ _ _ _ _ hQ hst hH h⟩
        · exact h.elim
end
end Go.Proofs.Bw

/-
  A region that draws its order, by a program: some operations turn the world, one behind the other; the others only read, and are looked at as early as may be.
-/
namespace Go.Proofs.Bw
open Go Go.RowKit
def ahB (ah : List Nat) (i j : Nat) : Bool := (ah.getD i 0).testBit j
def allAh (ah : List Nat) (k : Nat) (l : List Nat) : Bool := l.all fun i => ahB ah k i
def pairB (ah : List Nat) (i j : Nat) : Bool := ahB ah i j || ahB ah j i
def namesB (ops : List Oper) (ah : List Nat) (i : Nat) (o : Oper) : Bool :=
  (namesOf ops o).all fun t => match writer ops 0 t with
    | some j => !Nat.beq i j && pairB ah i j
    | none => true
def notSel : Op → Bool
  | .select _ _ => false
  | _ => true
inductive OT where
  | nil : OT
  | one : Nat → OT → OT
  | alt : Nat → OT → Nat → OT → OT
def OT.mem (k : Nat) : OT → Bool
  | .nil => false
  | .one i r => Nat.beq k i || r.mem k
  | .alt i r j q => (Nat.beq k i || r.mem k) && (Nat.beq k j || q.mem k)
def OT.allT (p : Nat → Bool) : OT → Bool
  | .nil => true
  | .one i r => p i && r.allT p
  | .alt i r j q => (p i && r.allT p) && (p j && q.allT p)
def OT.heads : OT → List Nat
  | .nil => []
  | .one i _ => [i]
  | .alt i _ j _ => [i, j]
def opOk (ops : List Oper) (ah pre : List Nat) (i : Nat) : Bool :=
  (match ops[i]? with
    | some o => namesB ops ah i o && o.after.toList.all (fun e => !Region.binds .any e || nmem pre e.on) && notSel o.op
    | none => false) && !nmem pre i
def ordB (ops : List Oper) (ah : List Nat) (ch : List Nat) : OT → List Nat → Bool
  | .nil, _ => true
  | .one i r, pre => opOk ops ah pre i && (bif nmem ch i then r.allT (fun j => ahB ah j i) else true) && ordB ops ah ch r (i :: pre)
  | .alt i r j q, pre => (opOk ops ah pre i && nmem ch i && ordB ops ah ch r (i :: pre)) && (opOk ops ah pre j && nmem ch j && ordB ops ah ch q (j :: pre)) &&
      (r.allT (fun k => Nat.beq k j || (ahB ah k i || ahB ah k j)) && q.allT (fun k => Nat.beq k i || (ahB ah k i || ahB ah k j)))
def drwB (ops : List Oper) (ch : List Nat) (ord : OT) : Bool := dstsApart ops && edgesBack 0 ops && (List.range ops.length).all (fun k => ord.mem k) && ordB ops (aheadGo [] ops) ch ord []
def keepN (m : Nat) : Heap → Heap
  | [] => []
  | (k, c) :: r => bif Nat.blt k m then (k, c) :: keepN m r else keepN m r
def KM (S : Nat → Prop) (m : Nat) (ρ : List Nat) : Prop := (∀ k, ¬ S k) ∨ (m ≤ ρ.length ∧ ∀ i, i < m → ¬ S (adr ρ i))
def vStill (C : Cx) (S : Nat → Prop) (m : Nat) (o : Oper) (p : List (Nat × Bool)) (R : List RE) (e : SEnv) (ρ : List Nat) (H : Heap) (w : World) (k : SV → Prop) : Prop :=
  match pev C (evR R e p) (evP R e p true o.op) (evP R e p false o.op) (keepN m H) o.op with
  | .ok s => chk (wf ρ.length s) (k s)
  | .side q s => pathImp R p q ∧ chk (wf ρ.length s) (k s)
  | .no => ∃ s : SV, wf ρ.length s = true ∧ (∀ w', Bw.Mod S w w' → Holds ρ (keepN m H) w' → pathImp R p (OpT C.P (opE ρ (evR R e p) (looks o)) w' o fun x w'' => x = conc ρ s ∧ w'' = w')) ∧ k s
def vTurn (C : Cx) (S : Nat → Prop) (free : Bool) (o : Oper) (p : List (Nat × Bool)) (R : List RE) (e : SEnv) (ρ : List Nat) (H : Heap) (w : World) (k : SV → List Nat → Heap → World → Prop) : Prop :=
  match free with
  | true => vOp C o p R e ρ H w k
  | false => vOp C o p R e ρ H w fun s ρ' H' w' => Bw.Mod S w w' ∧ k s ρ' H' w'
def vDrStep (C : Cx) (S : Nat → Prop) (m : Nat) (n : Nat) (ops : List Oper) (ah ch : List Nat) (i : Nat) (ih : List Nat → List RE → SEnv → List Nat → Heap → World → Prop) (pre : List Nat) (R : List RE) (e : SEnv) (ρ : List Nat) (H : Heap) (w : World) : Prop :=
  match ops[i]? with
    | none => False
    | some o => match dstFree n R o.dst with
      | false => False
      | true => match nmem ch i with
        | true => match o.guard with
          | none => vTurn C S (allAh ah i pre) o [] R e ρ H w fun s ρ' H' w' => ih (i :: pre) (⟨o.dst, [], s⟩ :: R) e ρ' H' w'
          | some (j, q) => match guardOf ops R j q with
            | .go p => vTurn C S (allAh ah i pre) o p R e ρ H w fun s ρ' H' w' => ih (i :: pre) (⟨o.dst, p, s⟩ :: R) e ρ' H' w'
            | .skip p => ih (i :: pre) (⟨o.dst, p, .v undef⟩ :: R) e ρ H w
            | .no => False
        | false => match o.guard with
          | none => vStill C S m o [] R e ρ H w fun s => ih (i :: pre) (⟨o.dst, [], s⟩ :: R) e ρ H w
          | some (j, q) => match guardOf ops R j q with
            | .go p => vStill C S m o p R e ρ H w fun s => ih (i :: pre) (⟨o.dst, p, s⟩ :: R) e ρ H w
            | .skip p => ih (i :: pre) (⟨o.dst, p, .v undef⟩ :: R) e ρ H w
            | .no => False
def vDr (C : Cx) (S : Nat → Prop) (m : Nat) (n : Nat) (live : List Nat) (ops : List Oper) (ah ch : List Nat) (K : KC) (l : OT) : List Nat → List RE → SEnv → List Nat → Heap → World → Prop :=
  @OT.rec (fun _ => List Nat → List RE → SEnv → List Nat → Heap → World → Prop) (fun _ R e ρ H w => fE (endE R e live) fun e' => K e' ρ H w) (fun i _ ih => vDrStep C S m n ops ah ch i ih)
    (fun i _ j _ ih ih' => fun pre R e ρ H w => vDrStep C S m n ops ah ch i ih pre R e ρ H w ∧ vDrStep C S m n ops ah ch j ih' pre R e ρ H w) l
theorem vDr_nil {C : Cx} {S : Nat → Prop} {m : Nat} {n : Nat} {live : List Nat} {ops : List Oper} {ah ch : List Nat} {K : KC} {pre : List Nat} {R : List RE} {e : SEnv} {ρ : List Nat} {H : Heap} {w : World} :
    vDr C S m n live ops ah ch K .nil pre R e ρ H w = fE (endE R e live) fun e' => K e' ρ H w := rfl
theorem vDr_cons {C : Cx} {S : Nat → Prop} {m : Nat} {n : Nat} {live : List Nat} {ops : List Oper} {ah ch : List Nat} {K : KC} {i : Nat} {r : OT} {pre : List Nat} {R : List RE} {e : SEnv} {ρ : List Nat} {H : Heap} {w : World} :
    vDr C S m n live ops ah ch K (.one i r) pre R e ρ H w = vDrStep C S m n ops ah ch i (vDr C S m n live ops ah ch K r) pre R e ρ H w := rfl
def vDrwO (C : Cx) (n : Nat) (live : List Nat) (ops : List Oper) (K : KC) (e : SEnv) (ρ : List Nat) (H : Heap) (w : World) : Prop :=
  ∃ ch ord, ∃ (S : Nat → Prop) (m : Nat), KM S m ρ ∧ drwB ops ch ord = true ∧ ∀ w', Ext w w' → Holds ρ H w' → vDr C S m n live ops (aheadGo [] ops) ch K ord [] [] e ρ H w'
/-! ### any order at once: each operation told by what its names are -/
def flR (ops : List Oper) (vs : Nat → Value) : List Nat → List RE
  | [] => []
  | t :: l => match writer ops 0 t with
    | some j => ⟨some t, [], .v (vs j)⟩ :: flR ops vs l
    | none => flR ops vs l
def flE (ops : List Oper) : SEnv → SEnv
  | [] => []
  | (t, s) :: r => match writer ops 0 t with
    | some _ => flE ops r
    | none => (t, s) :: flE ops r
def flF (ops : List Oper) (q : Nat → Prop) (G : Prop) : List Nat → Prop
  | [] => G
  | t :: l => match writer ops 0 t with
    | some j => q j → flF ops q G l
    | none => flF ops q G l
def flS (ops : List Oper) (Rs : Nat → Nat → Prop) (w w' : World) : List Nat → Nat → Prop
  | [], k => w.heap.size ≤ k ∧ k < w'.heap.size
  | t :: l, k => match writer ops 0 t with
    | some j => Rs j k ∨ flS ops Rs w w' l k
    | none => flS ops Rs w w' l k
def flZ (ops : List Oper) : List SV → List RE
  | [] => []
  | s :: r => match ops with
    | [] => []
    | o :: q => match o.dst with
      | some d => ⟨some d, [], s⟩ :: flZ q r
      | none => flZ q r
def isEx : Op → Bool
  | .extract _ _ => true
  | _ => false
def lateB (ops : List Oper) (z q : Nat) : Bool := Nat.blt q z && match ops[q]? with
  | some o => isEx o.op && o.dst.isSome
  | none => false
def unlook (ops : List Oper) (o : Oper) (q : Nat) : Bool := match ops[q]? with
  | some p => match p.dst with
    | some d => !nmem (looks o) d
    | none => false
  | none => false
def allB (ops : List Oper) (ah : List Nat) (z : Nat) (o : Oper) (i : Nat) : Nat → Bool
  | 0 => true
  | k + 1 => (ahB ah i k || (lateB ops z k && unlook ops o k)) && allB ops ah z o i k
def flOk (ops : List Oper) (ah : List Nat) (n z i : Nat) : Bool :=
  match ops[i]? with
  | some o => (match Nat.blt i z with
      | true => (namesOf ops o).all (fun t => match writer ops 0 t with
        | some j => ahB ah i j && Nat.blt j i && Nat.beq (Nat.land (ah.getD j 0) (ah.getD i 0)) (ah.getD j 0) && !lateB ops z j
        | none => true)
      | false => allB ops ah z o i i) && notSel o.op && dstOk n o.dst && (match o.guard with | none => true | some _ => false)
  | none => false
def flowB (ops : List Oper) (n z : Nat) : Bool := dstsApart ops && edgesBack 0 ops && Nat.blt z ops.length && (List.range ops.length).all (flOk ops (aheadGo [] ops) n z)
def flStep (C : Cx) (ops : List Oper) (p : Nat → (Nat → Prop) → Value → World → Prop) (e : SEnv) (ρ : List Nat) (H : Heap) (w : World) (i : Nat) (o : Oper) : Prop :=
  ∀ (vs : Nat → Value) (Rs : Nat → Nat → Prop) (w' : World), Ext w w' → Holds ρ H w' → (∀ j k, Rs j k → w.heap.size ≤ k ∧ k < w'.heap.size) →
    flF ops (fun j => p j (Rs j) (vs j) w') (vOp C o [] (flR ops vs (looks o)) (flE ops e) ρ H w' fun s ρ' _ w'' => Ext w' w'' ∧ p i (flS ops Rs w' w'' (looks o)) (conc ρ' s) w'') (looks o)
def flCum (ops : List Oper) (Os : Nat → Nat → Prop) (i : Nat) : Nat → Prop := fun k => ∃ q, (q = i ∨ ahB (aheadGo [] ops) i q = true) ∧ Os q k
def flEnd (C : Cx) (n : Nat) (live : List Nat) (ops : List Oper) (K : KC) (p : Nat → (Nat → Prop) → Value → World → Prop) (e : SEnv) (ρ : List Nat) (H : Heap) (w : World) (z : Nat) (rest : List Oper) : Prop :=
  ∀ (vs : Nat → Value) (Os : Nat → Nat → Prop) (w' : World), Ext w w' → Holds ρ H w' → (∀ j, j < z → p j (flCum ops Os j) (vs j) w') → (∀ j k, Os j k → w.heap.size ≤ k ∧ k < w'.heap.size) → (∀ i j, i ≠ j → ∀ k, Os i k → ¬ Os j k) →
    ∃ (l : List Nat) (H' : Heap) (svs : List SV), Holds (ρ ++ l) H' w' ∧ wfs (ρ ++ l).length svs = true ∧ concs (ρ ++ l) svs = (List.range z).map vs ∧
      vOps C n live ops K rest (flZ ops svs) (flE ops e) (ρ ++ l) H' w'
def flAll (C : Cx) (n : Nat) (live : List Nat) (ops : List Oper) (K : KC) (p : Nat → (Nat → Prop) → Value → World → Prop) (e : SEnv) (ρ : List Nat) (H : Heap) (w : World) (z : Nat) : Nat → List Oper → Prop
  | _, [] => True
  | i, o :: r => match Nat.beq i z with
    | true => flEnd C n live ops K p e ρ H w z (o :: r)
    | false => flStep C ops p e ρ H w i o ∧ flAll C n live ops K p e ρ H w z (i + 1) r
def vFlow (C : Cx) (n : Nat) (live : List Nat) (ops : List Oper) (K : KC) (e : SEnv) (ρ : List Nat) (H : Heap) (w : World) : Prop :=
  ∃ (z : Nat) (p : Nat → (Nat → Prop) → Value → World → Prop), flowB ops n z = true ∧ (∀ i R R' v w w', (∀ k, R k → R' k) → Ext w w' → p i R v w → p i R' v w') ∧
    ∀ w', Ext w w' → Holds ρ H w' → flAll C n live ops K p e ρ H w' z 0 ops
def vDrw (C : Cx) (n : Nat) (live : List Nat) (ops : List Oper) (K : KC) (e : SEnv) (ρ : List Nat) (H : Heap) (w : World) : Prop :=
  vDrwO C n live ops K e ρ H w ∨ vFlow C n live ops K e ρ H w
/-! ### code -/
def mergeS (b : Bool) (x y : SV) : Option SV :=
  match x, y with
  | .v (.bool p), .v (.bool q) => some (.v (.bool (sel b p q)))
  | .v (.int k p), .v (.int k' q) => bif ikEq k k' then some (.v (.int k (bif b then p else q))) else none
  | _, _ => none
def writes : Code → List Nat
  | .region _ ops _ => ops.toList.filterMap (·.dst)
  | .seq a b => writes a ++ writes b
  | .cond _ a b => writes a ++ writes b
  | _ => []
def mergeE (b : Bool) (ws : List Nat) (e e1 e2 : SEnv) : List Nat → SEnv
  | [] => []
  | t :: l => match nmem ws t with
    | true => match lookS e1 t, lookS e2 t with
      | some x, some y => match mergeS b x y with
        | some s => (t, s) :: mergeE b ws e e1 e2 l
        | none => mergeE b ws e e1 e2 l
      | _, _ => mergeE b ws e e1 e2 l
    | false => match lookS e t with
      | some s => (t, s) :: mergeE b ws e e1 e2 l
      | none => mergeE b ws e e1 e2 l
def pOps (C : Cx) (n : Nat) (live : List Nat) (ops : List Oper) (e : SEnv) (m : Nat) (H : Heap) : List Oper → List RE → Option SEnv
  | [], R => fO (endE R e live)
  | o :: r, R => match dstFree n R o.dst with
    | false => none
    | true => match o.guard with
      | none => match pev C (evR R e []) (evP R e [] true o.op) (evP R e [] false o.op) H o.op with
        | .ok s => match wf m s with
          | true => pOps C n live ops e m H r (⟨o.dst, [], s⟩ :: R)
          | false => none
        | _ => none
      | some (j, q) => match guardOf ops R j q with
        | .go p => match pev C (evR R e p) (evP R e p true o.op) (evP R e p false o.op) H o.op with
          | .ok s => match wf m s with
            | true => pOps C n live ops e m H r (⟨o.dst, p, s⟩ :: R)
            | false => none
          | _ => none
        | .skip p => pOps C n live ops e m H r (⟨o.dst, p, .v undef⟩ :: R)
        | .no => none
def pCode (C : Cx) (n : Nat) (live : List Nat) (m : Nat) (H : Heap) : Code → SEnv → Option SEnv
  | .skip, e => some e
  | .label _, e => some e
  | .seq a b, e => match pCode C n live m H a e with
    | some e' => pCode C n live m H b e'
    | none => none
  | .region _ ops false, e => pOps C n live ops.toList e m H ops.toList []
  | .cond c x y, e => match evR [] e [] c with
    | some (.v (.bool b)) => match pCode C n live m H x e, pCode C n live m H y e with
      | some e1, some e2 => fO (mergeE b (writes x ++ writes y) e e1 e2 live)
      | _, _ => none
    | _ => none
  | _, _ => none
def esub : SEnv → SEnv → Prop
  | [], _ => True
  | (t, s) :: r, e => lookS e t = some s ∧ esub r e
def ewf (n : Nat) : SEnv → Bool
  | [] => true
  | (_, s) :: r => wf n s && ewf n r
def hwf (n : Nat) : Heap → Bool
  | [] => true
  | (k, c) :: r => Nat.blt k n && wfs n c && hwf n r
def kfind : List (Nat × KC) → Nat → Option KC
  | [], _ => none
  | (i, k) :: r, id => bif Nat.beq i id then some k else kfind r id
def vBranch (b : Bool) (X Y : Prop) : Prop := (b = true → X) ∧ (b = false → Y)
def vLoop (body : KC → KC) (e : SEnv) (ρ : List Nat) (H : Heap) (w : World) : Prop :=
  ∃ (σ : Type) (I : σ → SEnv) (G : σ → Heap) (F : σ → World → Prop) (μ : σ → Nat) (s0 : σ), (∀ s, ewf ρ.length (I s) = true ∧ hwf ρ.length (G s) = true) ∧ (esub (I s0) e ∧ hsub (G s0) H ∧ F s0 w) ∧
    ∀ s w', Holds ρ (G s) w' → F s w' → body (fun e' _ H' w'' => ∃ s', μ s' < μ s ∧ esub (I s') e' ∧ hsub (G s') H' ∧ F s' w'') (I s) ρ (G s) w'
def vJoin (body : KC → Prop) (k : KC) (ρ : List Nat) : Prop :=
  ∃ (σ : Type) (I : σ → SEnv) (G : σ → Heap) (F : σ → World → Prop), (∀ s, ewf ρ.length (I s) = true ∧ hwf ρ.length (G s) = true) ∧ body (fun e' _ H' w' => ∃ s, esub (I s) e' ∧ hsub (G s) H' ∧ F s w') ∧ ∀ s w', Holds ρ (G s) w' → F s w' → k (I s) ρ (G s) w'
def vCode (C : Cx) (n : Nat) (live : List Nat) (kr : KC) : Code → List (Nat × KC) → KC → KC
  | .skip, _, k => k
  | .label _, _, k => k
  | .seq a b, ks, k => vCode C n live kr a ks (vCode C n live kr b ks k)
  | .region _ ops false, _, k => fun e ρ H w => vOps C n live ops.toList k ops.toList [] e ρ H w
  | .region _ ops true, _, k => fun e ρ H w => vDrw C n live ops.toList k e ρ H w
  | .cond c x y, ks, k => fun e ρ H w => match pCode C n live ρ.length H (.cond c x y) e with
    | some e' => k e' ρ H w
    | none => match evR [] e [] c with
      | some (.v (.bool b)) => vBranch b (vCode C n live kr x ks k e ρ H w) (vCode C n live kr y ks k e ρ H w) ∨ vJoin (fun k' => vBranch b (vCode C n live kr x ks k' e ρ H w) (vCode C n live kr y ks k' e ρ H w)) k ρ
      | _ => False
  | .block id x, ks, k => vCode C n live kr x ((id, k) :: ks) k
  | .exit id, ks, _ => fun e ρ H w => match kfind ks id with
    | some k => k e ρ H w
    | none => False
  | .ret, _, _ => kr
  | .loop x, ks, _ => vLoop fun k => vCode C n live kr x ks k
  | .scope x, ks, k => vCode C n live kr x ks k
  | _, _, _ => fun _ _ _ _ => False
def resS (C : Cx) (e : SEnv) (H : Heap) : List ResultVar → Option (List SV)
  | [] => some []
  | .tmp t :: r => match lookS e t, resS C e H r with
    | some s, some l => some (s :: l)
    | _, _ => none
  | .cell t ty :: r => match lookS e t, tget C.tab ty, resS C e H r with
    | some (.p k off), some td, some l => match hget H k with
      | some cs => match pload td off cs with
        | .ok s => some (s :: l)
        | _ => none
      | none => none
    | _, _, _ => none
def oneOf : List SV → SV
  | [s] => s
  | l => .t l
def vRet (C : Cx) (res : List ResultVar) (K : Value → World → Prop) : KC := fun e ρ H w => match resS C e H res with
  | some l => K (conc ρ (oneOf l)) w
  | none => False
end Go.Proofs.Bw

/-
  The conditions of code are enough.
-/
namespace Go.Proofs.Bw
open Go Go.RowKit
section
variable {ds : List Deferred} {r0 : Option Nat} {N : Nat} {ρ : List Nat} {n : Nat} {e : SEnv} {R : List RE} {H : Heap} {w : World} {a : Act} {C : Cx} {o : Oper} {live : List Nat}
theorem wp_loopS {P : Program} {Q : Exit → Act → World → Prop} {σ : Type} {c : Code} (I : σ → Act → World → Prop) (μ : σ → Nat) (s0 : σ) (h0 : I s0 a w)
    (round : ∀ s a w, I s a w → c.wpIn (Wf r0) N P (Exit.then (fun a' w' => ∃ s', I s' a' w' ∧ μ s' < μ s) Q) a w) : (Code.loop c).wpIn (Wf r0) N P Q a w := by
  intro b k cs hro hb hr
  have key : ∀ j s a w, μ s = j → I s a w →
      ∃ e a' w', Q e a' w' ∧ ArrivesIn (Machine.fenced P (Wf r0)) P (lone (b.atR a (.code c :: .inLoop c :: k)) cs w) b k cs e a' w' := by
    intro j
    induction j using Nat.strongRecOn with
    | _ j ih =>
      intro s a w hn hI
      obtain ⟨e, a₁, w₁, hq, harr⟩ := round s a w hI b (.inLoop c :: k) cs hro hb hr
      cases e with
      | normal =>
        obtain ⟨s', hI₁, hlt⟩ := hq
        obtain ⟨e₂, a₂, w₂, hq₂, harr₂⟩ := ih (μ s') (hn ▸ hlt) s' a₁ w₁ rfl hI₁
        exact ⟨e₂, a₂, w₂, hq₂, .of_steps (StepsIn.trans harr (.one (fenced_calm hb hr rfl) stepR_inLoop)) harr₂⟩
      | exit id => exact ⟨_, a₁, w₁, hq, .pass (x := .inLoop c) rfl (fun _ _ => .inl (by simp)) harr⟩
      | goto l => exact ⟨_, a₁, w₁, hq, .pass (x := .inLoop c) rfl (fun _ _ => .inl (by simp)) harr⟩
      | ret => exact ⟨_, a₁, w₁, hq, .pass (x := .inLoop c) rfl (fun _ _ => .inl (by simp)) harr⟩
      | panic ch => exact ⟨_, a₁, w₁, hq, .pass (x := .inLoop c) rfl (fun _ _ => .inl (by simp)) harr⟩
      | outgrown => exact ⟨_, a₁, w₁, hq, .pass (x := .inLoop c) rfl (fun _ _ => .inl (by simp)) harr⟩
  obtain ⟨e, a', w', hq, harr⟩ := key _ s0 a w rfl h0
  exact ⟨e, a', w', hq, .of_steps (.one (fenced_calm hb hr rfl) stepR_loop) harr⟩
theorem nmem_iff {l : List Nat} {t : Nat} : nmem l t = true ↔ t ∈ l := by
  induction l with
  | nil => simp [nmem]
  | cons x r ih =>
    simp only [nmem, List.mem_cons]
    by_cases hx : x = t
    · subst hx; simp
    · rw [beq_ne hx]; simp only [cond_false, ih]; exact ⟨.inr, fun h => h.resolve_left fun e => hx e.symm⟩
/-! code that only computes -/
def Keeps (ws : List Nat) (a a' : Act) : Prop := ∀ t, t ∉ ws → a'.tmps[t]? = a.tmps[t]?
theorem pOps_sound (hC : C.Ok) {ops : List Oper} {Q : Exit → Act → World → Prop} {e' : SEnv} (hH : Holds ρ H w) : ∀ (l : List Oper) (R : List RE) (a : Act), AgR ds ρ n e R a →
    (∀ a', AgS ds ρ n e' a' → Keeps (l.filterMap (·.dst)) a a' → Q .normal a' w) → pOps C n live ops e ρ.length H l R = some e' → wpListIn (Wf r0) N C.P ops.toArray Q l a w := by
  intro l
  induction l with
  | nil =>
    intro R a ha hQ h
    simp only [pOps, fO_eq, Option.some.injEq] at h
    subst h
    exact hQ a (ha.close live) fun t _ => rfl
  | cons o r ih =>
    intro R a ha hQ h
    simp only [pOps] at h
    cases hd : dstFree n R o.dst with
    | false => rw [hd] at h; cases h
    | true =>
      rw [hd] at h
      simp only at h
      have keeps : ∀ v a', Keeps (r.filterMap (·.dst)) (a.put o.dst v) a' → Keeps ((o :: r).filterMap (·.dst)) a a' := by
        intro v a' hk t ht
        have hd' : dstOk a.tmps.size o.dst = true := by rw [ha.size]; exact (dstFree_spec hd).1
        have h1 : o.dst ≠ some t := fun e => ht (by simp [e])
        have h2 : t ∉ r.filterMap (·.dst) := fun hm => ht (by
          simp only [List.filterMap_cons]
          split
          · exact hm
          · exact List.mem_cons_of_mem _ hm)
        rw [hk t h2, put_get hd', if_neg h1]
      have good : ∀ {p : List (Nat × Bool)} {s : SV}, condR R p = true → pev C (evR R e p) (evP R e p true o.op) (evP R e p false o.op) H o.op = .ok s → Does C.P a.eval w o (conc ρ s) := by
        intro p s hc hs
        have := pev_good (evT := evP R e p true o.op) (evF := evP R e p false o.op) hC (ha.eval hc) hH (fun c x y hop hcv s hs => by rw [hop] at hs; exact ha.evalP hc hcv hs) (fun c x y hop hcv s hs => by rw [hop] at hs; exact ha.evalP hc hcv hs)
        rw [hs] at this
        exact this.2
      have step : ∀ {p : List (Nat × Bool)} {s : SV}, (∀ x ∈ p, (entB R x.1).isSome = true) → condR R p = true → wf ρ.length s = true → pev C (evR R e p) (evP R e p true o.op) (evP R e p false o.op) H o.op = .ok s →
          pOps C n live ops e ρ.length H r (⟨o.dst, p, s⟩ :: R) = some e' → o.wpIn (Wf r0) N C.P a w (wpListIn (Wf r0) N C.P ops.toArray Q r) Q := by
        intro p s hp hc hw hs hr
        refine Runs1.wpIn (K := fun v w' => v = conc ρ s ∧ w' = w) (Runs1.of_does (good hc hs) ⟨rfl, rfl⟩) ?_
        rintro _ _ ⟨rfl, rfl⟩
        have hst := ha.step hd hp hw
        rw [hc] at hst
        exact ih _ _ hst (fun a' h1 h2 => hQ a' h1 (keeps _ a' h2)) hr
      cases hg : o.guard with
      | none =>
        rw [hg] at h
        simp only at h
        unfold wpListIn
        rw [if_pos (by simp [Region.wanted, hg])]
        split at h
        · rename_i s hs
          cases hw : wf ρ.length s with
          | false => rw [hw] at h; cases h
          | true => rw [hw] at h; exact (step (fun x hx => by cases hx) rfl hw hs h)
        · cases h
      | some jq =>
        obtain ⟨j, q⟩ := jq
        rw [hg] at h
        simp only at h
        obtain ⟨g1, g2⟩ := guardOf_spec (ops := ops) (j := j) (q := q) ha
        split at h
        · rename_i p hgo
          obtain ⟨hp, hy⟩ := g1 p hgo
          split at h
          · rename_i s hs
            cases hw : wf ρ.length s with
            | false => rw [hw] at h; cases h
            | true =>
              rw [hw] at h
              unfold wpListIn
              cases hc : condR R p with
              | true =>
                rw [if_pos (by simp [Region.wanted, hg, hy.2 hc])]
                exact (step hp hc hw hs h)
              | false =>
                have : ¬ yielded ops.toArray a.tmps j = some q := fun hh => by rw [hy.1 hh] at hc; cases hc
                rw [if_neg (by simp [Region.wanted, hg, this])]
                have hst := ha.step hd hp hw
                rw [hc] at hst
                exact ⟨fun f _ => trivial, ih _ _ hst (fun a' h1 h2 => hQ a' h1 (keeps _ a' h2)) h⟩
          · cases h
        · rename_i p hgo
          obtain ⟨hp, hy⟩ := g2 p hgo
          unfold wpListIn
          rw [if_neg (by simp [Region.wanted, hg, hy])]
          have hst := ha.step (s := .v undef) hd hp rfl
          have e1 : (bif condR R p then conc ρ (.v undef) else undef) = undef := by cases condR R p <;> rfl
          rw [e1] at hst
          exact ⟨fun f _ => trivial, ih _ _ hst (fun a' h1 h2 => hQ a' h1 (keeps _ a' h2)) h⟩
        · cases h
theorem mergeS_spec {b : Bool} {x y s : SV} (h : mergeS b x y = some s) : wf ρ.length s = true ∧ conc ρ s = (bif b then conc ρ x else conc ρ y) := by
  unfold mergeS at h
  split at h
  · simp only [Option.some.injEq] at h; subst h
    exact ⟨rfl, by cases b <;> simp [conc, sel]⟩
  · rename_i k p k' q
    cases hk : ikEq k k' with
    | false => rw [hk] at h; cases h
    | true =>
      rw [hk] at h
      have := ikEq_eq hk; subst this
      simp only [cond_true, Option.some.injEq] at h; subst h
      exact ⟨rfl, by cases b <;> simp [conc]⟩
  · cases h
theorem mergeE_spec {b : Bool} {ws : List Nat} {e1 e2 : SEnv} {a' : Act} (hd : a'.defers = ds) (hn : a'.tmps.size = n) (h0 : AgS ds ρ n e a) (hk : Keeps ws a a') (h1 : b = true → AgS ds ρ n e1 a') (h2 : b = false → AgS ds ρ n e2 a')  : ∀ live, AgS ds ρ n (mergeE b ws e e1 e2 live) a' := by
  intro live
  refine ⟨hd, hn, ?_⟩
  induction live with
  | nil => intro t s h; simp [mergeE, lookS] at h
  | cons u l ih =>
    intro t s h
    have cons : ∀ (v : SV), (wf ρ.length v = true ∧ a'.tmps[u]? = some (conc ρ v)) → lookS ((u, v) :: mergeE b ws e e1 e2 l) t = some s → wf ρ.length s = true ∧ a'.tmps[t]? = some (conc ρ s) := by
      intro v hv hh
      simp only [lookS] at hh
      by_cases hut : u = t
      · subst hut; rw [beq_self] at hh; cases hh; exact hv
      · rw [beq_ne hut] at hh; exact ih t s hh
    simp only [mergeE] at h
    cases hm : nmem ws u with
    | true =>
      rw [hm] at h
      simp only at h
      split at h
      · rename_i x y hx hy
        split at h
        · rename_i s' hs'
          refine cons s' ?_ h
          obtain ⟨e3, e4⟩ := mergeS_spec (ρ := ρ) hs'
          refine ⟨e3, ?_⟩
          rw [e4]
          cases hb : b with
          | true => exact ((h1 hb).2.2 u x hx).2
          | false => exact ((h2 hb).2.2 u y hy).2
        · exact ih t s h
      · exact ih t s h
    | false =>
      rw [hm] at h
      simp only at h
      have hnot : u ∉ ws := fun hh => by rw [nmem_iff.2 hh] at hm; cases hm
      split at h
      · rename_i s' hs'
        obtain ⟨e3, e4⟩ := h0.2.2 u s' hs'
        exact cons s' ⟨e3, by rw [hk u hnot]; exact e4⟩ h
      · exact ih t s h
theorem Keeps.trans {ws ws' : List Nat} {a a' a'' : Act} (h : Keeps ws a a') (h' : Keeps ws' a' a'') : Keeps (ws ++ ws') a a'' := fun t ht => by
  rw [h' t (fun hh => ht (List.mem_append_right _ hh)), h t (fun hh => ht (List.mem_append_left _ hh))]
theorem Keeps.more {ws ws' : List Nat} {a a' : Act} (h : Keeps ws a a') (hs : ∀ t, t ∈ ws → t ∈ ws') : Keeps ws' a a' := fun t ht => h t fun hh => ht (hs t hh)
theorem pCode_sound (hC : C.Ok) (hH : Holds ρ H w) : ∀ (c : Code) (e e' : SEnv) (a : Act) (Q : Exit → Act → World → Prop), AgS ds ρ n e a → (∀ a', AgS ds ρ n e' a' → Keeps (writes c) a a' → Q .normal a' w) →
    pCode C n live ρ.length H c e = some e' → c.wpIn (Wf r0) N C.P Q a w := by
  intro c
  induction c with
  | skip => intro e e' a Q ha hQ h; simp only [pCode, Option.some.injEq] at h; subst h; exact wpIn_skip (hQ a ha fun _ _ => rfl)
  | label l => intro e e' a Q ha hQ h; simp only [pCode, Option.some.injEq] at h; subst h; exact wpIn_label (hQ a ha fun _ _ => rfl)
  | seq x y ihx ihy =>
    intro e e' a Q ha hQ h
    simp only [pCode] at h
    cases hx : pCode C n live ρ.length H x e with
    | none => rw [hx] at h; cases h
    | some e1 =>
      rw [hx] at h
      refine wpIn_seq (ihx e e1 a _ ha (fun a1 h1 k1 => ?_) hx)
      exact ihy e1 e' a1 Q h1 (fun a2 h2 k2 => hQ a2 h2 (k1.trans k2)) h
  | region id ops d =>
    intro e e' a Q ha hQ h
    cases d with
    | true => simp [pCode] at h
    | false =>
      simp only [pCode] at h
      refine wpIn_region_list ?_
      have := pOps_sound (r0 := r0) (N := N) (Q := Q) hC hH ops.toList [] a ha.start (fun a' h1 k1 => hQ a' h1 k1) h
      simpa using this
  | cond c x y ihx ihy =>
    intro e e' a Q ha hQ h
    simp only [pCode] at h
    split at h
    · rename_i b hc
      split at h
      · rename_i e1 e2 h1 h2
        simp only [fO_eq, Option.some.injEq] at h
        subst h
        have hcv : a.eval c = .bool b := ((ha.start.eval (p := []) rfl) c _ hc).2
        refine wpIn_cond_split hcv (fun hb => ?_) (fun hb => ?_)
        · refine ihx e e1 a Q ha (fun a' g1 k1 => hQ a' ?_ (k1.more fun t ht => List.mem_append_left _ ht)) h1
          exact mergeE_spec g1.1 g1.2.1 ha (k1.more fun t ht => List.mem_append_left _ ht) (fun _ => g1) (fun hf => by rw [hb] at hf; cases hf) live
        · refine ihy e e2 a Q ha (fun a' g1 k1 => hQ a' ?_ (k1.more fun t ht => List.mem_append_right _ ht)) h2
          exact mergeE_spec g1.1 g1.2.1 ha (k1.more fun t ht => List.mem_append_right _ ht) (fun hf => by rw [hb] at hf; cases hf) (fun _ => g1) live
      · cases h
    · cases h
  | _ => intro e e' a Q ha hQ h; simp [pCode] at h
theorem esub.get {e e' : SEnv} (h : esub e' e) : ∀ t s, lookS e' t = some s → lookS e t = some s := by
  induction e' with
  | nil => intro t s ht; cases ht
  | cons x r ih =>
    obtain ⟨q, v⟩ := x
    intro t s ht
    simp only [lookS] at ht
    by_cases hq : q = t
    · subst hq; rw [beq_self] at ht; cases ht; exact h.1
    · rw [beq_ne hq] at ht; exact ih h.2 t s ht
theorem ewf.get {m : Nat} {e : SEnv} (h : ewf m e = true) : ∀ t s, lookS e t = some s → wf m s = true := by
  induction e with
  | nil => intro t s ht; cases ht
  | cons x r ih =>
    obtain ⟨q, v⟩ := x
    simp only [ewf, Bool.and_eq_true] at h
    intro t s ht
    simp only [lookS] at ht
    by_cases hq : q = t
    · subst hq; rw [beq_self] at ht; cases ht; exact h.1
    · rw [beq_ne hq] at ht; exact ih h.2 t s ht
theorem hwf.get {m : Nat} {H : Heap} (h : hwf m H = true) : ∀ k c, hget H k = some c → k < m ∧ wfs m c = true := by
  induction H with
  | nil => intro t s ht; cases ht
  | cons x r ih =>
    obtain ⟨q, v⟩ := x
    simp only [hwf, Bool.and_eq_true, Nat.blt_eq] at h
    intro t s ht
    simp only [hget] at ht
    by_cases hq : q = t
    · subst hq; rw [beq_self] at ht; cases ht; exact ⟨h.1.1, h.1.2⟩
    · rw [beq_ne hq] at ht; exact ih h.2 t s ht
theorem AgS.back {l : List Nat} {e' : SEnv} (h : AgS ds (ρ ++ l) n e a) (hs : esub e' e) (hw : ewf ρ.length e' = true) : AgS ds ρ n e' a :=
  ⟨h.1, h.2.1, fun t s ht => by
    have h1 := h.2.2 t s (hs.get t s ht)
    have h2 := ewf.get hw t s ht
    rw [conc_app l s h2] at h1
    exact ⟨h2, h1.2⟩⟩
theorem AgS.sub {e' : SEnv} (h : AgS ds ρ n e a) (hs : esub e' e) : AgS ds ρ n e' a := ⟨h.1, h.2.1, fun t s ht => h.2.2 t s (hs.get t s ht)⟩
theorem Goes.stay {K : KC} {Q : Act → World → Prop} (h : Goes ds ρ n K Q) (ha : AgS ds ρ n e a) (hH : Holds ρ H w) (hk : K e ρ H w) : Q a w :=
  h e [] H a w (by rw [List.append_nil]; exact ha) (by rw [List.append_nil]; exact hH) (by rw [List.append_nil]; exact hk)
def noGoto (Q : Exit → Act → World → Prop) : Exit → Act → World → Prop
  | .goto _, _, _ => False
  | e, a, w => Q e a w
theorem wpIn_scope {F : Fence} {m : Nat} {P : Program} {Q : Exit → Act → World → Prop} {a : Act} {w : World} {c : Code} (h : c.wpIn F m P (noGoto Q) a w) : (Code.scope c).wpIn F m P Q a w := by
  intro b k cs hro hb hr
  have h0 : (lone (b.atR a (.code (.scope c) :: k)) cs w).fenced P F := fenced_calm hb hr rfl
  have st : step P (lone (b.atR a (.code (.scope c) :: k)) cs w) = .next (lone (b.atR a (.code c :: .inScope c :: k)) cs w) := step_lone_go (by simp [stepG, stepG.exec, Frame.atR])
  obtain ⟨e, a₁, w₁, hq, harr⟩ := h b (.inScope c :: k) cs hro hb hr
  cases e with
  | normal => exact ⟨.normal, a₁, w₁, hq, .head h0 st (StepsIn.trans harr (.one (fenced_calm hb hr rfl) (step_lone_go (by simp [stepG, stepG.exec, Frame.atR]))))⟩
  | exit id =>
    have hx : exitTo id (.inScope c :: k) = exitTo id k := by simp [exitTo]
    exact ⟨.exit id, a₁, w₁, hq, fun k' hk => .head h0 st (harr.1 k' (by rw [hx]; exact hk)),
      fun hr' hk => let ⟨k₁, h1, h2⟩ := harr.2 hr' (by rw [hx]; exact hk); ⟨k₁, h1, .head h0 st h2⟩⟩
  | goto l => exact hq.elim
  | ret => exact ⟨_, a₁, w₁, hq, .of_steps (.one h0 st) harr⟩
  | panic ch => exact ⟨_, a₁, w₁, hq, .of_steps (.one h0 st) harr⟩
  | outgrown => exact ⟨_, a₁, w₁, hq, .of_steps (.one h0 st) harr⟩
def DrwSound (ds : List Deferred) (r0 : Option Nat) (N : Nat) (C : Cx) (n : Nat) (live : List Nat) : Prop := ∀ (ops : List Oper) (K : KC) (Q : Exit → Act → World → Prop) (e : SEnv) (ρ : List Nat) (H : Heap) (a : Act) (w : World) (id : Nat), Goes ds ρ n K (Q .normal) → AgS ds ρ n e a → Holds ρ H w →
  vDrw C n live ops K e ρ H w → (Code.region id ops.toArray true).wpIn (Wf r0) N C.P Q a w
theorem vCode_sound (hC : C.Ok) (hD : DrwSound ds r0 N C n live) {kr : KC} : ∀ (c : Code) (ks : List (Nat × KC)) (k : KC) (Q : Exit → Act → World → Prop) (ρ : List Nat) (e : SEnv) (H : Heap) (w : World) (a : Act), Goes ds ρ n k (Q .normal) →
    (∀ id kc, kfind ks id = some kc → Goes ds ρ n kc (Q (.exit id))) → Goes ds ρ n kr (Q .ret) → AgS ds ρ n e a → Holds ρ H w → vCode C n live kr c ks k e ρ H w → c.wpIn (Wf r0) N C.P Q a w := by
  intro c
  induction c with
  | skip => intro ks k Q ρ e H w a hk hks hr ha hH h; exact wpIn_skip (hk.stay ha hH h)
  | label l => intro ks k Q ρ e H w a hk hks hr ha hH h; exact wpIn_label (hk.stay ha hH h)
  | scope x ih => intro ks k Q ρ e H w a hk hks hr ha hH h; exact wpIn_scope (ih ks k (noGoto Q) ρ e H w a hk hks hr ha hH h)
  | ret => intro ks k Q ρ e H w a hk hks hr ha hH h; exact wpIn_ret (hr.stay ha hH h)
  | exit id =>
    intro ks k Q ρ e H w a hk hks hr ha hH h
    simp only [vCode] at h
    cases hf : kfind ks id with
    | none => rw [hf] at h; exact h.elim
    | some kc => rw [hf] at h; exact wpIn_exit ((hks id kc hf).stay ha hH h)
  | seq x y ihx ihy =>
    intro ks k Q ρ e H w a hk hks hr ha hH h
    refine wpIn_seq (ihx ks _ _ ρ e H w a ?_ (fun id kc hf => hks id kc hf) hr ha hH h)
    intro e' l H' a' w' h1 h2 h3
    exact ihy ks k Q (ρ ++ l) e' H' w' a' (hk.app l) (fun id kc hf => (hks id kc hf).app l) (hr.app l) h1 h2 h3
  | region id ops d =>
    intro ks k Q ρ e H w a hk hks hr ha hH h
    cases d with
    | true =>
      have := hD ops.toList k Q e ρ H a w id hk ha hH h
      simpa using this
    | false =>
      refine wpIn_region_list ?_
      have := vOps_sound (r0 := r0) (N := N) hC ops.toList [] ρ H a w hk ha.start hH h
      simpa using this
  | cond c x y ihx ihy =>
    intro ks k Q ρ e H w a hk hks hr ha hH h
    unfold vCode at h
    split at h
    · rename_i e' he'
      exact pCode_sound hC hH _ e e' a Q ha (fun a' h1 _ => hk.stay h1 hH h) he'
    · split at h
      · rename_i b hc
        have hcv : a.eval c = .bool b := ((ha.start.eval (p := []) rfl) c _ hc).2
        rcases h with h | ⟨σ, I, G, F, hwf', h1, h2⟩
        · exact wpIn_cond_split hcv (fun hb => ihx ks k Q ρ e H w a hk hks hr ha hH (h.1 hb)) (fun hb => ihy ks k Q ρ e H w a hk hks hr ha hH (h.2 hb))
        · have hk' : Goes ds ρ n (fun e' _ H' w' => ∃ s, esub (I s) e' ∧ hsub (G s) H' ∧ F s w') (Q .normal) := by
            rintro e' l H' a2 w2 k1 k2 ⟨s, k3, k4, k5⟩
            have g1 := k1.back k3 (hwf' s).1
            have g2 := k2.back k4 fun q c hq => (hwf.get (hwf' s).2) q c hq
            exact hk.stay g1 g2 (h2 s w2 g2 k5)
          exact wpIn_cond_split hcv (fun hb => ihx ks _ Q ρ e H w a hk' hks hr ha hH (h1.1 hb)) (fun hb => ihy ks _ Q ρ e H w a hk' hks hr ha hH (h1.2 hb))
      · exact h.elim
  | block id x ih =>
    intro ks k Q ρ e H w a hk hks hr ha hH h
    refine wpIn_block (ih ((id, k) :: ks) k _ ρ e H w a hk ?_ hr ha hH h)
    intro id' kc hf
    simp only [kfind] at hf
    show Goes ds ρ n kc (fun a' w' => Exit.inBlock id Q (.exit id') a' w')
    simp only [Exit.inBlock]
    by_cases hid : id = id'
    · subst hid; rw [beq_self] at hf; cases hf; simp only [if_true]; exact hk
    · rw [beq_ne hid] at hf; simp only [if_neg (fun hh : id' = id => hid hh.symm)]; exact hks id' kc hf
  | loop x ih =>
    intro ks k Q ρ e H w a hk hks hr ha hH h
    obtain ⟨σ, I, G, F, μ, s0, hwf', ⟨h1, h2, h3⟩, h4⟩ := h
    refine wp_loopS (fun s a' w' => AgS ds ρ n (I s) a' ∧ Holds ρ (G s) w' ∧ F s w') μ s0 ⟨ha.sub h1, hH.sub h2, h3⟩ ?_
    rintro s a' w' ⟨g1, g2, g3⟩
    refine ih ks _ _ ρ (I s) (G s) w' a' ?_ (fun id kc hf => hks id kc hf) hr g1 g2 (h4 s w' g2 g3)
    rintro e' l H' a2 w2 k1 k2 ⟨s', k3, k4, k5, k6⟩
    exact ⟨s', ⟨k1.back k4 (hwf' s').1, k2.back k5 fun q c hq => (hwf.get (hwf' s').2) q c hq, k6⟩, k3⟩
  | _ => intro ks k Q ρ e H w a hk hks hr ha hH h; exact h.elim
end
end Go.Proofs.Bw
