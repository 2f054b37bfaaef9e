/-
  The core of this session's own walk: a region, a branch, a loop, a call, said over a list of what slots hold and over worlds that are variables.
-/
import Derived.WalkKit
import Derived.WalkSpells
import Derived.WalkLawsBesides
namespace Go.Proofs.Bw
open Go Go.RowKit

abbrev Env := List (Nat × Value)

def look : Env → Nat → Option Value
  | [], _ => none
  | (k, v) :: r, t => bif Nat.beq k t then some v else look r t

def evalO (e : Env) : Operand → Option Value
  | .tmp t => look e t
  | .const v => some v
  | .global g => some (.pointer (some ⟨g, 0, none⟩))
  | .func f => some (.func (.func f) #[] #[])

def Ag (n : Nat) (e : Env) (a : Act) : Prop := a.defers = [] ∧ a.tmps.size = n ∧ ∀ t v, look e t = some v → a.tmps[t]? = some v

theorem look_cons (k : Nat) (v : Value) (r : Env) (t : Nat) : look ((k, v) :: r) t = if k = t then some v else look r t := by
  show (bif Nat.beq k t then some v else look r t) = _
  by_cases h : k = t
  · subst h; simp
  · have hb : Nat.beq k t = false := by
      cases hh : Nat.beq k t with
      | false => rfl
      | true => exact absurd (Nat.eq_of_beq_eq_true hh) h
    rw [hb, if_neg h]; rfl

theorem Ag.eval {n : Nat} {e : Env} {a : Act} (h : Ag n e a) {x : Operand} {v : Value} (hx : evalO e x = some v) : a.eval x = v := by
  cases x with
  | tmp t =>
    have := h.2.2 t v hx
    simp [Act.eval, Array.getD_eq_getD_getElem?, this]
  | const c => simpa [evalO, Act.eval] using hx
  | global g => simpa [evalO, Act.eval] using hx
  | func f => simpa [evalO, Act.eval] using hx

def putE (d : Option Tmp) (v : Value) (e : Env) : Env := match d with | some t => (t, v) :: e | none => e
def dstOk (n : Nat) (d : Option Tmp) : Bool := match d with | some t => Nat.blt t n | none => true

theorem Ag.put {n : Nat} {e : Env} {a : Act} (h : Ag n e a) {d : Option Tmp} (hd : dstOk n d = true) (v : Value) : Ag n (putE d v e) (a.put d v) := by
  cases d with
  | none => exact h
  | some t =>
    have ht : t < n := by simpa [dstOk, Nat.blt_eq] using hd
    refine ⟨h.1, by simp [Act.put, h.2.1], fun s u hs => ?_⟩
    simp only [putE, look_cons] at hs
    simp only [Act.put]
    by_cases hst : t = s
    · subst hst
      rw [if_pos rfl] at hs
      rw [Array.getElem?_setIfInBounds_self_of_lt (by rw [h.2.1]; exact ht)]
      exact hs
    · rw [if_neg hst] at hs
      rw [Array.getElem?_setIfInBounds_ne hst]
      exact h.2.2 s u hs

/-- What is known of fewer slots. -/
def Sub : Env → Env → Prop
  | [], _ => True
  | (t, v) :: r, e => look e t = some v ∧ Sub r e

theorem Sub.look {e' e : Env} (h : Sub e' e) : ∀ t v, look e' t = some v → look e t = some v := by
  induction e' with
  | nil => intro t v hv; cases hv
  | cons p r ih =>
    obtain ⟨k, u⟩ := p
    intro t v hv
    rw [look_cons] at hv
    by_cases hk : k = t
    · subst hk; rw [if_pos rfl] at hv; cases hv; exact h.1
    · rw [if_neg hk] at hv; exact ih h.2 t v hv

theorem Ag.sub {n : Nat} {e e' : Env} {a : Act} (h : Ag n e a) (hs : Sub e' e) : Ag n e' a := ⟨h.1, h.2.1, fun t v ht => h.2.2 t v (hs.look t v ht)⟩

/-! ### worlds -/

/-- Only blocks of S, and new ones, have turned. -/
structure Mod (S : Nat → Prop) (w w' : World) : Prop where
  os : w'.os = w.os
  tape : w'.tape = w.tape
  output : w'.output = w.output
  size : w.heap.size ≤ w'.heap.size
  block : ∀ k, k < w.heap.size → ¬ S k → w'.heap[k]? = w.heap[k]?

abbrev Ext (w w' : World) : Prop := Mod (fun _ => False) w w'
abbrev Upd (g : Nat) (w w' : World) : Prop := Mod (fun k => k = g) w w'

theorem Mod.refl (S : Nat → Prop) (w : World) : Mod S w w := ⟨rfl, rfl, rfl, Nat.le_refl _, fun _ _ _ => rfl⟩
theorem Ext.refl (w : World) : Ext w w := Mod.refl _ w
theorem Mod.trans' {S S' : Nat → Prop} {a b c : World} (h : Mod S a b) (k : Mod S' b c) (hs : ∀ i, i < a.heap.size → S' i → S i) : Mod S a c :=
  ⟨k.os.trans h.os, k.tape.trans h.tape, k.output.trans h.output, Nat.le_trans h.size k.size,
    fun i hi hn => (k.block i (Nat.lt_of_lt_of_le hi h.size) (fun hS => hn (hs i hi hS))).trans (h.block i hi hn)⟩
theorem Mod.trans {S : Nat → Prop} {a b c : World} (h : Mod S a b) (k : Mod S b c) : Mod S a c := h.trans' k fun _ _ h => h
theorem Mod.ext {S : Nat → Prop} {a b c : World} (h : Mod S a b) (k : Ext b c) : Mod S a c := h.trans' k fun _ _ h => h.elim
theorem Mod.mono {S S' : Nat → Prop} {a b : World} (h : Mod S a b) (hs : ∀ i, S i → S' i) : Mod S' a b :=
  ⟨h.os, h.tape, h.output, h.size, fun i hi hn => h.block i hi fun hS => hn (hs i hS)⟩
theorem Ext.upd {a b c : World} (h : Ext a b) {g : Nat} (k : Upd g b c) (hg : a.heap.size ≤ g) : Ext a c :=
  h.trans' k fun i hi hS => by omega
theorem Mod.upd {S : Nat → Prop} {a b c : World} (h : Mod S a b) {g : Nat} (k : Upd g b c) (hg : g < a.heap.size → S g) : Mod S a c :=
  h.trans' k fun i hi hS => by subst hS; exact hg hi
theorem Mod.of_grown {a b : World} {row : Option Nat} (h : a.grownBy b row) : Mod (fun k => some k = row) a b := ⟨h.os, h.tape, h.output, h.size, h.block⟩
theorem Ext.below {a b : World} (h : Ext a b) : Below a.heap.size a b := ⟨h.os, h.tape, h.output, h.size, fun k hk => h.block k hk id⟩
theorem Ext.of_below {a b : World} (h : Below a.heap.size a b) : Ext a b := ⟨h.os, h.tape, h.output, h.size, fun k hk _ => h.block k hk⟩
theorem Ext.of_grown {a b : World} {row : Option Nat} (h : a.grownBy b row) (hr : ∀ k, row = some k → a.heap.size ≤ k) : Ext a b :=
  ⟨h.os, h.tape, h.output, h.size, fun k hk _ => h.block k hk fun e => by have := hr k e.symm; omega⟩
theorem Ext.toUpd {a b : World} (h : Ext a b) {g : Nat} : Upd g a b := h.mono fun _ h => h.elim
theorem Ext.alloc (w : World) (o : Obj) : Ext w (w.alloc o) := ⟨rfl, rfl, rfl, by simp, fun k hk _ => Below.heap_alloc w o k hk⟩
theorem Upd.setCell (w : World) (p : Addr) (u : Value) : Upd p.block w (w.setCell p u) :=
  ⟨rfl, rfl, rfl, by simp [World.setCell], fun k _ hn => Below.heap_setCell _ _ _ _ hn⟩
theorem Ext.drawn (w : World) (n : Nat) : Ext w { w with drawn := n } := ⟨rfl, rfl, rfl, Nat.le_refl _, fun _ _ _ => rfl⟩

/-- A block of one's own: just these cells, none frozen. -/
def Box (w : World) (g : Nat) (vs : List Value) : Prop := ∃ t, w.heap[g]? = some (.cells vs.toArray t (0, 0))

/-- what a block of cells is of -/
def tyAt (w : World) (g : Nat) (t : TypeId) : Prop := ∃ c fz, w.heap[g]? = some (.cells c t fz)
theorem tyAt.mod {S : Nat → Prop} {w w' : World} {g : Nat} {t : TypeId} (h : tyAt w g t) (hm : Mod S w w') (hg : ¬ S g) : tyAt w' g t := by
  obtain ⟨c, fz, h⟩ := h
  exact ⟨c, fz, (hm.block g (Array.getElem?_eq_some_iff.1 h).1 hg).trans h⟩
theorem tyAt.ext {w w' : World} {g : Nat} {t : TypeId} (h : tyAt w g t) (hm : Ext w w') : tyAt w' g t := h.mod hm id
theorem tyAt.setCell {w : World} {g : Nat} {t : TypeId} (h : tyAt w g t) (a : Addr) (v : Value) : tyAt (w.setCell a v) g t := by
  obtain ⟨c, fz, h⟩ := h
  by_cases e : a.block = g
  · refine ⟨if a.spot.isSome = true then c else c.setIfInBounds a.off v, fz, ?_⟩
    simp [World.setCell, Array.getElem?_modify, e, h]
  · exact ⟨c, fz, by simp [World.setCell, Array.getElem?_modify, e, h]⟩
theorem Box.lt {w : World} {g : Nat} {vs : List Value} (h : Box w g vs) : g < w.heap.size := by
  obtain ⟨t, h⟩ := h
  rcases Nat.lt_or_ge g w.heap.size with hlt | hge
  · exact hlt
  · rw [Array.getElem?_eq_none hge] at h; cases h
theorem Box.mod {S : Nat → Prop} {w w' : World} {g : Nat} {vs : List Value} (h : Box w g vs) (hm : Mod S w w') (hg : ¬ S g) : Box w' g vs :=
  ⟨h.choose, (hm.block g h.lt hg).trans h.choose_spec⟩
theorem Box.ext {w w' : World} {g : Nat} {vs : List Value} (h : Box w g vs) (hm : Ext w w') : Box w' g vs := h.mod hm id
theorem Box.upd {w w' : World} {g g' : Nat} {vs : List Value} (h : Box w g vs) (hm : Upd g' w w') (hne : g ≠ g') : Box w' g vs := h.mod hm hne
theorem Box.cell {w : World} {g : Nat} {vs : List Value} (h : Box w g vs) (i : Nat) : w.cell? ⟨g, i, none⟩ = vs[i]? := by
  obtain ⟨t, h⟩ := h
  rw [cell_of_row w g i _ t (0, 0) h]; simp
theorem Box.frozen {w : World} {g : Nat} {vs : List Value} (h : Box w g vs) (i : Nat) : w.frozen? ⟨g, i, none⟩ = false := by
  obtain ⟨t, h⟩ := h
  simp [World.frozen?, h]
theorem Box.new (w : World) (t : TypeId) (vs : List Value) : Box (w.alloc (.cells vs.toArray t)) w.heap.size vs := ⟨t, heap_alloc_new w _⟩
theorem Box.set {w : World} {g : Nat} {vs : List Value} (h : Box w g vs) (i : Nat) (u : Value) : Box (w.setCell ⟨g, i, none⟩ u) g (vs.set i u) := by
  obtain ⟨t, h⟩ := h
  exact ⟨t, by simp [World.setCell, Array.getElem?_modify, h]⟩

/-! ### one operation -/

def OpT (P : Program) (e : Env) (w : World) (o : Oper) (K : Value → World → Prop) : Prop :=
  ∀ n a, Ag n e a → o.wp P a w (fun a' w' => ∃ v, a' = a.put o.dst v ∧ K v w') (fun _ _ _ => False)

theorem upon_monoQ {P : Program} {o : Oper} {a : Act} {K : Act → World → Prop} {Q : Exit → Act → World → Prop} {r : Result Next}
    (h : o.upon P a K (fun _ _ _ => False) r) : o.upon P a K Q r := by
  cases r with
  | ok n w' =>
    cases n <;> simp only [Oper.upon] at h ⊢ <;>
      first
        | exact h
        | exact Calls.mono h (fun e w'' he => by cases e <;> first | exact he | exact he.elim | (obtain ⟨_, _, h⟩ := he; exact h.elim))
  | halt x w' => cases x <;> simp only [Oper.upon] at h ⊢

theorem OpT.mono {P : Program} {e : Env} {w : World} {o : Oper} {K K' : Value → World → Prop} (h : OpT P e w o K) (hk : ∀ v w', K v w' → K' v w') : OpT P e w o K' :=
  fun n a ha => Oper.wp_mono (fun _ _ ⟨v, hv, hK⟩ => ⟨v, hv, hk _ _ hK⟩) (h n a ha)

/-- What an evaluation of operands knows. -/
def Knows (e : Env) (ρ : Operand → Value) : Prop := ∀ x v, evalO e x = some v → ρ x = v
theorem Ag.knows {n : Nat} {e : Env} {a : Act} (h : Ag n e a) : Knows e a.eval := fun _ _ hx => h.eval hx

theorem OpT.value {P : Program} {e : Env} {w w' : World} {o : Oper} {K : Value → World → Prop} {v : Value}
    (h : ∀ ρ, Knows e ρ → (execOp ρ o).run P w = .ok (.value v) w') (hk : K v w') : OpT P e w o K := by
  intro n a ha
  unfold Oper.wp
  rw [h _ ha.knows, Oper.upon_value]
  exact ⟨v, rfl, hk⟩

theorem OpT.skip {P : Program} {e : Env} {w w' : World} {o : Oper} {K : Value → World → Prop}
    (h : ∀ ρ, Knows e ρ → (execOp ρ o).run P w = .ok .skip w') (hk : K undef w') : OpT P e w o K := by
  intro n a ha
  unfold Oper.wp
  rw [h _ ha.knows, Oper.upon_skip]
  exact ⟨undef, rfl, hk⟩

/-- A call returns, and this holds of what it returns. -/
def Runs (P : Program) (f : FuncId) (args : Array Value) (w : World) (K : Value → World → Prop) : Prop := Calls P f args w fun e w' => ∃ v, e = .returned v ∧ K v w'

theorem Runs.mono {P : Program} {f : FuncId} {args : Array Value} {w : World} {K K' : Value → World → Prop} (h : Runs P f args w K) (hk : ∀ v w', K v w' → K' v w') : Runs P f args w K' :=
  Calls.mono h fun _ _ ⟨v, he, h⟩ => ⟨v, he, hk _ _ h⟩

theorem OpT.enter {P : Program} {e : Env} {w w' : World} {o : Oper} {K : Value → World → Prop} {f : FuncId} {args : Array Value}
    (h : ∀ ρ, Knows e ρ → (execOp ρ o).run P w = .ok (.enter f args) w') (hk : Runs P f args w' K) : OpT P e w o K := by
  intro n a ha
  unfold Oper.wp
  rw [h _ ha.knows, Oper.upon_enter]
  refine Calls.mono hk ?_
  rintro ee w'' ⟨v, rfl, hv⟩
  exact ⟨v, rfl, hv⟩

/-! ### a region in the text's order -/

def Rg (P : Program) (n : Nat) (ops : List Oper) (K : Env → World → Prop) (l : List Oper) (e : Env) (w : World) : Prop :=
  ∀ a, Ag n e a → wpList P ops.toArray (fun x a' w' => x = .normal ∧ ∃ e', Ag n e' a' ∧ K e' w') l a w

section
variable {P : Program} {n : Nat} {ops : List Oper} {K : Env → World → Prop} {rest : List Oper} {o : Oper} {e : Env} {w : World}

theorem Rg.nil (h : K e w) : Rg P n ops K [] e w := fun _ ha => ⟨rfl, e, ha, h⟩

theorem Rg.op (hg : o.guard = none) (hd : dstOk n o.dst = true) (h : OpT P e w o fun v w' => Rg P n ops K rest (putE o.dst v e) w') : Rg P n ops K (o :: rest) e w := by
  intro a ha
  unfold wpList
  rw [if_pos (by simp [Region.wanted, hg])]
  refine .inl (upon_monoQ (Oper.wp_mono ?_ (h n a ha)))
  rintro a' w' ⟨v, rfl, hR⟩
  exact hR _ (ha.put hd v)

def yieldE (ops : List Oper) (e : Env) (j : Nat) : Option Bool :=
  match ops[j]? with
  | some o => match o.dst with
    | some d => match look e d with
      | some (.bool b) => some b
      | _ => none
    | none => none
  | none => none

theorem yieldE_spec {a : Act} {j : Nat} {b : Bool} (h : yieldE ops e j = some b) (ha : Ag n e a) : yielded ops.toArray a.tmps j = some b := by
  unfold yieldE at h
  unfold yielded
  cases ho : ops[j]? with
  | none => simp [ho] at h
  | some o =>
    simp only [ho] at h
    cases hd : o.dst with
    | none => simp [hd] at h
    | some d =>
      simp only [hd] at h
      cases hl : look e d with
      | none => simp [hl] at h
      | some v =>
        have := ha.2.2 d v hl
        simp only [hl] at h
        simp [ho, hd, this]
        cases v <;> simp_all

/-- The guard was passed over itself. -/
def yieldU (ops : List Oper) (e : Env) (j : Nat) : Bool :=
  match ops[j]? with
  | some o => match o.dst with
    | some d => match look e d with
      | some (.tuple _) => true
      | _ => false
    | none => false
  | none => false
theorem yieldU_spec {a : Act} {j : Nat} (h : yieldU ops e j = true) (ha : Ag n e a) : yielded ops.toArray a.tmps j = none := by
  unfold yieldU at h
  unfold yielded
  cases ho : ops[j]? with
  | none => simp [ho] at h
  | some o =>
    simp only [ho] at h
    cases hd : o.dst with
    | none => simp [hd] at h
    | some d =>
      simp only [hd] at h
      cases hl : look e d with
      | none => simp [hl] at h
      | some v =>
        have := ha.2.2 d v hl
        simp only [hl] at h
        simp [ho, hd, this]
        cases v <;> simp_all
theorem Rg.guardU {j : Nat} {want : Bool} (hg : o.guard = some (j, want)) (hd : dstOk n o.dst = true) (hy : yieldU ops e j = true)
    (h2 : Rg P n ops K rest (putE o.dst undef e) w) : Rg P n ops K (o :: rest) e w := by
  intro a ha
  have hyy := yieldU_spec hy ha
  unfold wpList
  rw [if_neg (by simp [Region.wanted, hg, hyy])]
  exact h2 _ (ha.put hd undef)

theorem Rg.guard {j : Nat} {want b : Bool} (hg : o.guard = some (j, want)) (hd : dstOk n o.dst = true) (hy : yieldE ops e j = some b)
    (h1 : b = want → OpT P e w o fun v w' => Rg P n ops K rest (putE o.dst v e) w') (h2 : b ≠ want → Rg P n ops K rest (putE o.dst undef e) w) : Rg P n ops K (o :: rest) e w := by
  intro a ha
  have hyy := yieldE_spec hy ha
  unfold wpList
  by_cases hb : b = want
  · rw [if_pos (by simp [Region.wanted, hg, hyy, hb])]
    refine .inl (upon_monoQ (Oper.wp_mono ?_ (h1 hb n a ha)))
    rintro a' w' ⟨v, rfl, hR⟩
    exact hR _ (ha.put hd v)
  · rw [if_neg (by simp [Region.wanted, hg, hyy, hb])]
    exact h2 hb _ (ha.put hd undef)

/-- A guarded operation that may be looked at whether it runs or not: its value is there just if it runs. -/
theorem Rg.guardTrue {j : Nat} {b : Bool} {v : Value} {Rel : World → World → Prop} (hg : o.guard = some (j, true)) (hd : dstOk n o.dst = true) (hy : yieldE ops e j = some b) (hr : Rel w w)
    (h1 : OpT P e w o fun u w' => u = v ∧ Rel w w') (h2 : ∀ w', Rel w w' → Rg P n ops K rest (putE o.dst (bif b then v else undef) e) w') : Rg P n ops K (o :: rest) e w := by
  refine Rg.guard hg hd hy (fun hb => h1.mono ?_) (fun hb => ?_)
  · rintro u w' ⟨rfl, hw⟩
    subst hb
    exact h2 w' hw
  · have : b = false := by cases b <;> simp_all
    subst this
    exact h2 w hr

theorem Rg.guardFalse {j : Nat} {b : Bool} {v : Value} {Rel : World → World → Prop} (hg : o.guard = some (j, false)) (hd : dstOk n o.dst = true) (hy : yieldE ops e j = some b) (hr : Rel w w)
    (h1 : OpT P e w o fun u w' => u = v ∧ Rel w w') (h2 : ∀ w', Rel w w' → Rg P n ops K rest (putE o.dst (bif b then undef else v) e) w') : Rg P n ops K (o :: rest) e w := by
  refine Rg.guard hg hd hy (fun hb => h1.mono ?_) (fun hb => ?_)
  · rintro u w' ⟨rfl, hw⟩
    subst hb
    exact h2 w' hw
  · have : b = true := by cases b <;> simp_all
    subst this
    exact h2 w hr

theorem Rg.gyes {j : Nat} {want b : Bool} (hg : o.guard = some (j, want)) (hd : dstOk n o.dst = true) (hy : yieldE ops e j = some b) (hb : b = want)
    (h : OpT P e w o fun v w' => Rg P n ops K rest (putE o.dst v e) w') : Rg P n ops K (o :: rest) e w := Rg.guard hg hd hy (fun _ => h) fun hn => absurd hb hn
theorem Rg.gno {j : Nat} {want b : Bool} (hg : o.guard = some (j, want)) (hd : dstOk n o.dst = true) (hy : yieldE ops e j = some b) (hb : b = !want)
    (h : Rg P n ops K rest (putE o.dst undef e) w) : Rg P n ops K (o :: rest) e w := Rg.guard hg hd hy (fun h' => by subst h'; cases b <;> cases hb) fun _ => h

/-! the same with the slot written out -/
theorem Rg.od {d : Nat} (hg : o.guard = none) (hd : o.dst = some d) (hn : Nat.blt d n = true) (h : OpT P e w o fun v w' => Rg P n ops K rest ((d, v) :: e) w') : Rg P n ops K (o :: rest) e w :=
  Rg.op hg (by rw [hd]; exact hn) (by rw [hd]; exact h)
theorem Rg.on (hg : o.guard = none) (hd : o.dst = none) (h : OpT P e w o fun _ w' => Rg P n ops K rest e w') : Rg P n ops K (o :: rest) e w :=
  Rg.op hg (by rw [hd]; rfl) (by rw [hd]; exact h)
theorem Rg.gy {j d : Nat} {want b : Bool} (hg : o.guard = some (j, want)) (hd : o.dst = some d) (hn : Nat.blt d n = true) (hy : yieldE ops e j = some b) (hb : b = want)
    (h : OpT P e w o fun v w' => Rg P n ops K rest ((d, v) :: e) w') : Rg P n ops K (o :: rest) e w := Rg.gyes hg (by rw [hd]; exact hn) hy hb (by rw [hd]; exact h)
theorem Rg.gyn {j : Nat} {want b : Bool} (hg : o.guard = some (j, want)) (hd : o.dst = none) (hy : yieldE ops e j = some b) (hb : b = want)
    (h : OpT P e w o fun _ w' => Rg P n ops K rest e w') : Rg P n ops K (o :: rest) e w := Rg.gyes hg (by rw [hd]; rfl) hy hb (by rw [hd]; exact h)
theorem Rg.gn {j d : Nat} {want b : Bool} (hg : o.guard = some (j, want)) (hd : o.dst = some d) (hn : Nat.blt d n = true) (hy : yieldE ops e j = some b) (hb : b = !want)
    (h : Rg P n ops K rest ((d, undef) :: e) w) : Rg P n ops K (o :: rest) e w := Rg.gno hg (by rw [hd]; exact hn) hy hb (by rw [hd]; exact h)
theorem Rg.gnn {j : Nat} {want b : Bool} (hg : o.guard = some (j, want)) (hd : o.dst = none) (hy : yieldE ops e j = some b) (hb : b = !want)
    (h : Rg P n ops K rest e w) : Rg P n ops K (o :: rest) e w := Rg.gno hg (by rw [hd]; rfl) hy hb (by rw [hd]; exact h)

theorem Rg.gu {j d : Nat} {want : Bool} (hg : o.guard = some (j, want)) (hd : o.dst = some d) (hn : Nat.blt d n = true) (hy : yieldU ops e j = true)
    (h : Rg P n ops K rest ((d, undef) :: e) w) : Rg P n ops K (o :: rest) e w := Rg.guardU hg (by rw [hd]; exact hn) hy (by rw [hd]; exact h)
theorem Rg.gun {j : Nat} {want : Bool} (hg : o.guard = some (j, want)) (hd : o.dst = none) (hy : yieldU ops e j = true)
    (h : Rg P n ops K rest e w) : Rg P n ops K (o :: rest) e w := Rg.guardU hg (by rw [hd]; rfl) hy (by rw [hd]; exact h)

theorem Rg.sub {e' : Env} {l : List Oper} (hs : Sub e' e) (h : Rg P n ops K l e' w) : Rg P n ops K l e w := fun a ha => h a (ha.sub hs)
end

/-! ### code -/

abbrev Post := Exit → Env → World → Prop
def lift (n : Nat) (Q : Post) : Exit → Act → World → Prop := fun x a w => ∃ e, Ag n e a ∧ Q x e w
def W (P : Program) (n : Nat) (c : Code) (Q : Post) (e : Env) (w : World) : Prop := ∀ a, Ag n e a → c.wp P (lift n Q) a w

def thenQ (K : Env → World → Prop) (Q : Post) : Post
  | .normal, e, w => K e w
  | x, e, w => Q x e w
def blockQ (id : Nat) (Q : Post) : Post
  | .exit id', e, w => if id' = id then Q .normal e w else Q (.exit id') e w
  | x, e, w => Q x e w

section
variable {P : Program} {n : Nat} {Q : Post} {e : Env} {w : World}

theorem W.mono {c : Code} {Q' : Post} (h : W P n c Q e w) (hq : ∀ x e w, Q x e w → Q' x e w) : W P n c Q' e w :=
  fun a ha => wp_mono (h a ha) fun _ _ _ ⟨e', h1, h2⟩ => ⟨e', h1, hq _ _ _ h2⟩

theorem W.sub {c : Code} {e' : Env} (hs : Sub e' e) (h : W P n c Q e' w) : W P n c Q e w := fun a ha => h a (ha.sub hs)

theorem W.skip (h : Q .normal e w) : W P n .skip Q e w := fun _ ha => wp_skip ⟨e, ha, h⟩
theorem W.label {l : Nat} (h : Q .normal e w) : W P n (.label l) Q e w := fun _ ha => wp_label ⟨e, ha, h⟩
theorem W.exit {id : Nat} (h : Q (.exit id) e w) : W P n (.exit id) Q e w := fun _ ha => wp_exit ⟨e, ha, h⟩
theorem W.ret (h : Q .ret e w) : W P n .ret Q e w := fun _ ha => wp_ret ⟨e, ha, h⟩
theorem W.seq {x y : Code} (h : W P n x (thenQ (W P n y Q) Q) e w) : W P n (.seq x y) Q e w := by
  intro a ha
  refine wp_seq (wp_mono (h a ha) ?_)
  rintro ex a' w' ⟨e', h1, h2⟩
  cases ex with
  | normal => exact h2 _ h1
  | _ => exact ⟨e', h1, h2⟩
theorem W.seqK {x y : Code} (h : ∀ K : Env → World → Prop, (∀ e w, W P n y Q e w → K e w) → W P n x (thenQ K Q) e w) : W P n (.seq x y) Q e w :=
  W.seq (h _ fun _ _ h => h)
theorem W.seqM {x y : Code} (M : Env → World → Prop) (h : W P n x (thenQ M Q) e w) (h2 : ∀ e w, M e w → W P n y Q e w) : W P n (.seq x y) Q e w :=
  W.seq (h.mono fun x e w hh => by cases x <;> first | exact h2 _ _ hh | exact hh)
theorem W.cond {c : Operand} {x y : Code} {b : Bool} (hc : evalO e c = some (.bool b)) (h1 : b = true → W P n x Q e w) (h2 : b = false → W P n y Q e w) : W P n (.cond c x y) Q e w :=
  fun _ ha => wp_cond_split (ha.eval hc) (fun h => h1 h _ ha) (fun h => h2 h _ ha)
theorem W.condT {c : Operand} {x y : Code} (hc : evalO e c = some (.bool true)) (h1 : W P n x Q e w) : W P n (.cond c x y) Q e w :=
  fun _ ha => wp_cond_true (ha.eval hc) (h1 _ ha)
theorem W.condF {c : Operand} {x y : Code} (hc : evalO e c = some (.bool false)) (h1 : W P n y Q e w) : W P n (.cond c x y) Q e w :=
  fun _ ha => wp_cond_false (ha.eval hc) (h1 _ ha)
theorem W.condTb {c : Operand} {x y : Code} {b : Bool} (hc : evalO e c = some (.bool b)) (hb : b = true) (h1 : W P n x Q e w) : W P n (.cond c x y) Q e w := W.condT (by rw [hc, hb]) h1
theorem W.condFb {c : Operand} {x y : Code} {b : Bool} (hc : evalO e c = some (.bool b)) (hb : b = false) (h1 : W P n y Q e w) : W P n (.cond c x y) Q e w := W.condF (by rw [hc, hb]) h1
theorem W.block {id : Nat} {c : Code} (h : W P n c (blockQ id Q) e w) : W P n (.block id c) Q e w := by
  intro a ha
  refine wp_block (wp_mono (h a ha) ?_)
  rintro ex a' w' ⟨e', h1, h2⟩
  cases ex with
  | exit id' =>
    simp only [blockQ] at h2
    simp only [Exit.inBlock]
    by_cases hid : id' = id
    · rw [if_pos hid] at h2 ⊢; exact ⟨e', h1, h2⟩
    · rw [if_neg hid] at h2 ⊢; exact ⟨e', h1, h2⟩
  | _ => exact ⟨e', h1, h2⟩

/-- A loop: what holds at each round's head of some state s, and a measure of it. -/
theorem W.loop {σ : Type} {c : Code} (I : σ → Env → World → Prop) (μ : σ → Nat) (s0 : σ) (h0 : I s0 e w)
    (round : ∀ s e w, I s e w → W P n c (thenQ (fun e' w' => ∃ s', I s' e' w' ∧ μ s' < μ s) Q) e w) : W P n (.loop c) Q e w := by
  have key : ∀ m s, μ s = m → ∀ e w, I s e w → ∀ a, Ag n e a → ∀ (b : Frame) (k : List Item) (cs : List Frame),
      ∃ ex a' w', lift n Q ex a' w' ∧ Arrives P (lone (b.at a (.code c :: .inLoop c :: k)) cs w) b k cs ex a' w' := by
    intro m
    induction m using Nat.strongRecOn with
    | _ m ih =>
      intro s hm e w hI a ha b k cs
      obtain ⟨ex, a₁, w₁, ⟨e₁, hag, hq⟩, harr⟩ := round s e w hI a ha b (.inLoop c :: k) cs
      cases ex with
      | normal =>
        obtain ⟨s', hI', hlt⟩ := hq
        obtain ⟨e₂, a₂, w₂, hq₂, harr₂⟩ := ih _ (hm ▸ hlt) s' rfl e₁ w₁ hI' a₁ hag b k cs
        exact ⟨e₂, a₂, w₂, hq₂, .of_steps (Steps.trans harr (.one step_inLoop)) harr₂⟩
      | exit id => exact ⟨_, a₁, w₁, ⟨e₁, hag, hq⟩, .pass (x := .inLoop c) rfl (fun _ _ => .inl (by simp)) harr⟩
      | goto l => exact ⟨_, a₁, w₁, ⟨e₁, hag, hq⟩, .pass (x := .inLoop c) rfl (fun _ _ => .inl (by simp)) harr⟩
      | ret => exact ⟨_, a₁, w₁, ⟨e₁, hag, hq⟩, .pass (x := .inLoop c) rfl (fun _ _ => .inl (by simp)) harr⟩
      | panic ch => exact ⟨_, a₁, w₁, ⟨e₁, hag, hq⟩, .pass (x := .inLoop c) rfl (fun _ _ => .inl (by simp)) harr⟩
      | outgrown => exact ⟨_, a₁, w₁, ⟨e₁, hag, hq⟩, .pass (x := .inLoop c) rfl (fun _ _ => .inl (by simp)) harr⟩
  intro a ha b k cs
  obtain ⟨ex, a', w', hq, harr⟩ := key _ s0 rfl e w h0 a ha b k cs
  exact ⟨ex, a', w', hq, .of_steps (.one step_loop) harr⟩

/-- A region in the text's order. -/
theorem W.region {id : Nat} {l : List Oper} (h : Rg P n l (fun e w => Q .normal e w) l e w) : W P n (.region id l.toArray false) Q e w := by
  intro a ha
  refine wp_mono (wp_region_lit (Q := fun x a' w' => x = .normal ∧ ∃ e', Ag n e' a' ∧ Q .normal e' w') (h a ha)) ?_
  rintro x a' w' ⟨rfl, e', h1, h2⟩
  exact ⟨e', h1, h2⟩

end

/-! ### a function -/

def argsE : Nat → List Value → Env
  | _, [] => []
  | i, v :: r => (i, v) :: argsE (i + 1) r

theorem look_argsE (l : List Value) : ∀ i t v, look (argsE i l) t = some v → i ≤ t ∧ l[t - i]? = some v := by
  induction l with
  | nil => intro i t v h; cases h
  | cons u r ih =>
    intro i t v h
    simp only [argsE] at h
    rw [look_cons] at h
    by_cases hi : i = t
    · subst hi; rw [if_pos rfl] at h; cases h; simp
    · rw [if_neg hi] at h
      obtain ⟨h1, h2⟩ := ih _ _ _ h
      refine ⟨by omega, ?_⟩
      have : t - i = (t - (i + 1)) + 1 := by omega
      rw [this]; simpa using h2

/-- What a function gives back, out of its slots. -/
def Res (P : Program) (fn : Func) (e : Env) (w : World) (v : Value) : Prop := ∀ n a, Ag n e a → (results fn a.tmps).run P w = .ok v w
def retQ (P : Program) (fn : Func) (K : Value → World → Prop) : Post
  | .normal, e, w => ∃ v, Res P fn e w v ∧ K v w
  | .ret, e, w => ∃ v, Res P fn e w v ∧ K v w
  | _, _, _ => False

theorem Runs.of_W {P : Program} {f : FuncId} {fn : Func} {c : Code} {vs : List Value} {w : World} {K : Value → World → Prop}
    (hf : P.funcs[f]? = some fn) (hb : fn.body = some c) (hn : Nat.ble vs.length fn.ntmps = true)
    (h : W P fn.ntmps c (retQ P fn K) (argsE 0 vs) w) : Runs P f vs.toArray w K := by
  refine calls_of_wp hf hb (wp_mono (h _ ?_) ?_)
  · have hn' : vs.length ≤ fn.ntmps := Nat.le_of_ble_eq_true hn
    refine ⟨rfl, by simp; omega, fun t v ht => ?_⟩
    obtain ⟨_, h2⟩ := look_argsE vs 0 t v ht
    have hlt : t < vs.length := by
      rcases Nat.lt_or_ge t vs.length with h | h
      · exact h
      · rw [List.getElem?_eq_none (by omega)] at h2; cases h2
    simp only [Nat.sub_zero] at h2
    rw [Array.getElem?_append_left (by simpa using hlt)]
    simpa using h2
  · rintro x a w' ⟨e, ha, hq⟩
    cases x with
    | normal => obtain ⟨v, hr, hK⟩ := hq; exact ⟨ha.1, v, hr _ a ha, v, rfl, hK⟩
    | ret => obtain ⟨v, hr, hK⟩ := hq; exact ⟨ha.1, v, hr _ a ha, v, rfl, hK⟩
    | exit id => exact hq.elim
    | goto l => exact hq.elim
    | panic ch => exact hq.elim
    | outgrown => exact hq.elim

theorem getD_of {n : Nat} {e : Env} {a : Act} (h : Ag n e a) {t : Nat} {v : Value} (ht : look e t = some v) : a.tmps.getD t undef = v := h.eval (x := .tmp t) ht

section
variable {P : Program} {fn : Func} {e : Env} {w : World}
theorem Res.zero (h : fn.results = #[]) : Res P fn e w (.tuple #[]) := fun _ a _ => results_none h a.tmps P w
theorem Res.one {t : Tmp} {v : Value} (h : fn.results = #[.tmp t]) (ht : look e t = some v) : Res P fn e w v := fun _ a ha => by rw [results_tmp h, getD_of ha ht]
theorem Res.two {t u : Tmp} {v v' : Value} (h : fn.results = #[.tmp t, .tmp u]) (ht : look e t = some v) (hu : look e u = some v') : Res P fn e w (.tuple #[v, v']) :=
  fun _ a ha => by rw [results_tmp2 h, getD_of ha ht, getD_of ha hu]
theorem Res.three {t u s : Tmp} {v v' v'' : Value} (h : fn.results = #[.tmp t, .tmp u, .tmp s]) (ht : look e t = some v) (hu : look e u = some v') (hs : look e s = some v'') : Res P fn e w (.tuple #[v, v', v'']) :=
  fun _ a ha => by
    have h1 := getD_of ha ht
    have h2 := getD_of ha hu
    have h3 := getD_of ha hs
    simp only [Array.getD_eq_getD_getElem?] at h1 h2 h3
    simp [results, h, h1, h2, h3]
end
end Go.Proofs.Bw
