/-
  A region in the text's order, by a program: what it leaves to be shown.
-/
import Derived.Test.YtnoghkpofpaeeaaGreatPev
import Derived.OrdersIn
import Derived.TacticsIn
import Derived.RangeFuncNested
import Derived.RangeFuncBound
import Derived.RangeFuncCalls
import Derived.RangeFuncLeaves
namespace Go.Proofs.Bw
open Go Go.RowKit

structure RE where
  d : Option Nat
  p : List (Nat × Bool)
  sv : SV
abbrev SEnv := List (Nat × SV)
def lookS : SEnv → Nat → Option SV
  | [], _ => none
  | (k, s) :: r, t => bif Nat.beq k t then some s else lookS r t
def firstR : List RE → Nat → Option RE
  | [], _ => none
  | r :: l, t => match r.d with
    | some d => bif Nat.beq d t then some r else firstR l t
    | none => firstR l t
def boolOf : SV → Option Bool
  | .v (.bool x) => some x
  | _ => none
def entB (R : List RE) (t : Nat) : Option Bool :=
  match firstR R t with
  | some r => boolOf r.sv
  | none => none
def condR (R : List RE) : List (Nat × Bool) → Bool
  | [] => true
  | (t, q) :: p => condR R p && (match entB R t with
    | some x => bif q then x else !x
    | none => false)
def pathImp (R : List RE) : List (Nat × Bool) → Prop → Prop
  | [], G => G
  | (t, q) :: p, G => pathImp R p (match entB R t, q with
    | some x, true => x = true → G
    | some x, false => x = false → G
    | none, _ => False)
theorem pathImp_iff (R : List RE) : ∀ (p : List (Nat × Bool)) (G : Prop), pathImp R p G → condR R p = true → G
  | [], G, h, _ => h
  | (t, q) :: p, G, h, hc => by
    simp only [condR, Bool.and_eq_true] at hc
    have := pathImp_iff R p _ h hc.1
    cases he : entB R t with
    | none => rw [he] at hc; simp at hc
    | some x =>
      rw [he] at this hc
      cases q <;> cases x <;> simp_all
def eqPath : List (Nat × Bool) → List (Nat × Bool) → Bool
  | [], [] => true
  | (t, q) :: p, (u, s) :: r => Nat.beq t u && (q == s) && eqPath p r
  | _, _ => false
theorem eqPath_eq : ∀ {p r : List (Nat × Bool)}, eqPath p r = true → p = r
  | [], [], _ => rfl
  | (t, q) :: p, (u, s) :: r, h => by
    simp only [eqPath, Bool.and_eq_true] at h
    obtain ⟨⟨h1, h2⟩, h3⟩ := h
    rw [Nat.eq_of_beq_eq_true h1, eq_of_beq h2, eqPath_eq h3]
  | [], _ :: _, h => by cases h
  | _ :: _, [], h => by cases h
def isSuf (p : List (Nat × Bool)) : List (Nat × Bool) → Bool
  | [] => eqPath p []
  | x :: r => eqPath p (x :: r) || isSuf p r
theorem isSuf_cond {R : List RE} {p : List (Nat × Bool)} : ∀ {r : List (Nat × Bool)}, isSuf p r = true → condR R r = true → condR R p = true
  | [], h, hc => by rw [eqPath_eq h]; exact hc
  | (t, q) :: r, h, hc => by
    simp only [isSuf, Bool.or_eq_true] at h
    rcases h with h | h
    · rw [eqPath_eq h]; exact hc
    · simp only [condR, Bool.and_eq_true] at hc
      exact isSuf_cond h hc.1
def dstFree (n : Nat) (R : List RE) : Option Nat → Bool
  | none => true
  | some t => Nat.blt t n && (match firstR R t with
    | none => true
    | some _ => false)
inductive GR where
  | go (p : List (Nat × Bool))
  | skip (p : List (Nat × Bool))
  | no
def guardE (r : RE) (t : Nat) (q : Bool) : GR :=
  match r.sv with
  | .v (.bool _) => .go ((t, q) :: r.p)
  | .v (.tuple _) => .skip r.p
  | _ => .no
def guardOf (ops : List Oper) (R : List RE) (j : Nat) (q : Bool) : GR :=
  match ops[j]? with
  | some o => match o.dst with
    | some t => match firstR R t with
      | some r => guardE r t q
      | none => .no
    | none => .no
  | none => .no
def evR (R : List RE) (e : SEnv) (p : List (Nat × Bool)) : Operand → Option SV
  | .tmp t => match firstR R t with
    | some r => bif isSuf r.p p then some r.sv else none
    | none => lookS e t
  | .const v => some (.v v)
  | .global g => some (.v (.pointer (some ⟨g, 0, none⟩)))
  | .func f => some (.f f [] [])
def orE : Option SV → Option SV → Option SV
  | some s, _ => some s
  | none, x => x
/-- of a pick's two: what is there under its own condition, too -/
def evP (R : List RE) (e : SEnv) (p : List (Nat × Bool)) (q : Bool) (o : Op) (x : Operand) : Option SV :=
  match o with
  | .pick (.tmp t) _ _ => match firstR R t with
    | some r => orE (evR R e p x) (evR R e ((t, q) :: r.p) x)
    | none => evR R e p x
  | _ => evR R e p x
def opE (ρ : List Nat) (f : Operand → Option SV) : List Nat → Env
  | [] => []
  | t :: r => match f (.tmp t) with
    | some s => (t, conc ρ s) :: opE ρ f r
    | none => opE ρ f r
def Lands (ρ : List Nat) (k : SV → List Nat → Heap → World → Prop) (v : Value) (w' : World) : Prop :=
  ∃ s l H', conc (ρ ++ l) s = v ∧ wf (ρ ++ l).length s = true ∧ Holds (ρ ++ l) H' w' ∧ k s (ρ ++ l) H' w'
def oneS : SV → Bool
  | .v x => x.oneCell'
  | .p _ _ => true
  | .f _ _ _ => true
  | _ => false
def putCells (sz off : Nat) (cs : List SV) (s : SV) : Option (List SV) :=
  match cellsS s with
  | some us => bif Nat.beq us.length sz && Nat.ble (off + sz) cs.length && us.all oneS then some (cs.take off ++ us ++ cs.drop (off + sz)) else none
  | none => none
def vGen (C : Cx) (o : Oper) (ev : Operand → Option SV) (ρ : List Nat) (w : World) (k : SV → List Nat → Heap → World → Prop) : Prop :=
  OpT C.P (opE ρ ev (looks o)) w o (Lands ρ k)
def vStore (C : Cx) (o : Oper) (ev : Operand → Option SV) (t : Nat) (a y : Operand) (ρ : List Nat) (H : Heap) (w : World) (k : SV → List Nat → Heap → World → Prop) : Prop :=
  match ev a, ev y, tget C.tab t with
  | some (.p b off), some s, some td => match hget H b with
    | some cs => match putCells td.size off cs s with
      | some cs' => ∀ w', Upd (adr ρ b) w w' → (w'.heap.size = w.heap.size ∧ ∀ k t, tyAt w k t → tyAt w' k t) → Holds ρ (hset H b cs') w' → fH (hset H b cs') fun H' => k (.v undef) ρ H' w'
      | none => vGen C o ev ρ w k
    | none => vGen C o ev ρ w k
  | _, _, _ => vGen C o ev ρ w k
def vCall (C : Cx) (o : Oper) (ev : Operand → Option SV) (x : Operand) (args : List Operand) (ρ : List Nat) (w : World) (k : SV → List Nat → Heap → World → Prop) : Prop :=
  match ev x, evL ev args with
  | some (.f g fs cs), some us => bif nmem C.fns g then Runs C.P g ⟨concs ρ (fs ++ us ++ cs)⟩ w (Lands ρ k) else vGen C o ev ρ w k
  | _, _ => vGen C o ev ρ w k
def vMove (C : Cx) (o : Oper) (ev : Operand → Option SV) (ρ : List Nat) (H : Heap) (w : World) (k : SV → List Nat → Heap → World → Prop) : Prop :=
  match o.op with
  | .box u x => match ev x with
    | some s => match cellsS s with
      | some cs => ∀ g w', g = w.heap.size → Ext w w' → (w'.heap.size = w.heap.size + 1 ∧ tyAt w' g u) → Holds (ρ ++ [g]) (H ++ [(ρ.length, cs)]) w' → fR (ρ ++ [g]) fun ρ' => fH (H ++ [(ρ.length, cs)]) fun H' => k (.p ρ.length 0) ρ' H' w'
      | none => vGen C o ev ρ w k
    | none => vGen C o ev ρ w k
  | .alloc t => match tget C.tab t with
    | some td => ∀ g w', g = w.heap.size → Ext w w' → (w'.heap.size = w.heap.size + 1 ∧ tyAt w' g t) → Holds (ρ ++ [g]) (H ++ [(ρ.length, td.zero.map .v)]) w' → fR (ρ ++ [g]) fun ρ' => fH (H ++ [(ρ.length, td.zero.map .v)]) fun H' => k (.p ρ.length 0) ρ' H' w'
    | none => vGen C o ev ρ w k
  | .store t a y => vStore C o ev t a y ρ H w k
  | .call ⟨.value x, args, _⟩ => vCall C o ev x args.toList ρ w k
  | _ => vGen C o ev ρ w k
/-- An operation yields just this, and the world only grows. -/
def vDet (C : Cx) (o : Oper) (ev : Operand → Option SV) (ρ : List Nat) (w : World) (x : Value) : Prop :=
  match o.op with
  | .call ⟨.value g, args, _⟩ => match ev g, evL ev args.toList with
    | some (.f g fs cs), some us => bif nmem C.fns g then Runs C.P g ⟨concs ρ (fs ++ us ++ cs)⟩ w (fun v w' => v = x ∧ Ext w w') else OpT C.P (opE ρ ev (looks o)) w o (fun v w' => v = x ∧ Ext w w')
    | _, _ => OpT C.P (opE ρ ev (looks o)) w o (fun v w' => v = x ∧ Ext w w')
  | _ => OpT C.P (opE ρ ev (looks o)) w o (fun v w' => v = x ∧ Ext w w')
def chk (b : Bool) (p : Prop) : Prop :=
  match b with
  | true => p
  | false => False
def vOp (C : Cx) (o : Oper) (p : List (Nat × Bool)) (R : List RE) (e : SEnv) (ρ : List Nat) (H : Heap) (w : World) (k : SV → List Nat → Heap → World → Prop) : Prop :=
  match pev C (evR R e p) (evP R e p true o.op) (evP R e p false o.op) H o.op with
  | .ok s => chk (wf ρ.length s) (k s ρ H w)
  | .side q s => pathImp R p q ∧ chk (wf ρ.length s) (k s ρ H w)
  | .no => match p with
    | [] => vMove C o (evR R e []) ρ H w k
    | x :: r => (∃ v, pathImp R (x :: r) (vDet C o (evR R e (x :: r)) ρ w v) ∧ ∀ w', Ext w w' → Holds ρ H w' → k (.v v) ρ H w') ∨
        ((condR R (x :: r) = true → vMove C o (evR R e (x :: r)) ρ H w k) ∧ (condR R (x :: r) = false → k (.v undef) ρ H w))
def endE (R : List RE) (e : SEnv) : List Nat → SEnv
  | [] => []
  | t :: l => match firstR R t with
    | some r => match r.p with
      | [] => (t, r.sv) :: endE R e l
      | _ => endE R e l
    | none => match lookS e t with
      | some s => (t, s) :: endE R e l
      | none => endE R e l
abbrev KC := SEnv → List Nat → Heap → World → Prop
/-- one op, then the rest -/
def vStep (C : Cx) (n : Nat) (ops : List Oper) (o : Oper) (ih : List RE → SEnv → List Nat → Heap → World → Prop) (R : List RE) (e : SEnv) (ρ : List Nat) (H : Heap) (w : World) : Prop :=
  match dstFree n R o.dst with
    | false => False
    | true => match o.guard with
      | none => vOp C o [] R e ρ H w fun s ρ' H' w' => ih (⟨o.dst, [], s⟩ :: R) e ρ' H' w'
      | some (j, q) => match guardOf ops R j q with
        | .go p => vOp C o p R e ρ H w fun s ρ' H' w' => ih (⟨o.dst, p, s⟩ :: R) e ρ' H' w'
        | .skip p => ih (⟨o.dst, p, .v undef⟩ :: R) e ρ H w
        | .no => False
/-- by the bare recursor: the kernel and the elaborator then see the same rest -/
def vOps (C : Cx) (n : Nat) (live : List Nat) (ops : List Oper) (K : KC) (l : List Oper) : List RE → SEnv → List Nat → Heap → World → Prop :=
  @List.rec Oper (fun _ => List RE → SEnv → List Nat → Heap → World → Prop) (fun R e ρ H w => fE (endE R e live) fun e' => K e' ρ H w) (fun o _ ih => vStep C n ops o ih) l
theorem vOps_nil {C : Cx} {n : Nat} {live : List Nat} {ops : List Oper} {K : KC} {R : List RE} {e : SEnv} {ρ : List Nat} {H : Heap} {w : World} :
    vOps C n live ops K [] R e ρ H w = fE (endE R e live) fun e' => K e' ρ H w := rfl
theorem vOps_cons {C : Cx} {n : Nat} {live : List Nat} {ops : List Oper} {K : KC} {o : Oper} {r : List Oper} {R : List RE} {e : SEnv} {ρ : List Nat} {H : Heap} {w : World} :
    vOps C n live ops K (o :: r) R e ρ H w = vStep C n ops o (vOps C n live ops K r) R e ρ H w := rfl

section
variable {ds : List Deferred} {r0 : Option Nat} {N : Nat} {ρ : List Nat} {n : Nat} {e : SEnv} {R : List RE} {H : Heap} {w : World} {a : Act} {P : Program} {C : Cx}
/-- What a slot holds hangs on no deferral. -/
def AgT (n : Nat) (e : Env) (a : Act) : Prop := a.tmps.size = n ∧ ∀ t v, look e t = some v → a.tmps[t]? = some v
def AgS (ds : List Deferred) (ρ : List Nat) (n : Nat) (e : SEnv) (a : Act) : Prop := a.defers = ds ∧ a.tmps.size = n ∧ ∀ t s, lookS e t = some s → wf ρ.length s = true ∧ a.tmps[t]? = some (conc ρ s)
structure AgR (ds : List Deferred) (ρ : List Nat) (n : Nat) (e : SEnv) (R : List RE) (a : Act) : Prop where
  defers : a.defers = ds
  size : a.tmps.size = n
  base : ∀ t, firstR R t = none → ∀ s, lookS e t = some s → wf ρ.length s = true ∧ a.tmps[t]? = some (conc ρ s)
  loc : ∀ t r, firstR R t = some r → wf ρ.length r.sv = true ∧ a.tmps[t]? = some (bif condR R r.p then conc ρ r.sv else undef)
  paths : ∀ t r, firstR R t = some r → ∀ x ∈ r.p, (entB R x.1).isSome = true
theorem AgS.start (h : AgS ds ρ n e a) : AgR ds ρ n e [] a := ⟨h.1, h.2.1, fun t _ s hs => h.2.2 t s hs, fun t r h => by simp [firstR] at h, fun t r h => by simp [firstR] at h⟩
theorem AgR.app (h : AgR ds ρ n e R a) (l : List Nat) : AgR ds (ρ ++ l) n e R a := by
  refine ⟨h.defers, h.size, fun t ht s hs => ?_, fun t r hr => ?_, h.paths⟩
  · obtain ⟨h1, h2⟩ := h.base t ht s hs
    exact ⟨wf_mono (by simp) _ h1, by rw [conc_app l s h1]; exact h2⟩
  · obtain ⟨h1, h2⟩ := h.loc t r hr
    exact ⟨wf_mono (by simp) _ h1, by rw [conc_app l _ h1]; exact h2⟩
theorem firstR_cons (r : RE) (R : List RE) (t : Nat) : firstR (r :: R) t = if r.d = some t then some r else firstR R t := by
  simp only [firstR]
  cases hd : r.d with
  | none => simp
  | some d =>
    simp only
    by_cases hdt : d = t
    · subst hdt; simp
    · rw [beq_ne hdt, if_neg (by simp; exact hdt)]; rfl
theorem dstFree_spec {d : Option Nat} (h : dstFree n R d = true) : dstOk n d = true ∧ ∀ t, d = some t → firstR R t = none := by
  cases d with
  | none => exact ⟨rfl, fun t h => by cases h⟩
  | some t =>
    simp only [dstFree, Bool.and_eq_true] at h
    refine ⟨h.1, fun u hu => ?_⟩
    cases hu
    cases hf : firstR R t with
    | none => rfl
    | some r => rw [hf] at h; exact absurd h.2 (by simp)
theorem entB_cons {r : RE} {t : Nat} (hf : dstFree n R r.d = true) (ht : (entB R t).isSome = true) : entB (r :: R) t = entB R t := by
  unfold entB
  rw [firstR_cons]
  by_cases hd : r.d = some t
  · have := (dstFree_spec hf).2 t hd
    unfold entB at ht
    rw [this] at ht; cases ht
  · rw [if_neg hd]
theorem condR_cons {r : RE} (hf : dstFree n R r.d = true) : ∀ {p : List (Nat × Bool)}, (∀ x ∈ p, (entB R x.1).isSome = true) → condR (r :: R) p = condR R p
  | [], _ => rfl
  | (t, q) :: p, h => by
    simp only [condR]
    rw [entB_cons hf (h (t, q) (by simp)), condR_cons hf (fun x hx => h x (by simp [hx]))]
theorem put_get {a : Act} {d : Option Nat} (hd : dstOk a.tmps.size d = true) (v : Value) (t : Nat) : (a.put d v).tmps[t]? = if d = some t then some v else a.tmps[t]? := by
  cases d with
  | none => simp [Act.put]
  | some u =>
    have hu : u < a.tmps.size := by simpa [dstOk, Nat.blt_eq] using hd
    simp only [Act.put, Option.some.injEq]
    by_cases hut : u = t
    · subst hut; rw [if_pos rfl, Array.getElem?_setIfInBounds_self_of_lt hu]
    · rw [if_neg hut, Array.getElem?_setIfInBounds_ne hut]
theorem AgR.step (h : AgR ds ρ n e R a) {d : Option Nat} {p : List (Nat × Bool)} {s : SV} (hf : dstFree n R d = true) (hp : ∀ x ∈ p, (entB R x.1).isSome = true) (hs : wf ρ.length s = true) :
    AgR ds ρ n e (⟨d, p, s⟩ :: R) (a.put d (bif condR R p then conc ρ s else undef)) := by
  obtain ⟨hd, hfr⟩ := dstFree_spec hf
  have hd' : dstOk a.tmps.size d = true := by rw [h.size]; exact hd
  refine ⟨?_, ?_, fun t ht s' hs' => ?_, fun t r hr => ?_, fun t r hr x hx => ?_⟩
  · cases d <;> simp [Act.put, h.defers]
  · cases d <;> simp [Act.put, h.size]
  · rw [firstR_cons] at ht
    by_cases hdt : d = some t
    · rw [if_pos hdt] at ht; cases ht
    · rw [if_neg hdt] at ht
      rw [put_get hd', if_neg hdt]
      exact h.base t ht s' hs'
  · rw [firstR_cons] at hr
    rw [put_get hd']
    by_cases hdt : d = some t
    · rw [if_pos hdt] at hr; cases hr
      rw [if_pos hdt, condR_cons hf hp]
      exact ⟨hs, rfl⟩
    · rw [if_neg hdt] at hr
      rw [if_neg hdt, condR_cons hf (h.paths t r hr)]
      exact h.loc t r hr
  · rw [firstR_cons] at hr
    by_cases hdt : d = some t
    · rw [if_pos hdt] at hr; cases hr
      rw [entB_cons hf (hp x hx)]; exact hp x hx
    · rw [if_neg hdt] at hr
      rw [entB_cons hf (h.paths t r hr x hx)]; exact h.paths t r hr x hx
theorem AgR.eval (h : AgR ds ρ n e R a) {p : List (Nat × Bool)} (hc : condR R p = true) : Tells ρ (evR R e p) a.eval := by
  intro x s hs
  cases x with
  | tmp t =>
    simp only [evR] at hs
    have key : ∀ {v : Value}, a.tmps[t]? = some v → a.eval (.tmp t) = v := fun hv => by simp [Act.eval, Array.getD_eq_getD_getElem?, hv]
    cases hf : firstR R t with
    | none => rw [hf] at hs; obtain ⟨h1, h2⟩ := h.base t hf s hs; exact ⟨h1, key h2⟩
    | some r =>
      rw [hf] at hs
      simp only at hs
      obtain ⟨h1, h2⟩ := h.loc t r hf
      cases hsuf : isSuf r.p p with
      | false => rw [hsuf] at hs; cases hs
      | true =>
        rw [hsuf] at hs
        cases hs
        rw [isSuf_cond hsuf hc] at h2
        exact ⟨h1, key h2⟩
  | const v => simp only [evR, Option.some.injEq] at hs; subst hs; exact ⟨rfl, rfl⟩
  | global g => simp only [evR, Option.some.injEq] at hs; subst hs; exact ⟨rfl, rfl⟩
  | func f => simp only [evR, Option.some.injEq] at hs; subst hs; exact ⟨rfl, rfl⟩
theorem AgR.evalP (h : AgR ds ρ n e R a) {p : List (Nat × Bool)} (hc : condR R p = true) {c x y z : Operand} {q : Bool} (hq : a.eval c = .bool q) {s : SV} (hs : evP R e p q (.pick c x y) z = some s) :
    wf ρ.length s = true ∧ a.eval z = conc ρ s := by
  have h0 := h.eval hc
  cases c with
  | tmp t =>
    simp only [evP] at hs
    cases hf : firstR R t with
    | none => rw [hf] at hs; exact h0 z s hs
    | some r =>
      rw [hf] at hs
      simp only at hs
      cases hz : evR R e p z with
      | some s' => rw [hz] at hs; simp only [orE, Option.some.injEq] at hs; subst hs; exact h0 z _ hz
      | none =>
        rw [hz] at hs
        simp only [orE] at hs
        obtain ⟨h1, h2⟩ := h.loc t r hf
        have hv : (bif condR R r.p then conc ρ r.sv else undef) = .bool q := by
          have : a.eval (.tmp t) = (bif condR R r.p then conc ρ r.sv else undef) := by simp [Act.eval, Array.getD_eq_getD_getElem?, h2]
          rw [← this]; exact hq
        have hcond : condR R ((t, q) :: r.p) = true := by
          cases hcr : condR R r.p with
          | false => rw [hcr] at hv; simp [undef] at hv
          | true =>
            rw [hcr] at hv
            simp only [cond_true] at hv
            simp only [condR, hcr, Bool.true_and]
            have hb : entB R t = some q := by
              unfold entB
              rw [hf]
              simp only
              cases hsv : r.sv with
              | v y => rw [hsv] at hv; simp only [conc] at hv; subst hv; rfl
              | p k off => rw [hsv] at hv; simp [conc] at hv
              | a l => rw [hsv] at hv; simp [conc] at hv
              | t l => rw [hsv] at hv; simp [conc] at hv
              | f g u v => rw [hsv] at hv; simp [conc] at hv
            rw [hb]
            cases q <;> rfl
        exact h.eval hcond z s hs
  | _ => exact h0 z s hs
theorem opE_look {ev : Operand → Option SV} : ∀ (l : List Nat) (t : Nat) (v : Value), look (opE ρ ev l) t = some v → ∃ s, ev (.tmp t) = some s ∧ v = conc ρ s := by
  intro l
  induction l with
  | nil => intro t v h; cases h
  | cons u r ih =>
    intro t v h
    simp only [opE] at h
    cases hu : ev (.tmp u) with
    | none => rw [hu] at h; exact ih t v h
    | some s =>
      rw [hu] at h
      rw [look_cons] at h
      by_cases hut : u = t
      · subst hut; rw [if_pos rfl] at h; cases h; exact ⟨s, hu, rfl⟩
      · rw [if_neg hut] at h; exact ih t v h
theorem AgR.opE (h : AgR ds ρ n e R a) {p : List (Nat × Bool)} (hc : condR R p = true) (l : List Nat) : AgT n (opE ρ (evR R e p) l) a := by
  refine ⟨h.size, fun t v ht => ?_⟩
  obtain ⟨s, hs, rfl⟩ := opE_look l t v ht
  simp only [evR] at hs
  cases hf : firstR R t with
  | none => rw [hf] at hs; exact (h.base t hf s hs).2
  | some r =>
    rw [hf] at hs
    simp only at hs
    cases hsuf : isSuf r.p p with
    | false => rw [hsuf] at hs; cases hs
    | true =>
      rw [hsuf] at hs
      cases hs
      have := (h.loc t r hf).2
      rwa [isSuf_cond hsuf hc] at this
theorem guardOf_spec (h : AgR ds ρ n e R a) {ops : List Oper} {j : Nat} {q : Bool} : (∀ p, guardOf ops R j q = .go p → (∀ x ∈ p, (entB R x.1).isSome = true) ∧ ((yielded ops.toArray a.tmps j = some q) ↔ condR R p = true)) ∧
    (∀ p, guardOf ops R j q = .skip p → (∀ x ∈ p, (entB R x.1).isSome = true) ∧ yielded ops.toArray a.tmps j = none) := by
  unfold guardOf
  cases ho : ops[j]? with
  | none => simp
  | some o =>
    simp only
    cases hd : o.dst with
    | none => simp
    | some t =>
      simp only
      cases hf : firstR R t with
      | none => simp
      | some r =>
        simp only
        obtain ⟨h1, h2⟩ := h.loc t r hf
        have hy : yielded ops.toArray a.tmps j = match a.tmps[t]? with | some (.bool b) => some b | _ => none := by
          simp [yielded, ho, hd]
          rfl
        rw [h2] at hy
        have hpaths := h.paths t r hf
        unfold guardE
        split
        · rename_i b hsv
          refine ⟨fun p hp => ?_, fun p hp => by simp at hp⟩
          simp only [GR.go.injEq] at hp
          subst hp
          have hb : entB R t = some b := by unfold entB; rw [hf]; simp only; rw [hsv]; rfl
          refine ⟨fun x hx => ?_, ?_⟩
          · rcases List.mem_cons.1 hx with rfl | hx
            · show (entB R t).isSome = true; rw [hb]; rfl
            · exact hpaths x hx
          · rw [hy]
            simp only [condR, hb, hsv, conc]
            cases condR R r.p <;> cases b <;> cases q <;> simp [undef]
        · rename_i b hsv
          refine ⟨fun p hp => by simp at hp, fun p hp => ?_⟩
          simp only [GR.skip.injEq] at hp
          subst hp
          refine ⟨hpaths, ?_⟩
          rw [hy]
          simp only [hsv, conc]
          cases condR R r.p <;> simp [undef]
        · simp

theorem oneS_spec {s : SV} (h : oneS s = true) : (conc ρ s).oneCell' = true := by
  cases s <;> first | exact h | rfl | cases h
/-- What a store of a whole value does to a block of one's own. -/
theorem store_box {P : Program} {g off sz : Nat} {us vs : List Value} {w : World} (hb : Box w g vs) (hn : us.length = sz) (hl : off + sz ≤ vs.length) (h1 : ∀ u ∈ us, u.oneCell' = true) :
    ∃ w', (storeCells ⟨g, off, none⟩ us).run P w = .ok () w' ∧ Upd g w w' ∧ (w'.heap.size = w.heap.size ∧ ∀ k t, tyAt w k t → tyAt w' k t) ∧ Box w' g (vs.take off ++ us ++ vs.drop (off + sz)) := by
  obtain ⟨w', hr, hu, hs, hB⟩ := run_storeCells_box (P := P) us off vs w hb (by omega) h1
  refine ⟨w', ?_, hu, hs, by rw [← hn]; exact hB⟩
  have off' : ∀ (us : List Value) (i : Nat) (w : World), (storeCells ⟨g, off, none⟩ us i).run P w = (storeCells ⟨g, 0, none⟩ us (off + i)).run P w := by
    intro us
    induction us with
    | nil => intro i w; simp [storeCells]
    | cons u r ih =>
      intro i w
      simp only [storeCells, Sem.run_bind, Addr.add_lit, Nat.zero_add]
      congr 1
      funext u' w'
      rw [ih, Nat.add_assoc]
  rw [off']; simpa using hr

/-- An operation at an act, that goes on so. -/
def Runs1 (P : Program) (a : Act) (w : World) (o : Oper) (K : Value → World → Prop) : Prop := o.wp P a w (fun a' w' => ∃ v, a' = a.put o.dst v ∧ K v w') (fun _ _ _ => False)
theorem Runs1.of_does {K : Value → World → Prop} {v : Value} {o : Oper} (h : Does P a.eval w o v) (hk : K v w) : Runs1 P a w o K := by
  unfold Runs1 Oper.wp
  rw [h, Oper.upon_value]
  exact ⟨v, rfl, hk⟩
theorem Runs1.of_skip {K : Value → World → Prop} {w' : World} {o : Oper} (h : (execOp a.eval o).run P w = .ok .skip w') (hk : K undef w') : Runs1 P a w o K := by
  unfold Runs1 Oper.wp
  rw [h, Oper.upon_skip]
  exact ⟨undef, rfl, hk⟩
theorem Runs1.of_value {K : Value → World → Prop} {w' : World} {v : Value} {o : Oper} (h : (execOp a.eval o).run P w = .ok (.value v) w') (hk : K v w') : Runs1 P a w o K := by
  unfold Runs1 Oper.wp
  rw [h, Oper.upon_value]
  exact ⟨v, rfl, hk⟩
theorem Runs1.of_enter {K : Value → World → Prop} {o : Oper} {f : FuncId} {args : Array Value} (h : (execOp a.eval o).run P w = .ok (.enter f args) w) (hk : Runs P f args w K) : Runs1 P a w o K := by
  unfold Runs1 Oper.wp
  rw [h, Oper.upon_enter]
  refine Calls.mono hk ?_
  rintro ee w'' ⟨v, rfl, hv⟩
  exact ⟨v, rfl, hv⟩
theorem Runs1.mono {K K' : Value → World → Prop} {o : Oper} (h : Runs1 P a w o K) (hk : ∀ v w', K v w' → K' v w') : Runs1 P a w o K' :=
  Oper.wp_mono (fun _ _ ⟨v, hv, hK⟩ => ⟨v, hv, hk _ _ hK⟩) h

theorem put_clean {o : Oper} {v u : Value} (h : (Act.put { a with defers := [] } o.dst v) = (Act.put { a with defers := [] } o.dst u)) : a.put o.dst v = a.put o.dst u := by
  cases hd : o.dst with
  | none => rfl
  | some t =>
    rw [hd] at h
    simp only [Act.put, Act.mk.injEq] at h ⊢
    exact ⟨h.1, trivial⟩
theorem put_defer {o : Oper} {d : Deferred} {v u : Value} {b : Act} (h : (Act.put { b with defers := d :: b.defers } o.dst v) = b.put o.dst u) : False := by
  have h3 := congrArg Act.defers h
  cases hd : o.dst <;> simp [Act.put, hd] at h3
theorem Runs1.clean {K : Value → World → Prop} {o : Oper} (h : Runs1 P { a with defers := [] } w o K) : Runs1 P a w o K := by
  unfold Runs1 Oper.wp at *
  have e : (execOp (Act.eval { a with defers := [] }) o) = execOp a.eval o := rfl
  rw [e] at h
  generalize (execOp a.eval o).run P w = q at *
  cases q with
  | ok x w' =>
    cases x with
    | value v => obtain ⟨u, h1, h2⟩ := h; exact ⟨u, put_clean h1, h2⟩
    | skip => obtain ⟨u, h1, h2⟩ := h; exact ⟨u, put_clean h1, h2⟩
    | defer d => obtain ⟨u, h1, h2⟩ := h; exact (put_defer (b := { a with defers := [] }) h1).elim
    | enter f args =>
      refine Calls.mono h ?_
      intro e w'' he
      cases e with
      | returned v => obtain ⟨u, h1, h2⟩ := he; exact ⟨u, put_clean h1, h2⟩
      | panicked ch => exact he
      | outgrown => exact he
    | row r args =>
      refine Rows.mono h ?_
      rintro v w'' ⟨u, h1, h2⟩; exact ⟨u, put_clean h1, h2⟩
    | _ => exact h
  | halt x w' => cases x <;> exact h
theorem OpT.at {K : Value → World → Prop} {o : Oper} {e : Env} (h : OpT P e w o K) (ha : AgT n e a) : Runs1 P a w o K :=
  Runs1.clean (h n { a with defers := [] } ⟨rfl, ha.1, ha.2⟩)
/-- any call and any step is allowed; in a round of a range, or in none -/
def Wf (r : Option Nat) : Fence := { Fence.wide with round := r }
theorem Runs1.wpIn {K : Value → World → Prop} {o : Oper} {next : Act → World → Prop} {Q : Exit → Act → World → Prop} (h : Runs1 P a w o K) (hk : ∀ v w', K v w' → next (a.put o.dst v) w') : o.wpIn (Wf r0) N P a w next Q := by
  have hd : ∀ c, o.op ≠ .defer c := by
    intro c hc
    unfold Runs1 Oper.wp at h
    have e : execOp a.eval o = (do pure (.defer (← resolve a.eval c o.type)) : Sem Next) := by
      obtain ⟨d, op, t, pos, af, g⟩ := o
      simp only at hc
      subst hc
      rfl
    rw [e, Sem.run_bind] at h
    generalize (resolve a.eval c o.type).run P w = q at h
    cases q with
    | ok x w' =>
      simp only [Result.andThen_ok, Sem.run_pure, Oper.upon] at h
      obtain ⟨u, h1, _⟩ := h
      exact put_defer h1
    | halt x w' => cases x <;> exact h
  refine ⟨fun f _ => trivial, ?_⟩
  rw [Oper.semAt_eq _ _ _ hd]
  unfold Runs1 Oper.wp at h
  generalize (execOp a.eval o).run P w = q at *
  cases q with
  | ok x w' =>
    cases x with
    | value v => obtain ⟨u, h1, h2⟩ := h; show next _ _; rw [h1]; exact hk _ _ h2
    | skip => obtain ⟨u, h1, h2⟩ := h; show next _ _; rw [h1]; exact hk _ _ h2
    | defer d => obtain ⟨u, h1, h2⟩ := h; exact (put_defer h1).elim
    | enter f args =>
      refine ⟨fun hh => by simp [Wf, Fence.wide] at hh, ?_⟩
      refine (callsIn_wide (n := N - 1)).2 (Calls.mono h ?_)
      intro e w'' he
      cases e with
      | returned v => obtain ⟨u, h1, h2⟩ := he; show next _ _; rw [h1]; exact hk _ _ h2
      | panicked ch => exact he.elim
      | outgrown => obtain ⟨_, _, hq⟩ := he; exact hq.elim
    | row r args =>
      refine ⟨fun hh => by simp [Wf, Fence.wide] at hh, ?_⟩
      intro c cs _
      obtain ⟨v, w'', ⟨u, h1, h2⟩, s⟩ := h c cs
      exact ⟨v, w'', by show next _ _; rw [h1]; exact hk _ _ h2, stepsIn_wide.2 s⟩
    | _ => exact h.elim
  | halt x w' => cases x <;> exact h.elim

theorem Lands.stay {k : SV → List Nat → Heap → World → Prop} {s : SV} (hs : wf ρ.length s = true) (hH : Holds ρ H w) (hk : k s ρ H w) : Lands ρ k (conc ρ s) w :=
  ⟨s, [], H, by rw [List.append_nil], by rw [List.append_nil]; exact hs, by rw [List.append_nil]; exact hH, by rw [List.append_nil]; exact hk⟩

variable {o : Oper} {k : SV → List Nat → Heap → World → Prop} {ev : Operand → Option SV}
theorem vGen_sound (hag : ∀ l, AgT n (opE ρ ev l) a) (h : vGen C o ev ρ w k) : Runs1 C.P a w o (Lands ρ k) := h.at (hag _)
theorem run_callVal {P : Program} {a : Operand → Value} {x : Operand} {f : FuncId} {first captured : Array Value} {args : Array Operand} {ats : Array TypeId} {d t pos af g} {us : List Value} {w : World} (hf : EntersAt P f) (hx : a x = .func (.func f) first captured)
    (ha : args.toList.map a = us) : (execOp a ⟨d, .call ⟨.value x, args, ats⟩, t, pos, af, g⟩).run P w = .ok (.enter f (first ++ us.toArray ++ captured)) w := by
  have hm : args.map a = us.toArray := by
    subst ha
    obtain ⟨l⟩ := args
    simp
  simp [execOp, resolve, Deferred.ofValue, hx, hm, invoke, hf]
theorem vCall_sound (hC : C.Ok) (ht : Tells ρ ev a.eval) (hag : ∀ l, AgT n (opE ρ ev l) a) {x : Operand} {args : Array Operand} {ats : Array TypeId} (ho : o.op = .call ⟨.value x, args, ats⟩) (h : vCall C o ev x args.toList ρ w k) : Runs1 C.P a w o (Lands ρ k) := by
  unfold vCall at h
  split at h
  · rename_i g fs cs us hx hus
    cases hm : nmem C.fns g with
    | false => rw [hm] at h; exact vGen_sound hag h
    | true =>
      rw [hm] at h
      obtain ⟨_, h1⟩ := ht x _ hx
      obtain ⟨h2, _⟩ := evL_spec ht hus
      obtain ⟨d, op, t, pos, af, gd⟩ := o
      simp only at ho
      subst ho
      refine Runs1.of_enter (run_callVal (hC.fns.get hm) (show a.eval x = .func (.func g) ⟨concs ρ fs⟩ ⟨concs ρ cs⟩ from h1) h2) ?_
      simp only [cond_true, concs_append] at h
      simpa using h
  · exact vGen_sound hag h
theorem vStore_sound (hC : C.Ok) (ht : Tells ρ ev a.eval) (hag : ∀ l, AgT n (opE ρ ev l) a) (hH : Holds ρ H w) {t : Nat} {x y : Operand} (ho : o.op = .store t x y) (h : vStore C o ev t x y ρ H w k) : Runs1 C.P a w o (Lands ρ k) := by
  unfold vStore at h
  split at h
  · rename_i b off s td hx hy hd
    split at h
    · rename_i cs hcs
      split at h
      · rename_i cs' hput
        obtain ⟨_, h1⟩ := ht x _ hx
        obtain ⟨hw2, h2⟩ := ht y _ hy
        have hsz := (hC.tab.get hd).size
        unfold putCells at hput
        split at hput
        · rename_i us hus
          cases hc : (Nat.beq us.length td.size && Nat.ble (off + td.size) cs.length && us.all oneS) with
          | false => rw [hc] at hput; cases hput
          | true =>
            rw [hc] at hput
            simp only [cond_true, Option.some.injEq] at hput
            simp only [Bool.and_eq_true] at hc
            obtain ⟨⟨c1, c2⟩, c3⟩ := hc
            have c1' := Nat.eq_of_beq_eq_true c1
            have c2' := Nat.le_of_ble_eq_true c2
            obtain ⟨e1, e2⟩ := cellsS_spec (ρ := ρ) hus hw2
            obtain ⟨hbl, hwc⟩ := hH.ok b cs hcs
            obtain ⟨w', hr, hu, hs, hB⟩ := store_box (P := C.P) (us := concs ρ us) (sz := td.size) (off := off) (hH.box b cs hcs) (by rw [concs_length, c1']) (by rw [concs_length]; exact c2') (by
              intro u hu
              obtain ⟨i, hi, hiu⟩ := List.mem_iff_getElem.1 hu
              have := concs_get ρ us i
              rw [List.getElem?_eq_getElem hi, hiu] at this
              cases hsi : us[i]? with
              | none => rw [hsi] at this; cases this
              | some s' =>
                rw [hsi] at this
                cases this
                exact oneS_spec (List.all_eq_true.1 c3 s' (List.mem_of_getElem? hsi)))
            rw [← concs_take, ← concs_drop, ← concs_append, ← concs_append, hput] at hB
            have hw' : wfs ρ.length cs' = true := by rw [← hput]; exact wfs_append (wfs_append (wfs_take hwc _) e2) (wfs_drop hwc _)
            have hH' := hH.upd hcs hu hB hw'
            obtain ⟨d, op, t', pos, af, gd⟩ := o
            simp only at ho
            subst ho
            refine Runs1.of_skip (w' := w') ?_ ?_
            · simp only [conc] at h1
              have e3 : (conc ρ s).cells.toList.length = td.size := by rw [e1, concs_length, c1']
              have e4 : (conc ρ s).cells.size = td.size := by simpa using e3
              simp [execOp, h1, h2, Instr.storeAt, Instr.sureAddr, storeVar, hsz w, e1, e4, hr]
            · exact Lands.stay (s := .v undef) rfl hH' (by have := h w' hu hs hH'; rwa [fH_eq] at this)
        · cases hput
      · exact vGen_sound hag h
    · exact vGen_sound hag h
  · exact vGen_sound hag h
theorem vMove_sound (hC : C.Ok) (ht : Tells ρ ev a.eval) (hag : ∀ l, AgT n (opE ρ ev l) a) (hH : Holds ρ H w) (h : vMove C o ev ρ H w k) : Runs1 C.P a w o (Lands ρ k) := by
  have boxed : ∀ {cs : List SV} {v : Value} {u : Nat}, v.cells.toList = concs ρ cs → wfs ρ.length cs = true → (execOp a.eval o).run C.P w = .ok (.value (.pointer (some ⟨w.heap.size, 0, none⟩))) (w.alloc (.cells v.cells u)) →
      (∀ g w', g = w.heap.size → Ext w w' → (w'.heap.size = w.heap.size + 1 ∧ tyAt w' g u) → Holds (ρ ++ [g]) (H ++ [(ρ.length, cs)]) w' → k (.p ρ.length 0) (ρ ++ [g]) (H ++ [(ρ.length, cs)]) w') → Runs1 C.P a w o (Lands ρ k) := by
    intro cs v u e1 e2 hr hk
    have hB : Box (w.alloc (.cells v.cells u)) w.heap.size (concs ρ cs) := by
      have := Box.new w u v.cells.toList
      rw [e1] at this
      have e3 : v.cells = (concs ρ cs).toArray := by rw [← e1]
      rw [e3]; exact this
    have hH' := hH.new (g := w.heap.size) rfl (Ext.alloc _ _) (by simp) hB e2
    refine Runs1.of_value hr ⟨.p ρ.length 0, [w.heap.size], _, by simp only [conc, adr_new], by simp [wf], hH', hk _ _ rfl (Ext.alloc _ _) ⟨by simp, _, _, heap_alloc_new w _⟩ hH'⟩
  unfold vMove at h
  split at h
  · rename_i u x ho
    split at h
    · rename_i s hs
      split at h
      · rename_i cs hcs
        obtain ⟨h1, h2⟩ := ht x s hs
        obtain ⟨e1, e2⟩ := cellsS_spec (ρ := ρ) hcs h1
        simp only [fR_eq, fH_eq] at h
        refine boxed (v := conc ρ s) (u := u) e1 e2 ?_ h
        obtain ⟨d, op, t', pos, af, gd⟩ := o
        simp only at ho
        subst ho
        simp [execOp, h2, Instr.box, newVar, newRow]
      · exact vGen_sound hag h
    · exact vGen_sound hag h
  · rename_i t ho
    split at h
    · rename_i td hd
      obtain ⟨z, hz, hzz⟩ := (hC.tab.get hd).zero
      have e : ∀ l' : List Value, concs ρ (l'.map .v) = l' ∧ wfs ρ.length (l'.map .v) = true := by
        intro l'
        induction l' with
        | nil => exact ⟨rfl, rfl⟩
        | cons y r ih => exact ⟨by simp only [List.map_cons, concs, conc, ih.1], by simp only [List.map_cons, wfs, wf, ih.2]; rfl⟩
      simp only [fR_eq, fH_eq] at h
      refine boxed (v := z) (u := t) (by rw [hzz, (e _).1]) (e _).2 ?_ h
      obtain ⟨d, op, t', pos, af, gd⟩ := o
      simp only at ho
      subst ho
      simp [execOp, Instr.alloc, hz w, newVar, newRow]
    · exact vGen_sound hag h
  · rename_i t x y ho; exact vStore_sound hC ht hag hH ho h
  · rename_i x args ats ho; exact vCall_sound hC ht hag ho h
  · exact vGen_sound hag h
end
end Go.Proofs.Bw
