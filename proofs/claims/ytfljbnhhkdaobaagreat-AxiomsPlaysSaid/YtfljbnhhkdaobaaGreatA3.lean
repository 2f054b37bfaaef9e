/-
  Regions that draw their order: what is shown in one order is so in each.
-/
import Derived.Test.YtfljbnhhkdaobaaGreatA2
import Derived.Test.YtfljbnhhkdaobaaGreatA1
import Derived.Deep.AppendSrc
import Derived.Deep.Upon
import Derived.Laws.MakeOwn
import Derived.Laws.BytesString
import Derived.Deep.MidRow
namespace Go.Proofs.Bw
open Go Go.RowKit
section
variable {ds : List Deferred} {r0 : Option Nat} {N : Nat} {ρ : List Nat} {n : Nat} {e : SEnv} {R : List RE} {H : Heap} {w : World} {a f : Act} {C : Cx} {P : Program} {o : Oper} {live : List Nat} {ops : List Oper} {Q : Exit → Act → World → Prop}
theorem tmpsOf_mem {l : List Operand} {t : Nat} (h : Operand.tmp t ∈ l) : t ∈ tmpsOf l := by
  induction l with
  | nil => cases h
  | cons x r ih =>
    cases h with
    | head => simp [tmpsOf]
    | tail _ h =>
      cases x <;> simp only [tmpsOf] <;> first | exact ih h | exact List.mem_cons_of_mem _ (ih h)
def SameOn (l : List Nat) (a f : Act) : Prop := ∀ t ∈ l, a.tmps[t]? = f.tmps[t]?
theorem SameOn.eval {l : List Nat} (h : SameOn l a f) (hl : ∀ t ∈ looks o, t ∈ l) : ∀ x ∈ o.op.operands, a.eval x = f.eval x := by
  intro x hx
  cases x with
  | tmp t =>
    have := h t (hl t (tmpsOf_mem (by simpa using hx)))
    simp [Act.eval, Array.getD_eq_getD_getElem?, this]
  | _ => rfl
theorem put_eq {a f : Act} (hn : a.tmps.size = f.tmps.size) {d : Option Nat} {v v' : Value} (h : f.put d v = f.put d v') : a.put d v = a.put d v' := by
  cases d with
  | none => rfl
  | some t =>
    by_cases ht : t < f.tmps.size
    · have h1 : (f.put (some t) v).tmps[t]? = (f.put (some t) v').tmps[t]? := by rw [h]
      simp only [Act.put] at h1
      rw [Array.getElem?_setIfInBounds_self_of_lt ht, Array.getElem?_setIfInBounds_self_of_lt ht] at h1
      cases h1; rfl
    · have : ∀ v, a.tmps.setIfInBounds t v = a.tmps := fun v => Array.setIfInBounds_eq_of_size_le (by omega)
      simp only [Act.put, this]
theorem Runs1.at {K : Value → World → Prop} (h : Runs1 P f w o K) (hn : a.tmps.size = f.tmps.size) (hs : notSel o.op = true) (he : ∀ x ∈ o.op.operands, a.eval x = f.eval x) : Runs1 P a w o K := by
  have hsel : ∀ cs b, o.op ≠ .select cs b := fun cs b hh => by rw [hh] at hs; cases hs
  unfold Runs1 Oper.wp at h ⊢
  rw [execOp_congr o hsel he]
  generalize (execOp f.eval o).run P w = r at h
  have val : ∀ v w', (∃ v', f.put o.dst v = f.put o.dst v' ∧ K v' w') → ∃ v', a.put o.dst v = a.put o.dst v' ∧ K v' w' := fun v w' ⟨v', h1, h2⟩ => ⟨v', put_eq hn h1, h2⟩
  cases r with
  | halt x w' => cases x <;> simp only [Oper.upon] at h ⊢
  | ok nx w' =>
    cases nx with
    | value v => exact val v w' h
    | skip => exact val undef w' h
    | enter g args =>
      simp only [Oper.upon] at h ⊢
      refine Calls.mono h fun e' w'' he' => ?_
      cases e' with
      | returned v => exact val v w'' he'
      | panicked c => exact he'
      | outgrown => obtain ⟨_, _, hh⟩ := he'; exact hh.elim
    | row row args =>
      simp only [Oper.upon] at h ⊢
      exact Rows.mono h fun v w'' hv => val v w'' hv
    | defer d =>
      exfalso
      simp only [Oper.upon] at h
      obtain ⟨v, h1, _⟩ := h
      have h2 : (({ f with defers := d :: f.defers } : Act).put o.dst undef).defers = (f.put o.dst v).defers := by rw [h1]
      cases hd : o.dst <;> simp [Act.put, hd] at h2
    | _ => simp only [Oper.upon] at h
theorem chk_of {b : Bool} {q : Prop} (h : chk b q) : b = true ∧ q := by
  cases b with
  | true => exact ⟨rfl, h⟩
  | false => exact h.elim
variable {S : Nat → Prop} {m : Nat}
theorem KM.app (h : KM S m ρ) (l : List Nat) : KM S m (ρ ++ l) := by
  rcases h with h | h
  · exact .inl h
  · refine .inr ⟨?_, fun i hi => ?_⟩
    · have := h.1
      rw [List.length_append]; omega
    · have := h.1
      rw [adr_app l (by omega)]; exact h.2 i hi
theorem keepN_get : ∀ {H : Heap} {k : Nat} {c : List SV}, hget (keepN m H) k = some c → k < m
  | [], k, c, h => by cases h
  | (q, d) :: r, k, c, h => by
    unfold keepN at h
    cases hq : Nat.blt q m with
    | false => rw [hq] at h; exact keepN_get (H := r) h
    | true =>
      rw [hq] at h
      simp only [cond_true, hget] at h
      by_cases hk : q = k
      · subst hk; simpa using hq
      · rw [beq_ne hk] at h; exact keepN_get (H := r) h
theorem keepN_of : ∀ {H : Heap} {k : Nat} {c : List SV}, hget (keepN m H) k = some c → hget H k = some c
  | [], k, c, h => by cases h
  | (q, d) :: r, k, c, h => by
    have hlt := keepN_get (H := (q, d) :: r) h
    unfold keepN at h
    simp only [hget]
    by_cases hk : q = k
    · subst hk
      rw [show Nat.blt q m = true by simpa using hlt] at h
      simp only [cond_true, hget, beq_self] at h
      rw [beq_self]; exact h
    · rw [beq_ne hk]
      cases hq : Nat.blt q m with
      | false => rw [hq] at h; exact keepN_of h
      | true =>
        rw [hq] at h
        simp only [cond_true, hget, beq_ne hk, cond_false] at h
        exact keepN_of h
theorem holds_keep (hm : KM S m ρ) {w' : World} (hH : Holds ρ H w) (hx : Bw.Mod S w w') : Holds ρ (keepN m H) w' := by
  refine ⟨fun k cs hk => ?_, hH.ne, fun i hi => Nat.lt_of_lt_of_le (hH.lt i hi) hx.size, fun k cs hk => hH.ok k cs (keepN_of hk)⟩
  refine (hH.box k cs (keepN_of hk)).mod hx fun hs => ?_
  rcases hm with h | ⟨_, h⟩
  · exact h _ hs
  · exact h k (keepN_get hk) hs
theorem vStill_sound (hC : C.Ok) (hm : KM S m ρ) {p : List (Nat × Bool)} {k : SV → Prop} (ha : AgR ds ρ n e R f) (hH : Holds ρ H w) (h : vStill C S m o p R e ρ H w k) :
    ∃ s, wf ρ.length s = true ∧ k s ∧ ∀ w', Bw.Mod S w w' → condR R p = true → Runs1 C.P f w' o (fun v w'' => v = conc ρ s ∧ w'' = w') := by
  unfold vStill at h
  have good : ∀ w', Bw.Mod S w w' → condR R p = true → (pev C (evR R e p) (evP R e p true o.op) (evP R e p false o.op) (keepN m H) o.op).Good C.P ρ f.eval w' o := fun w' hx hc =>
    pev_good hC (ha.eval hc) (holds_keep hm hH hx) (fun c x y hop hcv s hs => by rw [hop] at hs; exact ha.evalP hc hcv hs) (fun c x y hop hcv s hs => by rw [hop] at hs; exact ha.evalP hc hcv hs)
  split at h
  · rename_i s hs
    rw [hs] at good
    obtain ⟨hw, hk⟩ := chk_of h
    exact ⟨s, hw, hk, fun w' hx hc => Runs1.of_does (good w' hx hc).2 ⟨rfl, rfl⟩⟩
  · rename_i q s hs
    rw [hs] at good
    obtain ⟨hq, h⟩ := h
    obtain ⟨hw, hk⟩ := chk_of h
    exact ⟨s, hw, hk, fun w' hx hc => Runs1.of_does ((good w' hx hc).2 (pathImp_iff R p q hq hc)) ⟨rfl, rfl⟩⟩
  · obtain ⟨s, hw, h1, h2⟩ := h
    exact ⟨s, hw, h2, fun w' hx hc => (pathImp_iff R p _ (h1 w' hx (holds_keep hm hH hx)) hc).at (ha.opE hc _)⟩
theorem guard_same {j : Nat} {q : Bool} (hg : o.guard = some (j, q)) (hsame : SameOn (namesOf ops o) a f) : yielded ops.toArray a.tmps j = yielded ops.toArray f.tmps j := by
  unfold yielded
  cases ho : ops[j]? with
  | none => simp [ho]
  | some o' =>
    cases hd : o'.dst with
    | none => simp [ho, hd]
    | some d =>
      have : a.tmps[d]? = f.tmps[d]? := hsame d (by simp [namesOf, guardSlot, hg, ho, hd])
      simp [ho, hd, this]
theorem same_eval (hsame : SameOn (namesOf ops o) a f) : ∀ x ∈ o.op.operands, a.eval x = f.eval x := SameOn.eval hsame fun t ht => by simp [namesOf, ht]
theorem wpOp_yes {i : Nat} {K' : Act → World → Prop} (ho : ops[i]? = some o) (hw : Region.wanted o (yielded ops.toArray a.tmps) = true) (h : Runs1 P a w o fun v w' => K' (a.put o.dst v) w') : wpOpIn (Wf r0) N P ops.toArray Q i K' a w := by
  have hoi : ops.toArray[i]? = some o := by simpa using ho
  unfold wpOpIn
  simp only [hoi]
  rw [if_pos hw]
  exact Runs1.wpIn h fun v w' hk => hk
theorem wpOp_no {i : Nat} {K' : Act → World → Prop} (ho : ops[i]? = some o) (hw : Region.wanted o (yielded ops.toArray a.tmps) = false) (h : K' (a.put o.dst undef) w) : wpOpIn (Wf r0) N P ops.toArray Q i K' a w := by
  have hoi : ops.toArray[i]? = some o := by simpa using ho
  unfold wpOpIn
  simp only [hoi]
  rw [if_neg (by rw [hw]; decide)]
  exact ⟨fun f _ => trivial, h⟩
theorem still_exec (hC : C.Ok) (hm : KM S m ρ) {ah ch : List Nat} {K : KC} {i : Nat} {r : OT} {pre : List Nat} (ha : AgR ds ρ n e R f) (hH : Holds ρ H w) (hch : nmem ch i = false) (ho : ops[i]? = some o) (hsel : notSel o.op = true)
    (h : vDr C S m n live ops ah ch K (.one i r) pre R e ρ H w) : dstFree n R o.dst = true ∧ ∃ v R', AgR ds ρ n e R' (f.put o.dst v) ∧ vDr C S m n live ops ah ch K r (i :: pre) R' e ρ H w ∧
      ∀ w', Bw.Mod S w w' → ∀ a, a.tmps.size = n → SameOn (namesOf ops o) a f → ∀ K' : Act → World → Prop, K' (a.put o.dst v) w' → wpOpIn (Wf r0) N C.P ops.toArray Q i K' a w' := by
  rw [vDr_cons] at h
  simp only [vDrStep, ho] at h
  cases hd : dstFree n R o.dst with
  | false => rw [hd] at h; exact h.elim
  | true =>
    rw [hd, hch] at h
    simp only at h
    refine ⟨rfl, ?_⟩
    have run : ∀ {p : List (Nat × Bool)} (s : SV), condR R p = true → Region.wanted o (yielded ops.toArray f.tmps) = true → (∀ w', Bw.Mod S w w' → condR R p = true → Runs1 C.P f w' o (fun v w'' => v = conc ρ s ∧ w'' = w')) →
        ∀ w', Bw.Mod S w w' → ∀ a, a.tmps.size = n → SameOn (namesOf ops o) a f → ∀ K' : Act → World → Prop, K' (a.put o.dst (conc ρ s)) w' → wpOpIn (Wf r0) N C.P ops.toArray Q i K' a w' := by
      intro p s hc hw hr w' hx a hn hsame K' hK
      have hw' : Region.wanted o (yielded ops.toArray a.tmps) = true := by
        rw [← hw]
        unfold Region.wanted
        cases hg : o.guard with
        | none => rfl
        | some jq => obtain ⟨j, q⟩ := jq; simp only [guard_same hg hsame]
      refine wpOp_yes ho hw' (((hr w' hx hc).at (by rw [hn, ha.size]) hsel (same_eval hsame)).mono ?_)
      rintro _ _ ⟨rfl, rfl⟩; exact hK
    have skip : Region.wanted o (yielded ops.toArray f.tmps) = false → ∀ w', Bw.Mod S w w' → ∀ a, a.tmps.size = n → SameOn (namesOf ops o) a f → ∀ K' : Act → World → Prop, K' (a.put o.dst undef) w' → wpOpIn (Wf r0) N C.P ops.toArray Q i K' a w' := by
      intro hw w' hx a hn hsame K' hK
      have hw' : Region.wanted o (yielded ops.toArray a.tmps) = false := by
        rw [← hw]
        unfold Region.wanted
        cases hg : o.guard with
        | none => rfl
        | some jq => obtain ⟨j, q⟩ := jq; simp only [guard_same hg hsame]
      exact wpOp_no ho hw' hK
    cases hg : o.guard with
    | none =>
      rw [hg] at h
      obtain ⟨s, hws, hk, hr⟩ := vStill_sound hC hm ha hH h
      refine ⟨conc ρ s, _, ha.step hd (p := []) (fun x hx => by cases hx) hws, hk, run s rfl (by simp [Region.wanted, hg]) hr⟩
    | some jq =>
      obtain ⟨j, q⟩ := jq
      rw [hg] at h
      simp only at h
      obtain ⟨g1, g2⟩ := guardOf_spec (ops := ops) (j := j) (q := q) ha
      split at h
      · rename_i p hgo
        obtain ⟨hp, hy⟩ := g1 p hgo
        obtain ⟨s, hws, hk, hr⟩ := vStill_sound hC hm ha hH h
        refine ⟨_, _, ha.step hd hp hws, hk, ?_⟩
        cases hc : condR R p with
        | true => exact run s hc (by simp [Region.wanted, hg, hy.2 hc]) hr
        | false =>
          have : ¬ yielded ops.toArray f.tmps j = some q := fun hh => by rw [hy.1 hh] at hc; cases hc
          exact skip (by simp [Region.wanted, hg, this])
      · rename_i p hgo
        obtain ⟨hp, hy⟩ := g2 p hgo
        have hst := ha.step (s := .v undef) hd hp rfl
        have e1 : (bif condR R p then conc ρ (.v undef) else undef) = undef := by cases condR R p <;> rfl
        rw [e1] at hst
        exact ⟨undef, _, hst, h, skip (by simp [Region.wanted, hg, hy])⟩
      · exact h.elim
theorem turn_exec (hC : C.Ok) {ah ch : List Nat} {K : KC} {i : Nat} {r : OT} {pre : List Nat} (ha : AgR ds ρ n e R f) (hH : Holds ρ H w) (hch : nmem ch i = true) (ho : ops[i]? = some o) (hsel : notSel o.op = true)
    (h : vDrStep C S m n ops ah ch i (vDr C S m n live ops ah ch K r) pre R e ρ H w) (hn : a.tmps.size = n) (hsame : SameOn (namesOf ops o) a f) {K' : Act → World → Prop}
    (hK : dstFree n R o.dst = true → ∀ v R' l H' w', AgR ds (ρ ++ l) n e R' (f.put o.dst v) → Holds (ρ ++ l) H' w' → vDr C S m n live ops ah ch K r (i :: pre) R' e (ρ ++ l) H' w' → (allAh ah i pre = false → Bw.Mod S w w') → K' (a.put o.dst v) w') :
    wpOpIn (Wf r0) N C.P ops.toArray Q i K' a w := by
  simp only [vDrStep, ho] at h
  cases hd : dstFree n R o.dst with
  | false => rw [hd] at h; exact h.elim
  | true =>
    rw [hd, hch] at h
    simp only at h
    have hK := hK hd
    have want : ∀ {b : Bool}, Region.wanted o (yielded ops.toArray f.tmps) = b → Region.wanted o (yielded ops.toArray a.tmps) = b := by
      intro b hw
      rw [← hw]
      unfold Region.wanted
      cases hg : o.guard with
      | none => rfl
      | some jq => obtain ⟨j, q⟩ := jq; simp only [guard_same hg hsame]
    have turn : ∀ {p : List (Nat × Bool)}, (∀ x ∈ p, (entB R x.1).isSome = true) → vTurn C S (allAh ah i pre) o p R e ρ H w (fun s ρ' H' w' => vDr C S m n live ops ah ch K r (i :: pre) (⟨o.dst, p, s⟩ :: R) e ρ' H' w') →
        (condR R p = true → Runs1 C.P f w o (fun v w' => K' (a.put o.dst v) w')) ∧ (condR R p = false → K' (a.put o.dst undef) w) := by
      intro p hp ht
      have fin : ∀ s l H' w', condR R p = true → wf (ρ ++ l).length s = true → Holds (ρ ++ l) H' w' → vDr C S m n live ops ah ch K r (i :: pre) (⟨o.dst, p, s⟩ :: R) e (ρ ++ l) H' w' → (allAh ah i pre = false → Bw.Mod S w w') → K' (a.put o.dst (conc (ρ ++ l) s)) w' := by
        intro s l H' w' hc hw hH' hk hx
        have hst := (ha.app l).step hd hp hw
        rw [hc] at hst
        exact hK _ _ l H' w' hst hH' hk hx
      have fin0 : ∀ s, condR R p = false → wf ρ.length s = true → vDr C S m n live ops ah ch K r (i :: pre) (⟨o.dst, p, s⟩ :: R) e ρ H w → K' (a.put o.dst undef) w := by
        intro s hc hw hk
        have hst := ha.step hd hp hw
        rw [hc] at hst
        exact hK _ _ [] H w (by rw [List.append_nil]; exact hst) (by rw [List.append_nil]; exact hH) (by rw [List.append_nil]; exact hk) (fun _ => Mod.refl _ w)
      unfold vTurn at ht
      split at ht
      · rename_i hfree
        obtain ⟨h1, h2⟩ := vOp_sound hC ha hH ht
        refine ⟨fun hc => (h1 hc).mono ?_, fun hc => ?_⟩
        · rintro v w' ⟨s, l, H', rfl, hw, hH', hk⟩
          exact fin s l H' w' hc hw hH' hk (fun hf => by rw [hfree] at hf; cases hf)
        · obtain ⟨s, hw, hk⟩ := h2 hc; exact fin0 s hc hw hk
      · obtain ⟨h1, h2⟩ := vOp_sound hC ha hH ht
        refine ⟨fun hc => (h1 hc).mono ?_, fun hc => ?_⟩
        · rintro v w' ⟨s, l, H', rfl, hw, hH', hx, hk⟩
          exact fin s l H' w' hc hw hH' hk (fun _ => hx)
        · obtain ⟨s, hw, _, hk⟩ := h2 hc; exact fin0 s hc hw hk
    cases hg : o.guard with
    | none =>
      rw [hg] at h
      obtain ⟨t1, _⟩ := turn (p := []) (fun x hx => by cases hx) h
      exact wpOp_yes ho (want (by simp [Region.wanted, hg])) ((t1 rfl).at (by rw [hn, ha.size]) hsel (same_eval hsame))
    | some jq =>
      obtain ⟨j, q⟩ := jq
      rw [hg] at h
      simp only at h
      obtain ⟨g1, g2⟩ := guardOf_spec (ops := ops) (j := j) (q := q) ha
      split at h
      · rename_i p hgo
        obtain ⟨hp, hy⟩ := g1 p hgo
        obtain ⟨t1, t2⟩ := turn hp h
        cases hc : condR R p with
        | true => exact wpOp_yes ho (want (by simp [Region.wanted, hg, hy.2 hc])) ((t1 hc).at (by rw [hn, ha.size]) hsel (same_eval hsame))
        | false =>
          have : ¬ yielded ops.toArray f.tmps j = some q := fun hh => by rw [hy.1 hh] at hc; cases hc
          exact wpOp_no ho (want (by simp [Region.wanted, hg, this])) (t2 hc)
      · rename_i p hgo
        obtain ⟨hp, hy⟩ := g2 p hgo
        have hst := ha.step (s := .v undef) hd hp rfl
        have e1 : (bif condR R p then conc ρ (.v undef) else undef) = undef := by cases condR R p <;> rfl
        rw [e1] at hst
        exact wpOp_no ho (want (by simp [Region.wanted, hg, hy])) (hK _ _ [] H w (by rw [List.append_nil]; exact hst) (by rw [List.append_nil]; exact hH) (by rw [List.append_nil]; exact h) fun _ => Mod.refl _ w)
      · exact h.elim
theorem writer_get (hap : dstsApart ops = true) {i t : Nat} (ho : ops[i]? = some o) (hd : o.dst = some t) : writer ops 0 t = some i := by
  cases hw : writer ops 0 t with
  | none => exact absurd hd (writer_none ops 0 t hw o (List.mem_of_getElem? ho))
  | some j =>
    obtain ⟨_, o', h1, h2⟩ := writer_spec ops 0 t j hw
    rw [Nat.sub_zero] at h1
    rw [dstsApart_spec ops hap j i o' o t h1 ho h2 hd]
def NamesOk (ops : List Oper) (ah : List Nat) (j : Nat) (o : Oper) (a f a0 : Act) : Prop :=
  ∀ t ∈ namesOf ops o, (writer ops 0 t = none → a.tmps[t]? = a0.tmps[t]?) ∧ ∀ i, writer ops 0 t = some i → (ahB ah j i = true → a.tmps[t]? = f.tmps[t]?) ∧ (ahB ah j i = false → a.tmps[t]? = a0.tmps[t]?)
structure St (ds : List Deferred) (r0 : Option Nat) (N : Nat) (C : Cx) (S : Nat → Prop) (m : Nat) (n : Nat) (live : List Nat) (ops : List Oper) (ch : List Nat) (K : KC) (Q : Exit → Act → World → Prop) (e : SEnv) (a0 : Act) (listed : Array Bool) (a : Act) (w : World) (pre : List Nat) (rest : OT) (R : List RE) (ρ : List Nat) (H : Heap) (f : Act) : Prop where
  vc : vDr C S m n live ops (aheadGo [] ops) ch K rest pre R e ρ H w
  ord : ordB ops (aheadGo [] ops) ch rest pre = true
  agr : AgR ds ρ n e R f
  hh : Holds ρ H w
  goes : Goes ds ρ n K (Q .normal)
  defers : a.defers = ds
  size : a.tmps.size = n
  lis : ∀ j : Nat, listed[j]? = some true → j ∈ pre
  chl : ∀ j ∈ pre, nmem ch j = true → listed[j]? = some true
  closedL : Closed ops fun j => listed[j]? = some true
  closedP : Closed ops fun j => j ∈ pre
  cover : ∀ j, j < ops.length → j ∈ pre ∨ rest.mem j = true
  nw : ∀ t, writer ops 0 t = none → a.tmps[t]? = a0.tmps[t]? ∧ f.tmps[t]? = a0.tmps[t]?
  wr : ∀ t j, writer ops 0 t = some j → (listed[j]? = some true → a.tmps[t]? = f.tmps[t]?) ∧ (listed[j]? ≠ some true → a.tmps[t]? = a0.tmps[t]?) ∧ (j ∉ pre → f.tmps[t]? = a0.tmps[t]?)
  pend : ∀ j ∈ pre, listed[j]? ≠ some true → ∃ o v, ops[j]? = some o ∧ namesB ops (aheadGo [] ops) j o = true ∧ dstOk n o.dst = true ∧ (∀ t, o.dst = some t → f.tmps[t]? = some v) ∧
    ∀ w', Bw.Mod S w w' → ∀ a', a'.tmps.size = n → NamesOk ops (aheadGo [] ops) j o a' f a0 → ∀ K' : Act → World → Prop, K' (a'.put o.dst v) w' → wpOpIn (Wf r0) N C.P ops.toArray Q j K' a' w'
theorem opOk_spec {ah pre : List Nat} {i : Nat} (h : opOk ops ah pre i = true) :
    ∃ o, ops[i]? = some o ∧ namesB ops ah i o = true ∧ (∀ x ∈ o.after.toList, Region.binds .any x = true → x.on ∈ pre) ∧ notSel o.op = true ∧ i ∉ pre := by
  simp only [opOk, Bool.and_eq_true] at h
  obtain ⟨h1, h2⟩ := h
  cases ho : ops[i]? with
  | none => rw [ho] at h1; cases h1
  | some o =>
    rw [ho] at h1
    simp only [Bool.and_eq_true] at h1
    refine ⟨o, rfl, h1.1.1, fun x hx hb => ?_, h1.2, fun hm => ?_⟩
    · have := List.all_eq_true.1 h1.1.2 x hx
      rw [hb] at this
      exact nmem_iff.1 (by simpa using this)
    · rw [nmem_iff.2 hm] at h2; cases h2
theorem ord_cons {ah ch : List Nat} {i : Nat} {r : OT} {pre : List Nat} (h : ordB ops ah ch (.one i r) pre = true) :
    ∃ o, ops[i]? = some o ∧ namesB ops ah i o = true ∧ (∀ x ∈ o.after.toList, Region.binds .any x = true → x.on ∈ pre) ∧ notSel o.op = true ∧ i ∉ pre ∧ (nmem ch i = true → r.allT (fun j => ahB ah j i) = true) ∧ ordB ops ah ch r (i :: pre) = true := by
  simp only [ordB, Bool.and_eq_true] at h
  obtain ⟨⟨h1, h3⟩, h4⟩ := h
  obtain ⟨o, q1, q2, q3, q4, q5⟩ := opOk_spec h1
  exact ⟨o, q1, q2, q3, q4, q5, fun hc => by rw [hc] at h3; exact h3, h4⟩
theorem allT_mem {p : Nat → Bool} {k : Nat} : ∀ {l : OT}, l.allT p = true → l.mem k = true → p k = true := by
  intro l
  induction l with
  | nil => intro _ h; cases h
  | one i r ih =>
    intro h hm
    simp only [OT.allT, OT.mem, Bool.and_eq_true, Bool.or_eq_true] at h hm
    rcases hm with hm | hm
    · rw [Nat.eq_of_beq_eq_true hm]; exact h.1
    · exact ih h.2 hm
  | alt i r j q ih _ =>
    intro h hm
    simp only [OT.allT, OT.mem, Bool.and_eq_true, Bool.or_eq_true] at h hm
    rcases hm.1 with hm | hm
    · rw [Nat.eq_of_beq_eq_true hm]; exact h.1.1
    · exact ih h.1.2 hm
variable {ch : List Nat} {K : KC} {a0 : Act} {listed : Array Bool} {pre : List Nat} {rest : OT}
theorem ahead_mem {p : Nat → Prop} (hp : Closed ops p) {i j : Nat} (h : ahB (aheadGo [] ops) i j = true) (hi : p i) : p j :=
  aheadGo_spec hp ops [] (fun k => by simp) (fun i j h => by simp at h) i j h hi
theorem closed_add {p : Nat → Prop} (hp : Closed ops p) {i : Nat} (ho : ops[i]? = some o) (hx : ∀ x ∈ o.after.toList, Region.binds .any x = true → p x.on) : Closed ops fun j => p j ∨ j = i := by
  intro k q hk hq x hxm hb
  rcases hk with hk | rfl
  · exact .inl (hp k q hk hq x hxm hb)
  · rw [ho] at hq; cases hq; exact .inl (hx x hxm hb)
theorem names_pair {i j : Nat} {t : Nat} (hn : namesB ops (aheadGo [] ops) i o = true) (ht : t ∈ namesOf ops o) (hw : writer ops 0 t = some j) : i ≠ j ∧ (ahB (aheadGo [] ops) i j = true ∨ ahB (aheadGo [] ops) j i = true) := by
  have := List.all_eq_true.1 hn t ht
  rw [hw] at this
  simp only [Bool.and_eq_true, pairB, Bool.or_eq_true, Bool.not_eq_true'] at this
  refine ⟨fun h => ?_, this.2⟩
  subst h
  rw [beq_self] at this
  exact absurd this.1 (by decide)
theorem pend_put (hap : dstsApart ops = true) {i : Nat} {v : Value} (hio : ops[i]? = some o) (hi : i ∉ pre) (hfd : dstOk f.tmps.size o.dst = true) (hcl : Closed ops fun j => j ∈ pre) {w' : World} (hx : Bw.Mod S w w') {j : Nat} (hj : j ∈ pre)
    (h : ∃ o' v', ops[j]? = some o' ∧ namesB ops (aheadGo [] ops) j o' = true ∧ dstOk n o'.dst = true ∧ (∀ t, o'.dst = some t → f.tmps[t]? = some v') ∧
      ∀ w', Bw.Mod S w w' → ∀ a', a'.tmps.size = n → NamesOk ops (aheadGo [] ops) j o' a' f a0 → ∀ K' : Act → World → Prop, K' (a'.put o'.dst v') w' → wpOpIn (Wf r0) N C.P ops.toArray Q j K' a' w') :
    ∃ o' v', ops[j]? = some o' ∧ namesB ops (aheadGo [] ops) j o' = true ∧ dstOk n o'.dst = true ∧ (∀ t, o'.dst = some t → (f.put o.dst v).tmps[t]? = some v') ∧
      ∀ w'', Bw.Mod S w' w'' → ∀ a', a'.tmps.size = n → NamesOk ops (aheadGo [] ops) j o' a' (f.put o.dst v) a0 → ∀ K' : Act → World → Prop, K' (a'.put o'.dst v') w'' → wpOpIn (Wf r0) N C.P ops.toArray Q j K' a' w'' := by
  obtain ⟨o', v', h1, h2, h3, h4, h5⟩ := h
  refine ⟨o', v', h1, h2, h3, fun t ht => ?_, fun w'' hx' a' hn hno K' hK => h5 w'' (hx.trans hx') a' hn (fun t ht => ⟨(hno t ht).1, fun k hk => ⟨fun ha => ?_, ((hno t ht).2 k hk).2⟩⟩) K' hK⟩
  · rw [put_get hfd, if_neg]
    · exact h4 t ht
    · intro hd
      have := dstsApart_spec ops hap i j o o' t hio h1 hd ht
      subst this; exact hi hj
  · rw [((hno t ht).2 k hk).1 ha, put_get hfd, if_neg]
    intro hd
    have hk' := writer_get hap hio hd
    rw [hk] at hk'
    cases hk'
    exact hi (ahead_mem hcl ha hj)
theorem St.advance (hC : C.Ok) (hm : KM S m ρ) (hap : dstsApart ops = true) : ∀ {rest : OT} {pre : List Nat} {R : List RE} {f : Act}, St ds r0 N C S m n live ops ch K Q e a0 listed a w pre rest R ρ H f →
    ∃ pre' rest' R' f', St ds r0 N C S m n live ops ch K Q e a0 listed a w pre' rest' R' ρ H f' ∧ ∀ i ∈ rest'.heads, nmem ch i = true := by
  intro rest
  induction rest with
  | nil => intro pre R f h; exact ⟨pre, .nil, R, f, h, fun i hh => by cases hh⟩
  | alt i r j q _ _ =>
    intro pre R f h
    refine ⟨pre, .alt i r j q, R, f, h, fun k hk => ?_⟩
    have ho := h.ord
    simp only [ordB, Bool.and_eq_true] at ho
    simp only [OT.heads, List.mem_cons, List.not_mem_nil, or_false] at hk
    rcases hk with rfl | rfl
    · exact ho.1.1.1.2
    · exact ho.1.2.1.2
  | one i r ih =>
    intro pre R f h
    cases hch : nmem ch i with
    | true => exact ⟨pre, .one i r, R, f, h, fun k hk => by simp only [OT.heads, List.mem_singleton] at hk; subst hk; exact hch⟩
    | false =>
      obtain ⟨o, ho, hnm, hed, hsel, hip, _, hord⟩ := ord_cons h.ord
      obtain ⟨hd, v, R', hag, hvc, hex⟩ := still_exec (Q := Q) hC hm h.agr h.hh hch ho hsel h.vc
      have hdo : dstOk n o.dst = true := (dstFree_spec hd).1
      have hfd : dstOk f.tmps.size o.dst = true := by rw [h.agr.size]; exact hdo
      have hcl' : Closed ops fun j => j ∈ i :: pre := fun k q hk hq x hx hb => by
        have := closed_add h.closedP ho hed k q ((List.mem_cons.1 hk).symm.imp id id) hq x hx hb
        exact List.mem_cons.2 this.symm
      refine ih (pre := i :: pre) (R := R') (f := f.put o.dst v) ⟨hvc, hord, hag, h.hh, h.goes, h.defers, h.size, fun j hj => List.mem_cons_of_mem _ (h.lis j hj), fun j hj hc => ?_, h.closedL, hcl', fun j hj => ?_, fun t ht => ?_, fun t j ht => ?_, fun j hj hl => ?_⟩
      · rcases List.mem_cons.1 hj with rfl | hj
        · rw [hch] at hc; cases hc
        · exact h.chl j hj hc
      · rcases h.cover j hj with hj | hj
        · exact .inl (List.mem_cons_of_mem _ hj)
        · simp only [OT.mem, Bool.or_eq_true] at hj
          rcases hj with hj | hj
          · rw [Nat.eq_of_beq_eq_true hj]; exact .inl List.mem_cons_self
          · exact .inr hj
      · refine ⟨(h.nw t ht).1, ?_⟩
        rw [put_get hfd, if_neg (fun hdd => by rw [writer_get hap ho hdd] at ht; cases ht)]
        exact (h.nw t ht).2
      · obtain ⟨w1, w2, w3⟩ := h.wr t j ht
        by_cases hji : j = i
        · subst hji
          have hnl : listed[j]? ≠ some true := fun hl => hip (h.lis j hl)
          exact ⟨fun hl => absurd hl hnl, w2, fun hn => absurd List.mem_cons_self hn⟩
        · have hne : o.dst ≠ some t := fun hdd => by rw [writer_get hap ho hdd] at ht; cases ht; exact hji rfl
          rw [put_get hfd, if_neg hne]
          exact ⟨w1, w2, fun hn => w3 fun hm => hn (List.mem_cons_of_mem _ hm)⟩
      · rcases List.mem_cons.1 hj with rfl | hj
        · refine ⟨o, v, ho, hnm, hdo, fun t ht => by rw [put_get hfd, if_pos ht], fun w' hx a' hn hno K' hK => hex w' hx a' hn (fun t ht => ?_) K' hK⟩
          cases hw : writer ops 0 t with
          | none => rw [(hno t ht).1 hw, (h.nw t hw).2]
          | some k =>
            obtain ⟨hne, hpr⟩ := names_pair hnm ht hw
            cases hah : ahB (aheadGo [] ops) j k with
            | true =>
              rw [((hno t ht).2 k hw).1 hah, put_get hfd, if_neg]
              intro hdd
              have := writer_get hap ho hdd
              rw [hw] at this
              cases this; exact hne rfl
            | false =>
              rw [((hno t ht).2 k hw).2 hah]
              refine ((h.wr t k hw).2.2 fun hk => ?_).symm
              rcases hpr with hpr | hpr
              · rw [hah] at hpr; cases hpr
              · exact hip (ahead_mem h.closedP hpr hk)
        · exact pend_put hap ho hip hfd h.closedP (Mod.refl _ w) hj (h.pend j hj hl)
theorem St.way {i : Nat} (h : St ds r0 N C S m n live ops ch K Q e a0 listed a w pre rest R ρ H f) (hhead : ∀ k ∈ rest.heads, nmem ch k = true) (hil : i < ops.length) (hip : i ∉ pre) (ahl : ∀ {k}, ahB (aheadGo [] ops) i k = true → i ≠ k → listed[k]? = some true) :
    ∃ (r : OT) (o : Oper), ops[i]? = some o ∧ namesB ops (aheadGo [] ops) i o = true ∧ (∀ x ∈ o.after.toList, Region.binds .any x = true → x.on ∈ pre) ∧ notSel o.op = true ∧ nmem ch i = true ∧ ordB ops (aheadGo [] ops) ch r (i :: pre) = true ∧
      vDrStep C S m n ops (aheadGo [] ops) ch i (vDr C S m n live ops (aheadGo [] ops) ch K r) pre R e ρ H w ∧ (∀ j, rest.mem j = true → j = i ∨ r.mem j = true) := by
  have hm : rest.mem i = true := (h.cover i hil).resolve_left hip
  have hvc := h.vc
  have hor := h.ord
  have not : ∀ k, k ∉ pre → ahB (aheadGo [] ops) i k = true → i = k := fun k hk ha => Decidable.byContradiction fun hne => hk (h.lis k (ahl ha hne))
  cases rest with
  | nil => cases hm
  | one k r =>
    obtain ⟨o, q1, q2, q3, q4, q5, q6, q7⟩ := ord_cons hor
    have hk := hhead k (by simp [OT.heads])
    simp only [OT.mem, Bool.or_eq_true] at hm
    have hik : i = k := by
      rcases hm with hm | hm
      · exact Nat.eq_of_beq_eq_true hm
      · exact not k q5 (allT_mem (p := fun j => ahB (aheadGo [] ops) j k) (q6 hk) hm)
    subst hik
    exact ⟨r, o, q1, q2, q3, q4, hk, q7, hvc, fun j hj => by
      simp only [OT.mem, Bool.or_eq_true] at hj
      exact hj.imp Nat.eq_of_beq_eq_true id⟩
  | alt k r j q =>
    simp only [ordB, Bool.and_eq_true] at hor
    obtain ⟨⟨⟨⟨a1, a2⟩, a3⟩, ⟨b1, b2⟩, b3⟩, c1, c2⟩ := hor
    obtain ⟨o, q1, q2, q3, q4, q5⟩ := opOk_spec a1
    obtain ⟨o', p1, p2, p3, p4, p5⟩ := opOk_spec b1
    have hm0 := hm
    simp only [OT.mem, Bool.and_eq_true, Bool.or_eq_true] at hm
    have hij : i = k ∨ i = j := by
      rcases hm.1 with h1 | h1
      · exact .inl (Nat.eq_of_beq_eq_true h1)
      · have := allT_mem c1 h1
        simp only [Bool.or_eq_true] at this
        rcases this with h2 | h2 | h2
        · exact .inr (Nat.eq_of_beq_eq_true h2)
        · exact .inl (not k q5 h2)
        · exact .inr (not j p5 h2)
    rcases hij with rfl | rfl
    · exact ⟨r, o, q1, q2, q3, q4, a2, a3, hvc.1, fun x hx => by
        simp only [OT.mem, Bool.and_eq_true, Bool.or_eq_true] at hx
        exact hx.1.imp Nat.eq_of_beq_eq_true id⟩
    · exact ⟨q, o', p1, p2, p3, p4, b2, b3, hvc.2, fun x hx => by
        simp only [OT.mem, Bool.and_eq_true, Bool.or_eq_true] at hx
        exact hx.2.imp Nat.eq_of_beq_eq_true id⟩
theorem set_get {i j : Nat} (hi : i < listed.size) : (listed.setIfInBounds i true)[j]? = some true ↔ j = i ∨ listed[j]? = some true := by
  by_cases hj : i = j
  · subst hj; simp [hi]
  · rw [Array.getElem?_setIfInBounds_ne hj]
    exact ⟨.inr, fun h => h.resolve_left fun e => hj e.symm⟩
theorem drwO_sound (hC : C.Ok) (ops : List Oper) (K : KC) (Q : Exit → Act → World → Prop) (e : SEnv) (ρ : List Nat) (H : Heap) (a0 : Act) (w : World) (id : Nat) (hgoes : Goes ds ρ n K (Q .normal)) (ha0 : AgS ds ρ n e a0) (hH0 : Holds ρ H w)
    (h : vDrwO C n live ops K e ρ H w) : (Code.region id ops.toArray true).wpIn (Wf r0) N C.P Q a0 w := by
  obtain ⟨ch, ord, S, m, hm0, hck, hvc⟩ := h
  simp only [drwB, Bool.and_eq_true] at hck
  obtain ⟨⟨⟨hap, hback⟩, hcov⟩, hord⟩ := hck
  have key : ∀ (fuel : Nat) (listed : Array Bool) (a : Act) (w : World), listed.size = ops.length → listed.toList.count false = fuel →
      (∃ pre rest R ρ' H' f, St ds r0 N C S m n live ops ch K Q e a0 listed a w pre rest R ρ' H' f ∧ KM S m ρ') → wpAnyIn (Wf r0) N C.P .any ops.toArray Q fuel listed a w := by
    intro fuel
    induction fuel with
    | zero =>
      intro listed a w hsz hc hst
      obtain ⟨pre0, rest0, R0, ρ', H', f0, hst0, hm⟩ := hst
      obtain ⟨pre, rest, R, f, hst, _⟩ := hst0.advance hC hm hap
      have hall : ∀ i : Nat, i < ops.length → listed[i]? = some true := fun i hi => all_listed hc i (by omega)
      refine ⟨?_, ?_⟩
      · rw [List.eq_nil_iff_forall_not_mem]
        intro i hi
        obtain ⟨o, ho, hif, _⟩ := (memReady hsz i).1 hi
        obtain ⟨hil, _⟩ := List.getElem?_eq_some_iff.1 ho
        rw [hall i hil] at hif; cases hif
      · have hrest : rest = .nil := by
          have hor := hst.ord
          cases rest with
          | nil => rfl
          | one i r =>
            obtain ⟨o, ho, _, _, _, hip, _⟩ := ord_cons hor
            obtain ⟨hil, _⟩ := List.getElem?_eq_some_iff.1 ho
            exact absurd (hst.lis i (hall i hil)) hip
          | alt i r j q =>
            simp only [ordB, Bool.and_eq_true] at hor
            obtain ⟨o, ho, _, _, _, hip⟩ := opOk_spec hor.1.1.1.1
            obtain ⟨hil, _⟩ := List.getElem?_eq_some_iff.1 ho
            exact absurd (hst.lis i (hall i hil)) hip
        subst hrest
        have hta : ∀ t : Nat, a.tmps[t]? = f.tmps[t]? := by
          intro t
          cases hw : writer ops 0 t with
          | none => rw [(hst.nw t hw).1, (hst.nw t hw).2]
          | some j =>
            obtain ⟨_, o, h1, _⟩ := writer_spec ops 0 t j hw
            rw [Nat.sub_zero] at h1
            obtain ⟨hil, _⟩ := List.getElem?_eq_some_iff.1 h1
            exact (hst.wr t j hw).1 (hall j hil)
        have hagr : AgR ds ρ' n e R a := ⟨hst.defers, hst.size, fun t ht s hs => by rw [hta t]; exact hst.agr.base t ht s hs, fun t r hr => by rw [hta t]; exact hst.agr.loc t r hr, hst.agr.paths⟩
        exact hst.goes.stay (hagr.close live) hst.hh (by have := hst.vc; simp only [vDr_nil, fE_eq] at this; exact this)
    | succ fuel ih =>
      intro listed a w hsz hc hst
      refine ⟨fun hr => absurd hr (ready_some hsz hback (by omega)), fun i hi => ?_⟩
      obtain ⟨o, ho, hif, hready⟩ := (memReady hsz i).1 hi
      obtain ⟨hil, _⟩ := List.getElem?_eq_some_iff.1 ho
      have hils : i < listed.size := by omega
      have hnl : listed[i]? ≠ some true := by rw [hif]; simp
      have hcount : (listed.setIfInBounds i true).toList.count false = fuel := by
        have := count_set listed.toList i (by simpa using hif)
        simp only [Array.toList_setIfInBounds]
        omega
      have hszs : (listed.setIfInBounds i true).size = ops.length := by simpa using hsz
      obtain ⟨pre0, rest0, R0, ρ', H', f0, hst0, hm⟩ := hst
      obtain ⟨pre, rest, R, f, hst, hhead⟩ := hst0.advance hC hm hap
      have hclI : Closed ops fun j => listed[j]? = some true ∨ j = i := closed_add hst.closedL ho hready
      have ahl : ∀ {k}, ahB (aheadGo [] ops) i k = true → i ≠ k → listed[k]? = some true := fun {k} hk hne => (ahead_mem hclI hk (.inr rfl)).resolve_right fun hh => hne hh.symm
      have hnames : namesB ops (aheadGo [] ops) i o = true → NamesOk ops (aheadGo [] ops) i o a f a0 := by
        intro hnm t ht
        refine ⟨fun hw => (hst.nw t hw).1, fun k hw => ?_⟩
        obtain ⟨hne, hpr⟩ := names_pair hnm ht hw
        refine ⟨fun hah => (hst.wr t k hw).1 (ahl hah hne), fun hah => (hst.wr t k hw).2.1 fun hk => ?_⟩
        rcases hpr with hpr | hpr
        · rw [hah] at hpr; cases hpr
        · exact hnl (ahead_mem hst.closedL hpr hk)
      have hclL : Closed ops fun j => (listed.setIfInBounds i true)[j]? = some true := fun k q hk hq x hx hb => by
        exact (set_get hils).2 (hclI k q ((set_get hils).1 hk).symm hq x hx hb).symm
      by_cases hip : i ∈ pre
      · obtain ⟨o', v, ho', hnm, hdo, hfv, hex⟩ := hst.pend i hip hnl
        rw [ho] at ho'; cases ho'
        have had : dstOk a.tmps.size o.dst = true := by rw [hst.size]; exact hdo
        refine hex w (Mod.refl _ w) a hst.size (hnames hnm) _ (ih _ _ _ hszs hcount ⟨pre, rest, R, ρ', H', f, ⟨hst.vc, hst.ord, hst.agr, hst.hh, hst.goes, ?_, ?_, fun j hj => ?_, fun j hj hcj => ?_, hclL, hst.closedP, hst.cover, fun t ht => ?_, fun t j ht => ?_, fun j hj hjl => ?_⟩, hm⟩)
        · cases hdd : o.dst <;> simp [Act.put, hst.defers]
        · cases hdd : o.dst <;> simp [Act.put, hst.size]
        · rcases (set_get hils).1 hj with rfl | hj
          · exact hip
          · exact hst.lis j hj
        · exact (set_get hils).2 (.inr (hst.chl j hj hcj))
        · rw [put_get had, if_neg (fun hdd => by rw [writer_get hap ho hdd] at ht; cases ht)]
          exact hst.nw t ht
        · obtain ⟨w1, w2, w3⟩ := hst.wr t j ht
          by_cases hji : j = i
          · subst hji
            obtain ⟨_, o2, h1, h2⟩ := writer_spec ops 0 t j ht
            rw [Nat.sub_zero, ho] at h1; cases h1
            rw [put_get had, if_pos h2]
            exact ⟨fun _ => (hfv t h2).symm, fun hn => absurd ((set_get hils).2 (.inl rfl)) hn, w3⟩
          · have hne : o.dst ≠ some t := fun hdd => by rw [writer_get hap ho hdd] at ht; cases ht; exact hji rfl
            rw [put_get had, if_neg hne]
            exact ⟨fun hl => w1 (((set_get hils).1 hl).resolve_left hji), fun hl => w2 fun hh => hl ((set_get hils).2 (.inr hh)), w3⟩
        · exact hst.pend j hj fun hh => hjl ((set_get hils).2 (.inr hh))
      · obtain ⟨r, o', ho', hnm, hed, hsel, hch, hord', hvst, hcov'⟩ := hst.way hhead hil hip ahl
        rw [ho] at ho'; cases ho'
        have hsame : SameOn (namesOf ops o) a f := by
          intro t ht
          cases hw : writer ops 0 t with
          | none => rw [(hst.nw t hw).1, (hst.nw t hw).2]
          | some k =>
            obtain ⟨hne, hpr⟩ := names_pair hnm ht hw
            rcases hpr with hpr | hpr
            · exact (hst.wr t k hw).1 (ahl hpr hne)
            · have hkl : listed[k]? ≠ some true := fun hh => hnl (ahead_mem hst.closedL hpr hh)
              have hkp : k ∉ pre := fun hh => hip (ahead_mem hst.closedP hpr hh)
              rw [(hst.wr t k hw).2.1 hkl, (hst.wr t k hw).2.2 hkp]
        refine turn_exec hC hst.agr hst.hh hch ho hsel hvst hst.size hsame ?_
        intro hd v R' l H' w' hagr hH' hvc' hext
        have hdo : dstOk n o.dst = true := (dstFree_spec hd).1
        have had : dstOk a.tmps.size o.dst = true := by rw [hst.size]; exact hdo
        have hfd : dstOk f.tmps.size o.dst = true := by rw [hst.agr.size]; exact hdo
        have hcl' : Closed ops fun j => j ∈ i :: pre := fun k q hk hq x hx hb => by
          have := closed_add hst.closedP ho hed k q ((List.mem_cons.1 hk).symm.imp (fun h => h) (fun h => h)) hq x hx hb
          exact List.mem_cons.2 this.symm
        refine ih _ _ _ hszs hcount ⟨i :: pre, r, R', ρ' ++ l, H', f.put o.dst v, ⟨hvc', hord', hagr, hH', hst.goes.app l, ?_, ?_, fun j hj => ?_, fun j hj hcj => ?_, hclL, hcl', fun j hj => ?_, fun t ht => ?_, fun t j ht => ?_, fun j hj hjl => ?_⟩, hm.app l⟩
        · cases hdd : o.dst <;> simp [Act.put, hst.defers]
        · cases hdd : o.dst <;> simp [Act.put, hst.size]
        · rcases (set_get hils).1 hj with rfl | hj
          · exact List.mem_cons_self
          · exact List.mem_cons_of_mem _ (hst.lis j hj)
        · rcases List.mem_cons.1 hj with rfl | hj
          · exact (set_get hils).2 (.inl rfl)
          · exact (set_get hils).2 (.inr (hst.chl j hj hcj))
        · rcases hst.cover j hj with hj | hj
          · exact .inl (List.mem_cons_of_mem _ hj)
          · rcases hcov' j hj with rfl | hj
            · exact .inl List.mem_cons_self
            · exact .inr hj
        · have hne : o.dst ≠ some t := fun hdd => by rw [writer_get hap ho hdd] at ht; cases ht
          rw [put_get had, put_get hfd, if_neg hne, if_neg hne]
          exact hst.nw t ht
        · obtain ⟨w1, w2, w3⟩ := hst.wr t j ht
          by_cases hji : j = i
          · subst hji
            obtain ⟨_, o2, h1, h2⟩ := writer_spec ops 0 t j ht
            rw [Nat.sub_zero, ho] at h1; cases h1
            rw [put_get had, put_get hfd, if_pos h2, if_pos h2]
            exact ⟨fun _ => rfl, fun hn => absurd ((set_get hils).2 (.inl rfl)) hn, fun hn => absurd List.mem_cons_self hn⟩
          · have hne : o.dst ≠ some t := fun hdd => by rw [writer_get hap ho hdd] at ht; cases ht; exact hji rfl
            rw [put_get had, put_get hfd, if_neg hne, if_neg hne]
            exact ⟨fun hl => w1 (((set_get hils).1 hl).resolve_left hji), fun hl => w2 fun hh => hl ((set_get hils).2 (.inr hh)), fun hn => w3 fun hh => hn (List.mem_cons_of_mem _ hh)⟩
        · have hji : j ≠ i := fun hh => hjl ((set_get hils).2 (.inl hh))
          have hj' : j ∈ pre := (List.mem_cons.1 hj).resolve_left hji
          have hjn : listed[j]? ≠ some true := fun hh => hjl ((set_get hils).2 (.inr hh))
          cases hfree : allAh (aheadGo [] ops) i pre with
          | true =>
            have := List.all_eq_true.1 hfree j hj'
            exact absurd (ahl this (fun hh => hji hh.symm)) hjn
          | false => exact pend_put hap ho hip hfd hst.closedP (hext hfree) hj' (hst.pend j hj' hjn)
  refine wpIn_region_any hC.mixed ?_
  simp only [List.size_toArray]
  have hx0 : Ext w { w with drawn := w.drawn + 1 } := Ext.drawn w _
  refine key ops.length _ a0 _ (by simp) (by simp) ⟨[], ord, [], ρ, H, a0, ⟨hvc _ hx0 (hH0.ext hx0), hord, ha0.start, hH0.ext hx0, hgoes, ha0.1, ha0.2.1, fun j hj => ?_, fun j hj => ?_, fun i o hi => ?_, fun i o hi => ?_, fun j hj => ?_, fun t _ => ⟨rfl, rfl⟩, fun t j _ => ⟨fun _ => rfl, fun _ => rfl, fun _ => rfl⟩, fun j hj => ?_⟩, hm0⟩
  · simp [Array.getElem?_replicate] at hj
  · cases hj
  · simp [Array.getElem?_replicate] at hi
  · cases hi
  · exact .inr (List.all_eq_true.1 hcov j (List.mem_range.2 hj))
  · cases hj
/-! ### any order at once -/
theorem flS_of {Rs : Nat → Nat → Prop} {w w' : World} {k : Nat} : ∀ {l : List Nat}, flS ops Rs w w' l k → (w.heap.size ≤ k ∧ k < w'.heap.size) ∨ ∃ t ∈ l, ∃ j, writer ops 0 t = some j ∧ Rs j k
  | [], h => .inl h
  | t :: l, h => by
    unfold flS at h
    cases hw : writer ops 0 t with
    | none =>
      rw [hw] at h
      exact (flS_of h).imp id fun ⟨t', ht, j, h1, h2⟩ => ⟨t', List.mem_cons_of_mem _ ht, j, h1, h2⟩
    | some j =>
      rw [hw] at h
      rcases h with h | h
      · exact .inr ⟨t, List.mem_cons_self, j, hw, h⟩
      · exact (flS_of h).imp id fun ⟨t', ht, j, h1, h2⟩ => ⟨t', List.mem_cons_of_mem _ ht, j, h1, h2⟩
theorem flF_of {q : Nat → Prop} {G : Prop} : ∀ {l : List Nat}, flF ops q G l → (∀ t ∈ l, ∀ j, writer ops 0 t = some j → q j) → G
  | [], h, _ => h
  | t :: l, h, hq => by
    unfold flF at h
    cases hw : writer ops 0 t with
    | none => rw [hw] at h; exact flF_of h fun t' ht => hq t' (List.mem_cons_of_mem _ ht)
    | some j => rw [hw] at h; exact flF_of (h (hq t List.mem_cons_self j hw)) fun t' ht => hq t' (List.mem_cons_of_mem _ ht)
theorem flR_first {vs : Nat → Value} {t : Nat} : ∀ {l : List Nat}, firstR (flR ops vs l) t = if t ∈ l then (match writer ops 0 t with | some j => some ⟨some t, [], .v (vs j)⟩ | none => none) else none
  | [] => by simp [flR, firstR]
  | u :: l => by
    unfold flR
    by_cases hut : u = t
    · subst hut
      cases hw : writer ops 0 u with
      | none =>
        simp only [List.mem_cons, true_or, if_true]
        rw [flR_first]; split
        · rw [hw]
        · rfl
      | some j =>
        simp only [List.mem_cons, true_or, if_true]
        show (bif Nat.beq u u then _ else _) = _
        rw [beq_self]; rfl
    · have hmem : (t ∈ u :: l) ↔ t ∈ l := by simp [Ne.symm hut]
      cases hw : writer ops 0 u with
      | none => simp only [hmem]; exact flR_first
      | some j =>
        simp only [hmem]
        have : firstR (⟨some u, [], .v (vs j)⟩ :: flR ops vs l) t = firstR (flR ops vs l) t := by
          show (bif Nat.beq u t then _ else _) = _
          rw [beq_ne hut]; rfl
        rw [this]; exact flR_first
theorem flE_look {t : Nat} {s : SV} : ∀ {e : SEnv}, lookS (flE ops e) t = some s → lookS e t = some s ∧ writer ops 0 t = none
  | [], h => by cases h
  | (u, s') :: r, h => by
    unfold flE at h
    cases hw : writer ops 0 u with
    | some j =>
      rw [hw] at h
      obtain ⟨h1, h2⟩ := flE_look h
      refine ⟨?_, h2⟩
      have : u ≠ t := fun e => by subst e; rw [hw] at h2; cases h2
      simp only [lookS]; rw [beq_ne this]; exact h1
    | none =>
      rw [hw] at h
      simp only [lookS] at h ⊢
      by_cases hut : u = t
      · subst hut; rw [beq_self] at h ⊢; exact ⟨h, hw⟩
      · rw [beq_ne hut] at h ⊢; exact flE_look h
theorem flAll_at {K : KC} {p : Nat → (Nat → Prop) → Value → World → Prop} {z : Nat} : ∀ {l : List Oper} {k : Nat}, flAll C n live ops K p e ρ H w z k l → ∀ i o, l[i]? = some o → k + i ≤ z →
    (k + i < z → flStep C ops p e ρ H w (k + i) o) ∧ (k + i = z → flEnd C n live ops K p e ρ H w z (l.drop i))
  | [], k, h, i, o, ho, hz => by simp at ho
  | q :: r, k, h, i, o, ho, hz => by
    unfold flAll at h
    by_cases hk : k = z
    · subst hk
      rw [beq_self] at h
      obtain rfl : i = 0 := by omega
      exact ⟨fun hh => by omega, fun _ => h⟩
    · rw [beq_ne hk] at h
      obtain ⟨h1, h2⟩ := h
      cases i with
      | zero =>
        simp only [List.getElem?_cons_zero, Option.some.injEq] at ho; subst ho
        exact ⟨fun _ => h1, fun hh => by omega⟩
      | succ i =>
        have := flAll_at h2 i o (by simpa using ho) (by omega)
        rw [show k + (i + 1) = k + 1 + i by omega]
        simpa using this
theorem allB_spec {ah : List Nat} {z i : Nat} : ∀ {k : Nat}, allB ops ah z o i k = true → ∀ j, j < k → ahB ah i j = true ∨ (lateB ops z j = true ∧ unlook ops o j = true)
  | 0, _, j, hj => by omega
  | k + 1, h, j, hj => by
    simp only [allB, Bool.and_eq_true, Bool.or_eq_true] at h
    by_cases hjk : j = k
    · subst hjk; exact h.1
    · exact allB_spec h.2 j (by omega)
theorem lateB_lt {z q : Nat} (h : lateB ops z q = true) : q < z := by
  unfold lateB at h
  rw [Bool.and_eq_true] at h
  simpa using h.1
theorem lateB_op {z q : Nat} (h : lateB ops z q = true) (ho : ops[q]? = some o) : (∃ x i, o.op = .extract x i) ∧ o.dst.isSome = true := by
  unfold lateB at h
  rw [Bool.and_eq_true] at h
  have h2 := h.2
  simp only [ho, Bool.and_eq_true] at h2
  refine ⟨?_, h2.2⟩
  have h3 := h2.1
  cases hop : o.op <;> rw [hop] at h3 <;> first | exact ⟨_, _, rfl⟩ | cases h3
theorem unlook_not {q d : Nat} {p : Oper} (h : unlook ops o q = true) (hp : ops[q]? = some p) (hd : p.dst = some d) : d ∉ looks o := by
  unfold unlook at h
  simp only [hp, hd] at h
  intro hm
  rw [(nmem_iff).2 hm] at h; cases h
theorem flOk_spec {z i : Nat} {ah : List Nat} (h : flOk ops ah n z i = true) (ho : ops[i]? = some o) :
    (i < z → ∀ t ∈ namesOf ops o, ∀ j, writer ops 0 t = some j → ahB ah i j = true ∧ j < i ∧ (∀ q, ahB ah j q = true → ahB ah i q = true) ∧ lateB ops z j = false) ∧ (z ≤ i → ∀ j, j < i → ahB ah i j = true ∨ (lateB ops z j = true ∧ unlook ops o j = true)) ∧ notSel o.op = true ∧ dstOk n o.dst = true ∧ o.guard = none := by
  unfold flOk at h
  simp only [ho, Bool.and_eq_true] at h
  obtain ⟨⟨⟨h1, h2⟩, h3⟩, h4⟩ := h
  refine ⟨fun hlt => ?_, fun hge => ?_, h2, h3, ?_⟩
  · have hb : Nat.blt i z = true := by simpa using hlt
    simp only [hb] at h1
    intro t ht j hj
    have := List.all_eq_true.1 h1 t ht
    simp only [hj, Bool.and_eq_true, Bool.not_eq_true'] at this
    obtain ⟨⟨⟨h6, h7⟩, h8⟩, h10⟩ := this
    refine ⟨h6, by simpa using h7, fun q hq => ?_, h10⟩
    have h9 := Nat.eq_of_beq_eq_true h8
    unfold ahB at hq ⊢
    rw [← h9] at hq
    have : (Nat.land (ah.getD j 0) (ah.getD i 0)).testBit q = ((ah.getD j 0).testBit q && (ah.getD i 0).testBit q) := Nat.testBit_and ..
    rw [this, Bool.and_eq_true] at hq
    exact hq.2
  · have hb : Nat.blt i z = false := by
      cases hh : Nat.blt i z with
      | false => rfl
      | true => have : i < z := by simpa using hh
                omega
    simp only [hb] at h1
    exact allB_spec h1
  · cases hg : o.guard with
    | none => rfl
    | some x => rw [hg] at h4; cases h4
theorem extract_pure {K : Value → World → Prop} {x : Operand} {i : Nat} (ho : o.op = .extract x i) (h : Runs1 P a w o K) : ∃ v, (∀ w', Does P a.eval w' o v) ∧ ∃ v', a.put o.dst v = a.put o.dst v' ∧ K v' w := by
  unfold Runs1 Oper.wp at h
  have hr : ∀ w', (execOp a.eval o).run P w' = ((Instr.extract (a.eval x) i).run P w').andThen fun v w' => .ok (.value v) w' := fun w' => by
    simp only [execOp, ho, Sem.run_bind, Sem.run_pure]
  unfold Instr.extract at hr
  split at hr
  · rename_i vs _
    cases hv : vs[i]? with
    | some v =>
      have hd : ∀ w', Does P a.eval w' o v := fun w' => by
        unfold Does; rw [hr w']; simp [hv]
      rw [hd w, Oper.upon_value] at h
      exact ⟨v, hd, h⟩
    | none =>
      rw [hr w] at h
      simp [hv, Oper.upon] at h
  · rw [hr w] at h
    simp [Oper.upon] at h
theorem extract_same {a' : Act} {x : Operand} {i : Nat} {v : Value} (ho : o.op = .extract x i) (hx : a'.eval x = a.eval x) (h : ∀ w', Does P a.eval w' o v) : ∀ w', Does P a'.eval w' o v := fun w' => by
  have h1 := h w'
  unfold Does at h1 ⊢
  simp only [execOp, ho] at h1 ⊢
  rw [hx]; exact h1
theorem eval_put {a : Act} {x : Operand} {d : Option Nat} {v : Value} (h : ∀ t, x = .tmp t → d ≠ some t) (hd : dstOk a.tmps.size d = true) : (a.put d v).eval x = a.eval x := by
  cases x with
  | tmp t =>
    simp only [Act.eval, Array.getD_eq_getD_getElem?]
    rw [put_get hd, if_neg (h t rfl)]
  | const c => rfl
  | global g => rfl
  | func f => rfl
theorem flZ_first {t : Nat} {r : RE} : ∀ {ops : List Oper} {svs : List SV}, firstR (flZ ops svs) t = some r → ∃ (j : Nat) (o : Oper) (s : SV), ops[j]? = some o ∧ o.dst = some t ∧ svs[j]? = some s ∧ r = ⟨some t, [], s⟩
  | _, [], h => by simp [flZ, firstR] at h
  | [], s :: q, h => by simp [flZ, firstR] at h
  | o :: l, s :: q, h => by
    unfold flZ at h
    simp only at h
    cases hd : o.dst with
    | none =>
      rw [hd] at h
      obtain ⟨j, o', s', h1, h2, h3, h4⟩ := flZ_first h
      exact ⟨j + 1, o', s', by simpa using h1, h2, by simpa using h3, h4⟩
    | some d =>
      rw [hd] at h
      simp only [firstR] at h
      by_cases hdt : d = t
      · subst hdt
        rw [beq_self] at h
        simp only [cond_true, Option.some.injEq] at h
        exact ⟨0, o, s, by simp, hd, by simp, h.symm⟩
      · rw [beq_ne hdt] at h
        obtain ⟨j, o', s', h1, h2, h3, h4⟩ := flZ_first h
        exact ⟨j + 1, o', s', by simpa using h1, h2, by simpa using h3, h4⟩
structure FInv (ds : List Deferred) (n : Nat) (ops : List Oper) (p : Nat → (Nat → Prop) → Value → World → Prop) (a0 : Act) (W : World) (listed : Array Bool) (a : Act) (w : World) : Prop where
  x : Ext W w
  defers : a.defers = ds
  size : a.tmps.size = n
  closed : Closed ops fun j => listed[j]? = some true
  nw : ∀ t : Nat, writer ops 0 t = none → a.tmps[t]? = a0.tmps[t]?
  ex : ∃ (vs : Nat → Value) (Os : Nat → Nat → Prop), (∀ j : Nat, listed[j]? = some true → p j (flCum ops Os j) (vs j) w ∧ ∀ o t, ops[j]? = some o → o.dst = some t → a.tmps[t]? = some (vs j)) ∧
    (∀ (j k : Nat), Os j k → listed[j]? = some true ∧ W.heap.size ≤ k ∧ k < w.heap.size) ∧ (∀ i j : Nat, i ≠ j → ∀ k, Os i k → ¬ Os j k)
theorem flow_sound (hC : C.Ok) (ops : List Oper) (K : KC) (Q : Exit → Act → World → Prop) (e : SEnv) (ρ : List Nat) (H : Heap) (a0 : Act) (w : World) (id : Nat) (hgoes : Goes ds ρ n K (Q .normal)) (ha0 : AgS ds ρ n e a0) (hH0 : Holds ρ H w)
    (h : vFlow C n live ops K e ρ H w) : (Code.region id ops.toArray true).wpIn (Wf r0) N C.P Q a0 w := by
  obtain ⟨z, p, hck, hmono, hall⟩ := h
  simp only [flowB, Bool.and_eq_true] at hck
  obtain ⟨⟨⟨hap, hback⟩, hpos⟩, hoks⟩ := hck
  have hpos : z < ops.length := by simpa using hpos
  refine wpIn_region_any hC.mixed ?_
  simp only [List.size_toArray]
  have hx0 : Ext w { w with drawn := w.drawn + 1 } := Ext.drawn w _
  generalize hW : ({ w with drawn := w.drawn + 1 } : World) = W at *
  have hHW := hH0.ext hx0
  have hat := flAll_at (hall W hx0 hHW)
  have hok : ∀ {i : Nat} {o : Oper}, ops[i]? = some o → _ := fun {i o} ho => flOk_spec (List.all_eq_true.1 hoks i (List.mem_range.2 (List.getElem?_eq_some_iff.1 ho).1)) ho
  have tail : ∀ (fuel k : Nat) (listed : Array Bool) (a f : Act) (w : World) (l : List Nat) (H' : Heap) (R : List RE), k ≤ ops.length → z ≤ k → listed.size = ops.length → listed.toList.count false = fuel →
      (∀ j, j < ops.length → listed[j]? = some true → j < k) → (∀ j, j < k → lateB ops z j = false → listed[j]? = some true) → Closed ops (fun j => listed[j]? = some true) →
      AgR ds (ρ ++ l) n (flE ops e) R f → Holds (ρ ++ l) H' w → a.tmps.size = f.tmps.size → a.defers = f.defers →
      (∀ s : Nat, (∀ q o, ops[q]? = some o → o.dst = some s → lateB ops z q = true → listed[q]? = some true) → a.tmps[s]? = f.tmps[s]?) →
      (∀ q o, ops[q]? = some o → lateB ops z q = true → ¬ listed[q]? = some true → ∃ v, (∀ w', Does C.P a.eval w' o v) ∧ ∀ d, o.dst = some d → f.tmps[d]? = some v) →
      vOps C n live ops K (ops.drop k) R (flE ops e) (ρ ++ l) H' w → wpAnyIn (Wf r0) N C.P .any ops.toArray Q fuel listed a w := by
    intro fuel
    induction fuel with
    | zero =>
      intro k listed a f w l H' R hkl hzk hsz hc hls hln hcl hag hH hsz2 hdf hsame hpend hv
      have hk : k = ops.length := by
        rcases Nat.lt_or_ge k ops.length with h1 | h1
        · have := hls k h1 (all_listed hc k (by omega)); omega
        · omega
      subst hk
      have haf : a = f := by
        have ht : a.tmps = f.tmps := Array.ext_getElem? fun s => hsame s fun q o hq _ _ => all_listed hc q (by have := (List.getElem?_eq_some_iff.1 hq).1; omega)
        cases a; cases f
        simp only at ht hdf
        rw [ht, hdf]
      subst haf
      refine ⟨?_, ?_⟩
      · rw [List.eq_nil_iff_forall_not_mem]
        intro j hj
        obtain ⟨oj, hoj, hjf, _⟩ := (memReady hsz j).1 hj
        have hj' := (List.getElem?_eq_some_iff.1 hoj).1
        rw [all_listed hc j (by omega)] at hjf; cases hjf
      · rw [List.drop_length, vOps_nil, fE_eq] at hv
        exact hgoes _ l H' _ w (hag.close live) hH hv
    | succ fuel ihr =>
      intro k listed a f w l H' R hkl hzk hsz hc hls hln hcl hag hH hsz2 hdf hsame hpend hv
      refine ⟨fun hr => absurd hr (ready_some hsz hback (by omega)), fun i hi => ?_⟩
      obtain ⟨o, ho, hif, hready⟩ := (memReady hsz i).1 hi
      have hil := (List.getElem?_eq_some_iff.1 ho).1
      have hils : i < listed.size := by omega
      have hclI : Closed ops fun j => listed[j]? = some true ∨ j = i := closed_add hcl ho hready
      have ahl : ∀ {k}, ahB (aheadGo [] ops) i k = true → i ≠ k → listed[k]? = some true := fun {k} hk hne => (ahead_mem hclI hk (.inr rfl)).resolve_right fun hh => hne hh.symm
      obtain ⟨hnz, hbk, hsel, hdst, hgd⟩ := hok ho
      have hcount : (listed.setIfInBounds i true).toList.count false = fuel := by
        have := count_set listed.toList i (by simpa using hif)
        simp only [Array.toList_setIfInBounds]
        omega
      have hszs : (listed.setIfInBounds i true).size = ops.length := by simpa using hsz
      have hclL : Closed ops fun j => (listed.setIfInBounds i true)[j]? = some true := fun k q hk hq x hx hb => by
        exact (set_get hils).2 (hclI k q ((set_get hils).1 hk).symm hq x hx hb).symm
      have hwt : Region.wanted o (yielded ops.toArray a.tmps) = true := by simp [Region.wanted, hgd]
      have hadf : dstOk f.tmps.size o.dst = true := by rw [hag.size]; exact hdst
      have had : dstOk a.tmps.size o.dst = true := by rw [hsz2]; exact hadf
      have hnl : ¬ listed[i]? = some true := fun h => by rw [hif] at h; cases h
      cases hlt : lateB ops z i with
      | true =>
        have hiz := lateB_lt hlt
        obtain ⟨v, hdo, hfv⟩ := hpend i o ho hlt hnl
        refine wpOp_yes ho hwt (Runs1.of_does (hdo w) ?_)
        refine ihr k _ (a.put o.dst v) f w l H' R hkl hzk hszs hcount (fun j hj hjl => ?_) (fun j hj hjn => (set_get hils).2 (.inr (hln j hj hjn))) hclL hag hH (by rw [← hsz2]; cases hdd : o.dst <;> simp [Act.put]) (by rw [← hdf]; cases hdd : o.dst <;> simp [Act.put]) (fun s hs => ?_) (fun q oq hq hql hqn => ?_) hv
        · rcases (set_get hils).1 hjl with rfl | h
          · omega
          · exact hls j hj h
        · rw [put_get had]
          by_cases hsd : o.dst = some s
          · rw [if_pos hsd, hfv s hsd]
          · rw [if_neg hsd]
            exact hsame s fun q oq hq hqd hql => ((set_get hils).1 (hs q oq hq hqd hql)).resolve_left fun h => by
              subst h; rw [ho] at hq; cases hq; exact hsd hqd
        · have hqi : q ≠ i := fun h => hqn ((set_get hils).2 (.inl h))
          obtain ⟨u, hdo', hfu⟩ := hpend q oq hq hql fun h => hqn ((set_get hils).2 (.inr h))
          obtain ⟨⟨x, ix, hop⟩, _⟩ := lateB_op hql hq
          refine ⟨u, extract_same hop (eval_put (fun t hxt hdt => ?_) had) hdo', hfu⟩
          have hw := writer_get hap ho hdt
          have hm : t ∈ namesOf ops oq := by
            have : t ∈ looks oq := tmpsOf_mem (by rw [hop, hxt]; simp [Op.operands])
            simp [namesOf, this]
          have := ((hok hq).1 (lateB_lt hql) t hm i hw).2.2.2
          rw [hlt] at this; cases this
      | false =>
        have hik : k ≤ i := by
          rcases Nat.lt_or_ge i k with h1 | h1
          · exact absurd (hln i h1 hlt) hnl
          · exact h1
        have hie : i = k := by
          rcases Nat.lt_or_ge k i with h1 | h1
          · rcases hbk (by omega) k h1 with h2 | h2
            · have h3 := hls k (by omega) (ahl h2 (by omega)); omega
            · have := lateB_lt h2.1; omega
          · omega
        subst hie
        have hdk := List.drop_eq_getElem_cons hil
        have hgo : ops[i] = o := by rw [List.getElem?_eq_getElem hil] at ho; cases ho; rfl
        rw [hgo] at hdk
        rw [hdk, vOps_cons] at hv
        unfold vStep at hv
        cases hd : dstFree n R o.dst with
        | false => rw [hd] at hv; exact hv.elim
        | true =>
          simp only [hd, hgd] at hv
          have hev : ∀ x ∈ o.op.operands, a.eval x = f.eval x := SameOn.eval (l := looks o) (fun t ht => hsame t fun q oq hq hqd hql => by
            rcases hbk hzk q (by have := lateB_lt hql; omega) with h2 | h2
            · exact ahl h2 (by have := lateB_lt hql; omega)
            · exact absurd ht (unlook_not h2.2 hq hqd)) fun t ht => ht
          refine wpOp_yes ho hwt ((((vOp_sound hC hag hH hv).1 rfl).at hsz2 hsel hev).mono ?_)
          rintro v w' ⟨s, l', H'', rfl, hws, hH'', hk'⟩
          have hst' := (hag.app l').step hd (p := []) (fun x hx => by cases hx) hws
          simp only [condR, cond_true] at hst'
          rw [List.append_assoc] at hst' hH'' hk' hws ⊢
          refine ihr (i + 1) _ _ _ w' (l ++ l') H'' _ (by omega) (by omega) hszs hcount (fun j hj hjl => ?_) (fun j hj hjn => ?_) hclL hst' hH'' (by cases hdd : o.dst <;> simp [Act.put, hsz2]) (by cases hdd : o.dst <;> simp [Act.put, hdf]) (fun s' hs => ?_) (fun q oq hq hql hqn => ?_) hk'
          · rcases (set_get hils).1 hjl with rfl | h
            · omega
            · have := hls j hj h; omega
          · by_cases hji : j = i
            · exact (set_get hils).2 (.inl hji)
            · exact (set_get hils).2 (.inr (hln j (by omega) hjn))
          · rw [put_get had, put_get hadf]
            by_cases hsd : o.dst = some s'
            · rw [if_pos hsd, if_pos hsd]
            · rw [if_neg hsd, if_neg hsd]
              exact hsame s' fun q oq hq hqd hql => ((set_get hils).1 (hs q oq hq hqd hql)).resolve_left fun h => by
                subst h; have := lateB_lt hql; omega
          · have hqz := lateB_lt hql
            obtain ⟨u, hdo', hfu⟩ := hpend q oq hq hql fun h => hqn ((set_get hils).2 (.inr h))
            obtain ⟨⟨x, ix, hop⟩, _⟩ := lateB_op hql hq
            refine ⟨u, extract_same hop (eval_put (fun t hxt hdt => ?_) had) hdo', fun d hdd => ?_⟩
            · have hw := writer_get hap ho hdt
              have hm : t ∈ namesOf ops oq := by
                have : t ∈ looks oq := tmpsOf_mem (by rw [hop, hxt]; simp [Op.operands])
                simp [namesOf, this]
              have := ((hok hq).1 hqz t hm i hw).2.1
              omega
            · rw [put_get hadf, if_neg, hfu d hdd]
              intro hdo2
              have h1 := writer_get hap ho hdo2
              rw [writer_get hap hq hdd] at h1
              cases h1; omega
  have stepAt : ∀ (listed : Array Bool) (a : Act) (w : World) (vs : Nat → Value) (Os : Nat → Nat → Prop) (i : Nat) (o : Oper), FInv ds n ops p a0 W listed a w → ops[i]? = some o → i < z → (∀ t ∈ namesOf ops o, ∀ j, writer ops 0 t = some j → listed[j]? = some true) →
      (∀ j : Nat, listed[j]? = some true → p j (flCum ops Os j) (vs j) w ∧ ∀ o t, ops[j]? = some o → o.dst = some t → a.tmps[t]? = some (vs j)) → (∀ (j k : Nat), Os j k → listed[j]? = some true ∧ W.heap.size ≤ k ∧ k < w.heap.size) →
      Runs1 C.P a w o (Lands ρ fun s ρ' _ w'' => Ext w w'' ∧ p i (flS ops (fun j => flCum ops Os j) w w'' (looks o)) (conc ρ' s) w'') := by
    intro listed a w vs Os i o hst ho hlt hnl hp hO
    have hHw := hHW.ext hst.x
    have hv := flF_of (((hat i o ho (by omega)).1 (by omega)) vs (fun j => flCum ops Os j) w hst.x hHw (fun j k hk => by obtain ⟨q, _, h2⟩ := hk; exact (hO q k h2).2)) (fun t ht j hj => (hp j (hnl t (by simp [namesOf, ht]) j hj)).1)
    rw [Nat.zero_add] at hv
    have hag : AgR ds ρ n (flE ops e) (flR ops vs (looks o)) a := by
      refine ⟨hst.defers, hst.size, fun t ht s hs => ?_, fun t r hr => ?_, fun t r hr x hx => ?_⟩
      · obtain ⟨h1, h2⟩ := flE_look hs
        rw [hst.nw t h2]; exact ha0.2.2 t s h1
      · rw [flR_first] at hr
        split at hr
        · rename_i htl
          cases hw : writer ops 0 t with
          | none => rw [hw] at hr; cases hr
          | some j =>
            rw [hw] at hr
            simp only [Option.some.injEq] at hr
            subst hr
            obtain ⟨_, oj, h3, h4⟩ := writer_spec ops 0 t j hw
            rw [Nat.sub_zero] at h3
            refine ⟨rfl, ?_⟩
            simp only [condR, cond_true, conc]
            exact (hp j (hnl t (by simp [namesOf, htl]) j hw)).2 oj t h3 h4
        · cases hr
      · rw [flR_first] at hr
        split at hr
        · cases hw : writer ops 0 t with
          | none => rw [hw] at hr; cases hr
          | some j =>
            rw [hw] at hr
            simp only [Option.some.injEq] at hr
            subst hr; cases hx
        · cases hr
    exact (vOp_sound hC hag hHw hv).1 rfl
  have key : ∀ (fuel : Nat) (listed : Array Bool) (a : Act) (w : World), listed.size = ops.length → listed.toList.count false = fuel → listed[z]? = some false → FInv ds n ops p a0 W listed a w → wpAnyIn (Wf r0) N C.P .any ops.toArray Q fuel listed a w := by
    intro fuel
    induction fuel with
    | zero =>
      intro listed a w hsz hc hzf hst
      have := all_listed hc z (by omega)
      rw [hzf] at this; cases this
    | succ fuel ih =>
      intro listed a w hsz hc hzf hst
      have hHw := hHW.ext hst.x
      have hz1 : ∀ j, j < ops.length → listed[j]? = some true → j < z := fun j hj hh => by
        rcases Nat.lt_trichotomy j z with h1 | h1 | h1
        · exact h1
        · subst h1; rw [hzf] at hh; cases hh
        · have hoj : ops[j]? = some ops[j] := List.getElem?_eq_getElem hj
          rcases (hok hoj).2.1 (by omega) z h1 with h2 | h2
          · have := ahead_mem hst.closed h2 hh
            rw [hzf] at this; cases this
          · have := lateB_lt h2.1; omega
      by_cases hallz : ∀ j, j < z → lateB ops z j = false → listed[j]? = some true
      · obtain ⟨vs, Os, hp, hO, hdj⟩ := hst.ex
        have hlate : ∀ q o, ops[q]? = some o → lateB ops z q = true → ¬ listed[q]? = some true → ∃ v, (∀ w', Does C.P a.eval w' o v) ∧ p q (flCum ops Os q) v w := fun q o hq hql hqn => by
          have hqz := lateB_lt hql
          obtain ⟨hnz, -, hsel, hdst, hgd⟩ := hok hq
          have hnm := hnz hqz
          have hr := stepAt listed a w vs Os q o hst hq hqz (fun t ht j hj => hallz j (by have := (hnm t ht j hj).2.1; omega) (hnm t ht j hj).2.2.2) hp hO
          obtain ⟨⟨x, ix, hop⟩, hds⟩ := lateB_op hql hq
          obtain ⟨v, h1, v', h2, h3⟩ := extract_pure hop hr
          obtain ⟨s, l', H'', rfl, hws, hH'', hxw, hpi⟩ := h3
          have had : dstOk a.tmps.size o.dst = true := by rw [hst.size]; exact hdst
          have hfin : p q (flCum ops Os q) (conc (ρ ++ l') s) w := hmono q _ _ _ _ _ (fun k hk => by
            rcases flS_of hk with h4 | ⟨t, ht, j, h4, q', h5, h6⟩
            · omega
            · obtain ⟨h7, h8, h9, _⟩ := hnm t (by simp [namesOf, ht]) j h4
              exact ⟨q', .inr (h5.elim (fun hh => hh ▸ h7) (h9 q')), h6⟩) (Ext.refl _) hpi
          cases hd : o.dst with
          | none => rw [hd] at hds; cases hds
          | some d =>
            have h4 : (a.put o.dst v).tmps[d]? = (a.put o.dst (conc (ρ ++ l') s)).tmps[d]? := by rw [h2]
            rw [put_get had, put_get had, if_pos hd, if_pos hd] at h4
            cases h4
            exact ⟨_, h1, hfin⟩
        have hvs : ∃ vs' : Nat → Value, (∀ j, listed[j]? = some true → vs' j = vs j) ∧ ∀ q o, ops[q]? = some o → lateB ops z q = true → ¬ listed[q]? = some true → (∀ w', Does C.P a.eval w' o (vs' q)) ∧ p q (flCum ops Os q) (vs' q) w := by
          have hex : ∀ q, ∃ v, (listed[q]? = some true → v = vs q) ∧ ∀ o, ops[q]? = some o → lateB ops z q = true → ¬ listed[q]? = some true → (∀ w', Does C.P a.eval w' o v) ∧ p q (flCum ops Os q) v w := fun q => by
            by_cases hl : listed[q]? = some true
            · exact ⟨vs q, fun _ => rfl, fun o _ _ h => absurd hl h⟩
            · by_cases hq : ∃ o, ops[q]? = some o ∧ lateB ops z q = true
              · obtain ⟨o, ho, hql⟩ := hq
                obtain ⟨v, h1, h2⟩ := hlate q o ho hql hl
                exact ⟨v, fun h => absurd h hl, fun o' ho' _ _ => by rw [ho] at ho'; cases ho'; exact ⟨h1, h2⟩⟩
              · exact ⟨undef, fun h => absurd h hl, fun o ho hql _ => absurd ⟨o, ho, hql⟩ hq⟩
          exact ⟨fun q => Classical.choose (hex q), fun j => (Classical.choose_spec (hex j)).1, fun q o => (Classical.choose_spec (hex q)).2 o⟩
        obtain ⟨vs', hv1, hv2⟩ := hvs
        have hpz : ∀ j, j < z → p j (flCum ops Os j) (vs' j) w := fun j hj => by
          by_cases hl : listed[j]? = some true
          · rw [hv1 j hl]; exact (hp j hl).1
          · have hoj : ops[j]? = some (ops[j]'(by omega)) := List.getElem?_eq_getElem (by omega)
            refine (hv2 j _ hoj ?_ hl).2
            cases hlb : lateB ops z j with
            | true => rfl
            | false => exact absurd (hallz j hj hlb) hl
        obtain ⟨l, H', svs, hH', hwfs, hcs, hv⟩ := ((hat z ops[z] (List.getElem?_eq_getElem hpos) (by omega)).2 (by omega)) vs' Os w hst.x hHw hpz (fun j k hk => (hO j k hk).2) hdj
        have hlen : svs.length = z := by
          have := congrArg List.length hcs
          simpa [concs_length] using this
        have hconc : ∀ j, j < z → ∀ s, svs[j]? = some s → conc (ρ ++ l) s = vs' j := fun j hj s hs => by
          have h1 := congrArg (fun x => x[j]?) hcs
          simp only [concs_get, hs, List.getElem?_map, List.getElem?_range hj, Option.map_some, Option.some.injEq] at h1
          exact h1
        -- what is there when the late ones have come
        let ft : Array Value := Array.ofFn (n := a.tmps.size) fun s => match writer ops 0 s.val with
          | some q => if lateB ops z q = true ∧ ¬ listed[q]? = some true then vs' q else a.tmps[s]
          | none => a.tmps[s]
        have hfs : ft.size = a.tmps.size := by simp [ft]
        have hfa : ∀ s : Nat, (∀ q, writer ops 0 s = some q → lateB ops z q = true → listed[q]? = some true) → ft[s]? = a.tmps[s]? := fun s hs => by
          rcases Nat.lt_or_ge s a.tmps.size with h1 | h1
          · rw [Array.getElem?_eq_getElem (by omega), Array.getElem?_eq_getElem h1]
            simp only [ft, Array.getElem_ofFn]
            cases hw : writer ops 0 s with
            | none => rfl
            | some q => simp only; rw [if_neg fun h => h.2 (hs q hw h.1)]; rfl
          · rw [Array.getElem?_eq_none (by omega), Array.getElem?_eq_none h1]
        have hfl : ∀ (q : Nat) (o : Oper) (d : Nat), ops[q]? = some o → lateB ops z q = true → ¬ listed[q]? = some true → o.dst = some d → ft[d]? = some (vs' q) := fun q o d hq hql hqn hd => by
          have h1 : d < a.tmps.size := by
            have := (hok hq).2.2.2.1
            rw [hd] at this
            rw [hst.size]; simpa [dstOk, Nat.blt_eq] using this
          rw [Array.getElem?_eq_getElem (by omega)]
          simp only [ft, Array.getElem_ofFn]
          rw [writer_get hap hq hd]
          simp only
          rw [if_pos ⟨hql, hqn⟩]
        have hag : AgR ds (ρ ++ l) n (flE ops e) (flZ ops svs) ⟨ft, a.defers⟩ := by
          refine ⟨hst.defers, by rw [hfs]; exact hst.size, fun t ht s hs => ?_, fun t r hr => ?_, fun t r hr x hx => ?_⟩
          · obtain ⟨h1, h2⟩ := flE_look hs
            obtain ⟨h3, h4⟩ := ha0.2.2 t s h1
            refine ⟨wf_mono (by simp) _ h3, ?_⟩
            rw [hfa t fun q hq => by rw [h2] at hq; cases hq]
            rw [hst.nw t h2, conc_app l s h3]; exact h4
          · obtain ⟨j, oj, s, h1, h2, h3, rfl⟩ := flZ_first hr
            have hjz : j < z := by have := (List.getElem?_eq_some_iff.1 h3).1; omega
            refine ⟨wfs_get hwfs h3, ?_⟩
            simp only [condR, cond_true]
            rw [hconc j hjz s h3]
            by_cases hl : listed[j]? = some true
            · rw [hfa t fun q hq _ => by rw [writer_get hap h1 h2] at hq; cases hq; exact hl]
              rw [hv1 j hl]; exact (hp j hl).2 oj t h1 h2
            · refine hfl j oj t h1 ?_ hl h2
              cases hlb : lateB ops z j with
              | true => rfl
              | false => exact absurd (hallz j hjz hlb) hl
          · obtain ⟨j, oj, s, h1, h2, h3, rfl⟩ := flZ_first hr
            cases hx
        exact tail (fuel + 1) z listed a ⟨ft, a.defers⟩ w l H' (flZ ops svs) (by omega) (Nat.le_refl _) hsz hc hz1 hallz hst.closed hag hH' hfs.symm rfl
          (fun s hs => (hfa s fun q hq hql => by
            obtain ⟨_, oq, h3, h4⟩ := writer_spec ops 0 s q hq
            rw [Nat.sub_zero] at h3
            exact hs q oq h3 h4 hql).symm) (fun q o hq hql hqn => ⟨vs' q, (hv2 q o hq hql hqn).1, fun d hd => hfl q o d hq hql hqn hd⟩) hv
      refine ⟨fun hr => absurd hr (ready_some hsz hback (by omega)), fun i hi => ?_⟩
      obtain ⟨o, ho, hif, hready⟩ := (memReady hsz i).1 hi
      obtain ⟨hil, _⟩ := List.getElem?_eq_some_iff.1 ho
      have hils : i < listed.size := by omega
      have hcount : (listed.setIfInBounds i true).toList.count false = fuel := by
        have := count_set listed.toList i (by simpa using hif)
        simp only [Array.toList_setIfInBounds]
        omega
      have hszs : (listed.setIfInBounds i true).size = ops.length := by simpa using hsz
      have hclI : Closed ops fun j => listed[j]? = some true ∨ j = i := closed_add hst.closed ho hready
      have ahl : ∀ {k}, ahB (aheadGo [] ops) i k = true → i ≠ k → listed[k]? = some true := fun {k} hk hne => (ahead_mem hclI hk (.inr rfl)).resolve_right fun hh => hne hh.symm
      have hclL : Closed ops fun j => (listed.setIfInBounds i true)[j]? = some true := fun k q hk hq x hx hb => by
        exact (set_get hils).2 (hclI k q ((set_get hils).1 hk).symm hq x hx hb).symm
      obtain ⟨hnz, hbk, hsel, hdst, hgd⟩ := hok ho
      have hlt : i < z := by
        rcases Nat.lt_or_ge i z with h1 | h1
        · exact h1
        · refine absurd (fun j hj hjn => ?_) hallz
          rcases hbk h1 j (by omega) with h2 | h2
          · exact ahl h2 (by omega)
          · rw [hjn] at h2; cases h2.1
      have hnm := hnz hlt
      have hiz : i ≠ z := by omega
      obtain ⟨vs, Os, hp, hO, hdj⟩ := hst.ex
      have hwt : Region.wanted o (yielded ops.toArray a.tmps) = true := by simp [Region.wanted, hgd]
      have had : dstOk a.tmps.size o.dst = true := by rw [hst.size]; exact hdst
      have nwput : ∀ v (t : Nat), writer ops 0 t = none → (a.put o.dst v).tmps[t]? = a0.tmps[t]? := fun v t ht => by
        rw [put_get had, if_neg (fun hdd => by rw [writer_get hap ho hdd] at ht; cases ht)]
        exact hst.nw t ht
      · have hr := stepAt listed a w vs Os i o hst ho hlt (fun t ht j hj => ahl (hnm t ht j hj).1 (by have := (hnm t ht j hj).2.1; omega)) hp hO
        refine wpOp_yes ho hwt (hr.mono ?_)
        rintro v w' ⟨s, l', H'', rfl, hws, hH'', hxw, hpi⟩
        have hq := hxw.size
        refine ih _ _ _ hszs hcount (by rw [Array.getElem?_setIfInBounds_ne hiz]; exact hzf) ⟨hst.x.trans hxw, by cases hdd : o.dst <;> simp [Act.put, hst.defers], by cases hdd : o.dst <;> simp [Act.put, hst.size], hclL, nwput _,
          fun j => if j = i then conc (ρ ++ l') s else vs j, fun j => if j = i then fun k => w.heap.size ≤ k ∧ k < w'.heap.size else Os j, fun j hj => ?_, fun j k hk => ?_, fun i' j' hne k hk hk' => ?_⟩
        · have hno : ∀ k, ¬ Os i k := fun k hk => by
            have := (hO i k hk).1
            rw [hif] at this; cases this
          rcases (set_get hils).1 hj with rfl | hj
          · simp only [if_true]
            refine ⟨hmono j _ _ _ _ _ (fun k hk => ?_) (Ext.refl _) hpi, fun o' t ho' ht => ?_⟩
            · rcases flS_of hk with h1 | ⟨t, ht, q, h1, q', h2, h3⟩
              · exact ⟨j, .inl rfl, by simp only [if_true]; exact h1⟩
              · obtain ⟨h4, h5, h6, _⟩ := hnm t (by simp [namesOf, ht]) q h1
                have hne : q' ≠ j := fun hh => hno k (hh ▸ h3)
                exact ⟨q', .inr (h2.elim (fun hh => hh ▸ h4) (h6 q')), by simp only [if_neg hne]; exact h3⟩
            · rw [ho] at ho'; cases ho'
              rw [put_get had, if_pos ht]
          · have hji : j ≠ i := fun hh => by rw [hh, hif] at hj; cases hj
            simp only [if_neg hji]
            refine ⟨hmono j _ _ _ _ _ (fun k hk => ?_) hxw (hp j hj).1, fun o' t ho' ht => ?_⟩
            · obtain ⟨q, h1, h2⟩ := hk
              exact ⟨q, h1, by simp only [if_neg (fun hh => hno k (hh ▸ h2) : ¬ q = i)]; exact h2⟩
            · rw [put_get had, if_neg, (hp j hj).2 o' t ho' ht]
              intro hdd
              have h1 := writer_get hap ho hdd
              rw [writer_get hap ho' ht] at h1
              cases h1; exact hji rfl
        · by_cases hji : j = i
          · subst hji
            simp only [if_true] at hk
            have := hst.x.size
            exact ⟨(set_get hils).2 (.inl rfl), by omega, hk.2⟩
          · simp only [if_neg hji] at hk
            obtain ⟨h1, h2, h3⟩ := hO j k hk
            exact ⟨(set_get hils).2 (.inr h1), h2, by omega⟩
        · by_cases h1 : i' = i
          · subst h1
            simp only [if_true] at hk
            simp only [if_neg (fun hh => hne hh.symm : ¬ j' = i')] at hk'
            have := (hO j' k hk').2; omega
          · simp only [if_neg h1] at hk
            by_cases h2 : j' = i
            · subst h2
              simp only [if_true] at hk'
              have := (hO i' k hk).2; omega
            · simp only [if_neg h2] at hk'
              exact hdj i' j' hne k hk hk'
  refine key ops.length _ a0 _ (by simp) (by simp) (by rw [Array.getElem?_replicate, if_pos hpos]) ⟨Ext.refl _, ha0.1, ha0.2.1, fun i o hi => ?_, fun t _ => rfl, fun _ => undef, fun _ _ => False, fun j hj => ?_, fun j k hk => hk.elim, fun i j _ k hk => hk.elim⟩
  · simp [Array.getElem?_replicate] at hi
  · simp [Array.getElem?_replicate] at hj
theorem drw_sound (hC : C.Ok) : DrwSound ds r0 N C n live := fun ops K Q e ρ H a w id hg ha hH h => h.elim (drwO_sound hC ops K Q e ρ H a w id hg ha hH) (flow_sound hC ops K Q e ρ H a w id hg ha hH)
end
end Go.Proofs.Bw

/-
  A function's contract out of its code's conditions; what is said where they stop.
-/
namespace Go.Proofs.Bw
open Go Go.RowKit
section
variable {ds : List Deferred} {r0 : Option Nat} {N : Nat} {ρ : List Nat} {n : Nat} {e : SEnv} {H : Heap} {w : World} {a : Act} {C : Cx}
def argsS : Nat → List SV → SEnv
  | _, [] => []
  | i, v :: r => (i, v) :: argsS (i + 1) r
theorem look_argsS (l : List SV) : ∀ i t s, lookS (argsS i l) t = some s → i ≤ t ∧ l[t - i]? = some s := by
  induction l with
  | nil => intro i t v h; cases h
  | cons u r ih =>
    intro i t v h
    simp only [argsS, lookS] at h
    by_cases hi : i = t
    · subst hi; rw [beq_self] at h; cases h; simp
    · rw [beq_ne hi] at h
      obtain ⟨h1, h2⟩ := ih _ _ _ h
      refine ⟨by omega, ?_⟩
      have : t - i = (t - (i + 1)) + 1 := by omega
      rw [this]; simpa using h2
theorem AgS.eval (h : AgS ds ρ n e a) {t : Nat} {s : SV} (hs : lookS e t = some s) : a.tmps.getD t undef = conc ρ s := by
  simp [Array.getD_eq_getD_getElem?, (h.2.2 t s hs).2]
theorem resS_sound (hC : C.Ok) (ha : AgS ds ρ n e a) (hH : Holds ρ H w) : ∀ {l : List ResultVar} {r : List SV}, resS C e H l = some r →
    (l.mapM (fun
      | .tmp t => pure (a.tmps.getD t undef)
      | .cell c t => do loadVar t (← asAddr (a.tmps.getD c undef)) : ResultVar → Sem Value)).run C.P w = .ok (concs ρ r) w := by
  intro l
  induction l with
  | nil => intro r h; simp only [resS, Option.some.injEq] at h; subst h; simp [concs]
  | cons x l ih =>
    intro r h
    cases x with
    | tmp t =>
      simp only [resS] at h
      split at h
      · rename_i s m hs hm
        simp only [Option.some.injEq] at h; subst h
        have := ha.eval hs
        simp only [List.mapM_cons, Sem.run_bind, Sem.run_pure, Result.andThen_ok, ih hm, concs, this]
      · cases h
    | cell c t =>
      simp only [resS] at h
      split at h
      · rename_i k off td m hs hd hm
        split at h
        · rename_i cs hcs
          split at h
          · rename_i s hp
            simp only [Option.some.injEq] at h; subst h
            have hv := ha.eval hs
            simp only [conc] at hv
            have hag := (hC.tab.get hd).agg
            have hsz := (hC.tab.get hd).size
            have hB := hH.box k cs hcs
            have hl : (loadVar t ⟨adr ρ k, off, none⟩).run C.P w = .ok (conc ρ s) w := by
              unfold pload at hp
              simp only [laid_eq] at hp
              split at hp
              · rename_i hagg
                rw [hagg] at hag
                cases hle : Nat.ble (off + td.size) cs.length with
                | false => rw [hle] at hp; cases hp
                | true =>
                  rw [hle] at hp
                  simp only [cond_true, PR.ok.injEq] at hp
                  subst hp
                  have hle' : off + td.size ≤ cs.length := Nat.le_of_ble_eq_true hle
                  have hr := (hB.rowAt off).take td.size
                  have hlen : ((concs ρ cs).drop off |>.take td.size).length = td.size := by
                    rw [List.length_take, List.length_drop, concs_length]; omega
                  have hrun := run_loadCells_list (P := C.P) w ⟨adr ρ k, off, none⟩ _ hr
                  rw [hlen] at hrun
                  simp [loadVar, hag w, hsz w, hrun, conc, concs_take, concs_drop]
              · rename_i hagg
                rw [hagg] at hag
                cases hg : cs[off]? with
                | none => rw [hg] at hp; cases hp
                | some s' =>
                  rw [hg] at hp
                  have hp : s' = s := by cases s' <;> (simp only [ofO, PR.ok.injEq] at hp; exact hp)
                  subst hp
                  have : w.cell? ⟨adr ρ k, off, none⟩ = some (conc ρ s') := by rw [hB.cell, concs_get, hg]; rfl
                  simp [loadVar, hag w, this]
            have hA : (asAddr (a.tmps.getD c undef)).run C.P w = .ok ⟨adr ρ k, off, none⟩ w := by rw [hv]; simp [asAddr]
            simp only [List.mapM_cons, Sem.run_bind, Sem.run_pure, Result.andThen_ok, hA, hl, ih hm, concs]
          · cases h
        · cases h
      · cases h
theorem vRet_sound (hC : C.Ok) {fn : Func} {K : Value → World → Prop} (ha : AgS ds ρ n e a) (hH : Holds ρ H w) (h : vRet C fn.results.toList K e ρ H w) : ∃ v, (results fn a.tmps).run C.P w = .ok v w ∧ K v w := by
  unfold vRet at h
  split at h
  · rename_i l hl
    refine ⟨_, ?_, h⟩
    have h1 := resS_sound hC ha hH hl
    obtain ⟨rs, hrs⟩ : ∃ rs, fn.results = rs := ⟨_, rfl⟩
    obtain ⟨rl⟩ := rs
    rw [hrs] at h1
    unfold results
    rw [hrs]
    simp only [List.mapM_toArray, map_eq_pure_bind, Sem.run_bind, Sem.run_pure]
    refine (congrArg (fun r : Result (List Value) => (r.andThen fun a w' => Result.ok a.toArray w').andThen fun a w' => Result.ok (if h : a.size = 1 then a[0] else Value.tuple a) w') h1).trans ?_
    simp only [Result.andThen_ok]
    cases l with
    | nil => rfl
    | cons s r =>
      cases r with
      | nil => rfl
      | cons s' r => rfl
  · exact h.elim
theorem Runs.of_vc {f : FuncId} {fn : Func} {c : Code} {K : Value → World → Prop} (hC : C.Ok) (live : List Nat) (vs : List SV) (hf : C.P.funcs[f]? = some fn) (hb : fn.body = some c) (hn : Nat.ble vs.length fn.ntmps = true)
    (hw : wfs ρ.length vs = true) (hH : Holds ρ H w) (h : vCode C fn.ntmps live (vRet C fn.results.toList K) c [] (vRet C fn.results.toList K) (argsS 0 vs) ρ H w) : Runs C.P f ⟨concs ρ vs⟩ w K := by
  have hn' : vs.length ≤ fn.ntmps := Nat.le_of_ble_eq_true hn
  have hgo : ∀ ex, Goes [] ρ fn.ntmps (vRet C fn.results.toList K) (fun a' w' => (ex = Exit.normal ∨ ex = Exit.ret) → a'.defers = [] ∧ ∃ v, (results fn a'.tmps).run C.P w' = .ok v w' ∧ K v w') := by
    intro ex e' l H' a' w' h1 h2 h3 _
    exact ⟨h1.1, vRet_sound hC h1 h2 h3⟩
  have hag : AgS [] ρ fn.ntmps (argsS 0 vs) ⟨(concs ρ vs).toArray ++ Array.replicate (fn.ntmps - (concs ρ vs).toArray.size) undef, []⟩ := by
    refine ⟨rfl, by simp [concs_length]; omega, fun t s hs => ?_⟩
    obtain ⟨_, h2⟩ := look_argsS vs 0 t s hs
    rw [Nat.sub_zero] at h2
    obtain ⟨hlt, _⟩ := List.getElem?_eq_some_iff.1 h2
    refine ⟨wfs_get hw h2, ?_⟩
    rw [Array.getElem?_append_left (by simpa [concs_length] using hlt)]
    simp [concs_get, h2]
  have hwp := vCode_sound (ds := []) (r0 := none) (N := 0) hC (drw_sound hC) c [] _ (fun ex a' w' => (ex = Exit.normal ∨ ex = Exit.ret) ∧ a'.defers = [] ∧ ∃ v, (results fn a'.tmps).run C.P w' = .ok v w' ∧ K v w') ρ _ H w _
    (fun e' l H' a' w' h1 h2 h3 => ⟨.inl rfl, hgo .normal e' l H' a' w' h1 h2 h3 (.inl rfl)⟩) (fun id kc hk => by cases hk) (fun e' l H' a' w' h1 h2 h3 => ⟨.inr rfl, hgo .ret e' l H' a' w' h1 h2 h3 (.inr rfl)⟩) hag hH h
  refine calls_of_wp hf hb (wp_mono (wpIn_wide.1 hwp) ?_)
  rintro x a' w' ⟨hx, hd, v, hr, hK⟩
  cases x with
  | normal => exact ⟨hd, v, hr, v, rfl, hK⟩
  | ret => exact ⟨hd, v, hr, v, rfl, hK⟩
  | _ => simp at hx
/-! ### where conditions stop -/
variable {f : Nat} {args : Array Value} {k : SV → List Nat → Heap → World → Prop}
theorem vcS {v : Value} (h : Runs C.P f args w fun u w' => u = v ∧ Ext w w') (hH : Holds ρ H w) (hk : ∀ w', Ext w w' → Holds ρ H w' → k (.v v) ρ H w') : Runs C.P f args w (Lands ρ k) := by
  refine h.mono ?_
  rintro _ w' ⟨rfl, hx⟩
  exact Lands.stay rfl (hH.ext hx) (hk w' hx (hH.ext hx))
theorem vcE {p : Value → World → Prop} (h : Runs C.P f args w fun u w' => Ext w w' ∧ p u w') (hH : Holds ρ H w) (hk : ∀ v w', Ext w w' → Holds ρ H w' → p v w' → k (.v v) ρ H w') : Runs C.P f args w (Lands ρ k) := by
  refine h.mono ?_
  rintro v w' ⟨hx, hp⟩
  exact Lands.stay (s := .v v) rfl (hH.ext hx) (hk v w' hx (hH.ext hx) hp)
theorem Lands.v {v : Value} (hH : Holds ρ H w) (hk : k (.v v) ρ H w) : Lands ρ k v w := Lands.stay (s := .v v) rfl hH hk
theorem Lands.ret {s : SV} {v : Value} (hv : conc ρ s = v) (hs : wf ρ.length s = true) (hH : Holds ρ H w) (hk : k s ρ H w) : Lands ρ k v w := by subst hv; exact Lands.stay hs hH hk
theorem vLoop_mk {σ : Type} {body : KC → KC} (I : σ → SEnv) (G : σ → Heap) (F : σ → World → Prop) (μ : σ → Nat) (s0 : σ) (hw : ∀ s, ewf ρ.length (I s) = true ∧ hwf ρ.length (G s) = true) (h0 : esub (I s0) e ∧ hsub (G s0) H ∧ F s0 w)
    (round : ∀ s w', Holds ρ (G s) w' → F s w' → body (fun e' _ H' w'' => ∃ s', μ s' < μ s ∧ esub (I s') e' ∧ hsub (G s') H' ∧ F s' w'') (I s) ρ (G s) w') : vLoop body e ρ H w := ⟨σ, I, G, F, μ, s0, hw, h0, round⟩
theorem vsd {R : List RE} {q X : Prop} (h : q) (k : X) : pathImp R [] q ∧ X := ⟨h, k⟩
theorem bytes_nil (s : ByteArray) : s = (⟨#[]⟩ : ByteArray) ↔ s.size = 0 := by
  constructor
  · intro h; subst h; rfl
  · intro h
    cases s with
    | mk d => congr 1; exact Array.eq_empty_of_size_eq_zero h
theorem Holds.one {g : Nat} {cs : List SV} (b : Box w g (concs [g] cs)) (hw : wfs 1 cs = true) : Holds [g] [(0, cs)] w := by
  refine ⟨fun k c hk => ?_, fun i j hi hj hij => ?_, fun i hi => ?_, fun k c hk => ?_⟩
  · simp only [hget] at hk
    by_cases h0 : 0 = k
    · subst h0; simp at hk; subst hk; exact b
    · rw [beq_ne h0] at hk; simp at hk
  · simp at hi hj; omega
  · simp at hi; subst hi; exact b.lt
  · simp only [hget] at hk
    by_cases h0 : 0 = k
    · subst h0; simp at hk; subst hk; exact ⟨by simp, hw⟩
    · rw [beq_ne h0] at hk; simp at hk
theorem vDrw_mk {live : List Nat} {ops : List Oper} {K : KC} (ch : List Nat) (ord : OT) (h : drwB ops ch ord = true) (k : ∀ w', Ext w w' → Holds ρ H w' → vDr C (fun _ => False) 1000000 n live ops (aheadGo [] ops) ch K ord [] [] e ρ H w') : vDrw C n live ops K e ρ H w := .inl ⟨ch, ord, fun _ => False, 1000000, .inl fun _ hk => hk, h, k⟩
theorem vDrwN_mk {live : List Nat} {ops : List Oper} {K : KC} (hH : Holds ρ H w) (ch : List Nat) (ord : OT) (h : drwB ops ch ord = true) (k : ∀ w', Ext w w' → w.heap.size ≤ w'.heap.size → Holds ρ H w' → vDr C (fun k => w.heap.size ≤ k) ρ.length n live ops (aheadGo [] ops) ch K ord [] [] e ρ H w') : vDrw C n live ops K e ρ H w :=
  .inl ⟨ch, ord, fun k => w.heap.size ≤ k, ρ.length, .inr ⟨Nat.le_refl _, fun i hi => by have := hH.lt i hi; omega⟩, h, fun w' x hh => k w' x x.size hh⟩
def HoldsL (ρ : List Nat) (w : World) : Heap → Prop
  | [] => True
  | (k, cs) :: r => Box w (adr ρ k) (concs ρ cs) ∧ HoldsL ρ w r
theorem HoldsL.get {H' : Heap} (h : HoldsL ρ w H') : ∀ k cs, hget H' k = some cs → Box w (adr ρ k) (concs ρ cs) := by
  induction H' with
  | nil => intro k cs hk; cases hk
  | cons x r ih =>
    obtain ⟨q, e⟩ := x
    intro k cs hk
    simp only [hget] at hk
    by_cases hq : q = k
    · subst hq; rw [beq_self] at hk; cases hk; exact h.1
    · rw [beq_ne hq] at hk; exact ih h.2 k cs hk
theorem Holds.of_list {w' : World} {H' : Heap} (h : Holds ρ H w) (hx : w.heap.size ≤ w'.heap.size) (hl : HoldsL ρ w' H') (hw : hwf ρ.length H' = true) : Holds ρ H' w' :=
  ⟨hl.get, h.ne, fun i hi => Nat.lt_of_lt_of_le (h.lt i hi) hx, fun k cs hk => hwf.get hw k cs hk⟩
theorem Lands.to {w' : World} {H' : Heap} {s : SV} {v : Value} (hv : conc ρ s = v) (hs : wf ρ.length s = true) (h : Holds ρ H w) (hx : w.heap.size ≤ w'.heap.size) (hl : HoldsL ρ w' H') (hw : hwf ρ.length H' = true) (hk : Holds ρ H' w' → k s ρ H' w') : Lands ρ k v w' :=
  Lands.ret hv hs (h.of_list hx hl hw) (hk (h.of_list hx hl hw))
end
end Go.Proofs.Bw

/-
  More of slices: appending whatever is appended, rows that are only read, making, cutting, texts out of bytes.
-/
namespace Go.Proofs.Bw
open Go Go.RowKit
section
variable {P : Program} (w : World)
theorem run_append_room_own {t tx ty e : TypeId} {i : TypeInfo} (ht : P.underlying t = some (.slice e)) (hi : P.info? e = some i)
    (g sLen sCap : Nat) (cur : Array Value) (hg : w.heap[g]? = some (.cells cur e (0, 0))) {x : Value} {m : Nat} {news : List Value} (hs : Go.Src P i.size tx x m news w)
    (hroom : sLen + m ≤ sCap) (hfit : sLen * i.size + news.length ≤ cur.size) :
    (Builtin.append_ #[t, tx] ty #[.slice (some ⟨g, 0, none⟩) sLen sCap, x]).run P w =
      .ok (.slice (some ⟨g, 0, none⟩) (sLen + m) sCap) (w.setRow g (cur.toList.take (sLen * i.size) ++ news ++ cur.toList.drop (sLen * i.size + news.length)).toArray) := by
  have hst := run_storeCells_at P g (sLen * i.size) e news 0 cur w hg (by simpa using hfit) hs.one
  simp only [Nat.add_zero] at hst
  rcases hs.kind with ⟨e', hk⟩ | hk <;> simp [Builtin.append_, run_underlying ht, run_underlying hk, sizeOf, typeInfo, hi, hs.len, hroom, hs.cells, Addr.add_lit, hst]
theorem run_append_ownS {base : Nat} {t tx ty e : TypeId} {i : TypeInfo} {z : Value} {size bytes : Nat} (ht : P.underlying t = some (.slice e)) (hi : P.info? e = some i) (hz : i.zero = some z)
    (hsize : i.size = size) (hby : i.bytes = bytes) (hzs : z.cells.size = size) {v : Value} {n : Nat} {xs : List Value} (hown : w.ownsRow base e size v n xs)
    {x : Value} {m : Nat} {news : List Value} (hs : Go.Src P size tx x m news w) (h63 : n + m ≤ maxLen) (hbytes : (n + m) * bytes ≤ 140737488355328) (hbase : base ≤ w.heap.size) (hsz : 0 < size) :
    ∃ v' w', (Builtin.append_ #[t, tx] ty #[v, x]).run P w = .ok v' w' ∧ w'.ownsRow base e size v' (n + m) (xs ++ news) ∧ w.grownBy w' v.ownBlock ∧ (∀ k, v'.ownBlock = some k → v.ownBlock = some k ∨ w.heap.size ≤ k) := by
  subst hsize
  subst hby
  have hl := hs.newsLen
  have hsmall : n + m ≤ 9223372036854775807 := by simp only [maxLen] at h63; omega
  have hlen : (xs ++ news).length = (n + m) * i.size := by rw [List.length_append, hown.1, hl, Nat.add_mul]
  have grown : ∀ (old : Nat), old < n + m → ∀ (row : Option Nat),
      (w.drew.alloc (.cells ((xs ++ news).toArray ++ Builtin.zeroCells z.cells (grownCap w (n + m) old e - (n + m))) e)).ownsRow base e i.size
        (.slice (some ⟨w.heap.size, 0, none⟩) (n + m) (grownCap w (n + m) old e)) (n + m) (xs ++ news) ∧
      w.grownBy (w.drew.alloc (.cells ((xs ++ news).toArray ++ Builtin.zeroCells z.cells (grownCap w (n + m) old e - (n + m))) e)) row := by
    intro old ho row
    have hge := grownCap_ge w (n + m) old e
    have hcm : grownCap w (n + m) old e ≤ maxLen := grownCap_le_maxLen w (n + m) old e h63
    refine ⟨⟨hlen, .inr ⟨w.heap.size, _, _, rfl, hbase, heap_alloc_new w.drew _, hge, hcm, ?_, ?_⟩⟩, ⟨rfl, rfl, rfl, by simp, fun k hk _ => Below.heap_alloc w.drew _ k hk⟩⟩
    · simp only [Array.size_append, List.size_toArray, size_zeroCells, hzs, hlen, ← Nat.add_mul]
      congr 1
      omega
    · simp only [Array.toList_append]
      rw [← hlen]
      exact List.take_left
  rcases hown.2 with ⟨rfl, rfl⟩ | ⟨g, cap, cur, rfl, hbg, hg, hnc, hcm, hcs, htake⟩
  · have hx : xs = [] := List.eq_nil_of_length_eq_zero (by simpa using hown.1)
    subst hx
    by_cases hm : m = 0
    · subst hm
      have hn : news = [] := List.eq_nil_of_length_eq_zero (by simpa using hl)
      subst hn
      exact ⟨_, _, run_append_nothing w t tx ty e i ht hi none 0 0 (Nat.le_refl _) x hs, World.ownsRow_nil w base e i.size, ⟨rfl, rfl, rfl, Nat.le_refl _, fun _ _ _ => rfl⟩, fun k hk => .inl hk⟩
    · have hr := run_append_grow_src (P := P) w t tx ty e i z ht hi hz none 0 0 [] (run_firstCells_none w.drew i.size 0 0 0) x m news hs (by omega) (by omega) (growslice_fits (by omega) hbytes)
      have hgr := grown 0 (by omega) (Value.ownBlock (.slice none 0 0))
      exact ⟨_, _, hr, hgr.1, hgr.2, fun k hk => .inr (by simp only [Value.ownBlock, Option.some.injEq] at hk; omega)⟩
  · by_cases hroom : n + m ≤ cap
    · have hfit : n * i.size + news.length ≤ cur.size := by rw [hl, hcs, ← Nat.add_mul]; exact Nat.mul_le_mul_right _ hroom
      have hr := run_append_room_own (P := P) (ty := ty) w ht hi g n cap cur hg hs hroom hfit
      refine ⟨_, _, hr, ⟨hlen, .inr ⟨g, cap, _, rfl, hbg, setRow_heap w g cur _ e _ hg, hroom, hcm, ?_, ?_⟩⟩, ⟨rfl, rfl, rfl, by simp, fun k _ hk => setRow_other w g k _ (fun e => hk (by simp [Value.ownBlock, e]))⟩, fun k hk => .inl hk⟩
      · simp only [List.size_toArray, List.length_append, List.length_take, List.length_drop, Array.length_toList]
        omega
      · rw [htake, ← hlen]
        exact List.take_left
    · have holds : ∀ j u, xs[j]? = some u → w.cell? ((⟨g, 0, none⟩ : Addr).add j) = some u := hown.cells (g := g) rfl
      have hold := run_firstCells_some (P := P) w.drew i.size n ⟨g, 0, none⟩ n cap xs hown.1 (by simpa using holds)
      have hr := run_append_grow_src (P := P) w t tx ty e i z ht hi hz (some ⟨g, 0, none⟩) n cap xs hold x m news hs (by omega) (by omega) (growslice_fits (by omega) hbytes)
      have hgr := grown cap (by omega) (Value.ownBlock (.slice (some ⟨g, 0, none⟩) n cap))
      exact ⟨_, _, hr, hgr.1, hgr.2, fun k hk => .inr (by simp only [Value.ownBlock, Option.some.injEq] at hk; omega)⟩
end
def Rd (w : World) (R : Nat → Prop) (sz : Nat) (A : Option Addr) (css : List (List Value)) : Prop := ∀ i r, css[i]? = some r → ∃ a, A = some a ∧ R a.block ∧ RowAt w (a.add (i * sz)) r
section
variable {w w' : World} {R R' : Nat → Prop} {sz lo el c : Nat} {A : Option Addr} {css : List (List Value)}
theorem Rd.nil (w : World) (R : Nat → Prop) (sz : Nat) (A : Option Addr) : Rd w R sz A [] := fun i r h => by simp at h
theorem Rd.mod {S : Nat → Prop} (h : Rd w R sz A css) (hm : Mod S w w') (hS : ∀ k, R k → ¬ S k) : Rd w' R sz A css := fun i r hr => by
  obtain ⟨a, h1, h2, h3⟩ := h i r hr
  exact ⟨a, h1, h2, h3.mod hm (by rw [block_add]; exact hS _ h2)⟩
theorem Rd.ext (h : Rd w R sz A css) (hm : Ext w w') : Rd w' R sz A css := h.mod hm fun _ _ h => h
theorem Rd.mono (h : Rd w R sz A css) (hr : ∀ k, R k → R' k) : Rd w R' sz A css := fun i r hi => by
  obtain ⟨a, h1, h2, h3⟩ := h i r hi
  exact ⟨a, h1, hr _ h2, h3⟩
theorem Rd.at (h : Rd w R sz A css) {i : Nat} {r : List Value} (hi : css[i]? = some r) : ∃ a, A = some a ∧ R a.block ∧ RowAt w (a.add (i * sz)) r := h i r hi
theorem Rd.small (h : Rd w R sz A css) (hl : ∀ r ∈ css, r.length = sz) (hsz : 0 < sz) : Rd w (fun k => R k ∧ k < w.heap.size) sz A css := fun i r hi => by
  obtain ⟨a, h1, h2, h3⟩ := h i r hi
  refine ⟨a, h1, ⟨h2, ?_⟩, h3⟩
  have := h3.lt (by rw [hl r (List.mem_of_getElem? hi)]; exact hsz)
  rwa [block_add] at this
theorem OwnR.rd (h : OwnR w lo el sz A c css) : Rd w (fun k => lo ≤ k ∧ k < w.heap.size) sz A css := fun i r hi => by
  obtain ⟨g, h1, h2, h3⟩ := h.at hi
  exact ⟨_, h1, ⟨h2, (h.block h1).2⟩, h3⟩
theorem Rd.flat (h : Rd w R sz A css) (hl : ∀ r ∈ css, r.length = sz) {a : Addr} (ha : A = some a) : RowAt w a css.flatten := by
  intro j u hu
  have hsz : 0 < sz := by
    rcases Nat.eq_zero_or_pos sz with h0 | h0
    · have := flat_len css hl
      rw [h0, Nat.mul_zero] at this
      rw [List.eq_nil_of_length_eq_zero this] at hu; simp at hu
    · exact h0
  obtain ⟨hj, _⟩ := List.getElem?_eq_some_iff.1 hu
  rw [flat_len css hl] at hj
  have hq : j / sz < css.length := by rw [Nat.div_lt_iff_lt_mul hsz]; exact hj
  have hr := flat_get css hl (j / sz) css[j / sz] (List.getElem?_eq_getElem hq)
  obtain ⟨a', h1, _, h3⟩ := h (j / sz) _ (List.getElem?_eq_getElem hq)
  rw [ha] at h1; cases h1
  have hu' : (css[j / sz])[j % sz]? = some u := by
    rw [← hr, List.getElem?_take, if_pos (Nat.mod_lt _ hsz), List.getElem?_drop]
    rw [show j / sz * sz + j % sz = j by rw [Nat.mul_comm]; exact Nat.div_add_mod j sz]
    exact hu
  have := h3 (j % sz) u hu'
  rw [add_add, show j / sz * sz + j % sz = j by rw [Nat.mul_comm]; exact Nat.div_add_mod j sz] at this
  exact this
theorem Rd.src {P : Program} {tx e' : TypeId} (h : Rd w R sz A css) (hk : P.underlying tx = some (.slice e')) (hl : ∀ r ∈ css, r.length = sz) (h1 : ∀ u ∈ css.flatten, u.oneCell' = true) (c : Nat) : Go.Src P sz tx (.slice A css.length c) css.length css.flatten w := by
  cases A with
  | none =>
    cases css with
    | nil => exact Go.Src.ofNil w hk c
    | cons r rs => obtain ⟨a, ha, _⟩ := h 0 r rfl; cases ha
  | some a => exact Go.Src.ofSlice w hk a _ c _ (flat_len css hl) (fun j u hu => h.flat hl rfl j u hu) h1
def ownOf (A : Option Addr) : Nat → Prop := fun k => ∃ a, A = some a ∧ k = a.block
theorem OwnR.of_row {v : Value} (hl : ∀ r ∈ css, r.length = sz) (ho : w.ownsRow lo el sz v css.length css.flatten) : ∃ A' c', v = .slice A' css.length c' ∧ OwnR w lo el sz A' c' css := by
  obtain ⟨A', c1, rfl⟩ : ∃ A' c1, v = .slice A' css.length c1 := by
    rcases ho.2 with ⟨h2, h3⟩ | ⟨g, cap, cur, h2, _⟩
    · exact ⟨none, 0, by rw [h2, h3]⟩
    · exact ⟨_, _, h2⟩
  exact ⟨A', c1, rfl, hl, ho⟩
theorem Mod.of_own {v : Value} {n : Nat} (hv : v = .slice A n c) (hg : w.grownBy w' v.ownBlock) : Mod (ownOf A) w w' := by
  subst hv
  refine (Mod.of_grown hg).mono fun k hk => ?_
  cases A with
  | none => simp [Value.ownBlock] at hk
  | some a => simp only [Value.ownBlock, Option.some.injEq] at hk; exact ⟨a, rfl, hk⟩
structure ElOk (P : Program) (el sz bytes : Nat) : Prop where
  ok : ∃ i z, P.info? el = some i ∧ i.zero = some z ∧ i.size = sz ∧ i.bytes = bytes ∧ z.cells.size = sz
  pos : 0 < sz
variable {P : Program} {e : Env} {K : Value → World → Prop} {d : Option Tmp} {t : TypeId} {pos : String} {af : Array Edge} {g' : Option (Nat × Bool)}
theorem OpT.appendS' {x y : Operand} {st tx : TypeId} {bytes m : Nat} {yv : Value} {news : List (List Value)} (hel : ElOk P el sz bytes) (ht : P.underlying st = some (.slice el))
    (hx : evalO e x = some (.slice A css.length c)) (hy : evalO e y = some yv) (hown : OwnR w lo el sz A c css) (hsrc : Go.Src P sz tx yv m news.flatten w) (hm : m = news.length) (hl : ∀ r ∈ news, r.length = sz)
    (h63 : (css.length + news.length) * bytes ≤ 140737488355328 ∧ css.length + news.length ≤ 9223372036854775807) (hlo : lo ≤ w.heap.size)
    (h : ∀ w' A' c', Mod (ownOf A) w w' → OwnR w' lo el sz A' c' (css ++ news) → (∀ k, ownOf A' k → ownOf A k ∨ w.heap.size ≤ k) → K (.slice A' (css ++ news).length c') w') :
    OpT P e w ⟨d, .call ⟨.builtin .append, #[x, y], #[st, tx]⟩, t, pos, af, g'⟩ K := by
  subst hm
  obtain ⟨i, z, hi, hz, hs, hby, hzs⟩ := hel.ok
  obtain ⟨v', w', hr, ho, hg, hfr⟩ := run_append_ownS (P := P) (ty := t) w ht hi hz hs hby hzs hown.2 hsrc (by simp only [maxLen]; omega) h63.1 hlo hel.pos
  have hall : ∀ r ∈ css ++ news, r.length = sz := fun r hr => (List.mem_append.1 hr).elim (hown.1 r) (hl r)
  rw [← List.flatten_append, ← List.length_append] at ho
  obtain ⟨A', c1, rfl, hO⟩ := OwnR.of_row hall ho
  refine OpT.value (fun ρ hρ => ?_) (h w' A' c1 (Mod.of_own rfl hg) hO fun k ⟨a, ha, hk⟩ => ?_)
  rotate_left
  · rcases hfr k (by rw [ha, hk]; rfl) with h1 | h1
    · refine .inl ?_
      cases A with
      | none => simp [Value.ownBlock] at h1
      | some b => simp only [Value.ownBlock, Option.some.injEq] at h1; exact ⟨b, rfl, h1.symm⟩
    · exact .inr h1
  simp [execOp, resolve, invoke, builtin, hρ x _ hx, hρ y _ hy, hr]
theorem Box.src {g n c : Nat} {vs : List Value} (b : Box w g vs) {tx e' : TypeId} (hk : P.underlying tx = some (.slice e')) (hl : vs.length = n * sz) (h1 : ∀ u ∈ vs, u.oneCell' = true) : Go.Src P sz tx (.slice (some ⟨g, 0, none⟩) n c) n vs w :=
  Go.Src.ofSlice w hk _ n c vs hl (by have := b.rowAt 0; rw [List.drop_zero] at this; exact this) h1
theorem OpT.append1' {x y : Operand} {st : TypeId} {bytes g n : Nat} {r : List Value} {css' : List (List Value)} {n' : Nat} (hel : ElOk P el sz bytes) (ht : P.underlying st = some (.slice el))
    (hx : evalO e x = some (.slice A n c)) (hy : evalO e y = some (.slice (some ⟨g, 0, none⟩) 1 1)) (hown : OwnR w lo el sz A c css) (b : Box w g r) (hn : n = css.length) (hr : r.length = sz) (h1 : r.all Value.oneCell' = true) (hcss : css ++ [r] = css') (hn' : css'.length = n')
    (h63 : css'.length * bytes ≤ 140737488355328 ∧ css'.length ≤ 9223372036854775807) (hlo : lo ≤ w.heap.size)
    (h : ∀ w' A' c', Mod (ownOf A) w w' → OwnR w' lo el sz A' c' css' → (∀ k, ownOf A' k → ownOf A k ∨ w.heap.size ≤ k) → K (.slice A' n' c') w') :
    OpT P e w ⟨d, .call ⟨.builtin .append, #[x, y], #[st, st]⟩, t, pos, af, g'⟩ K := by
  subst hn; subst hcss; subst hn'
  have hs := b.src (P := P) (sz := sz) (tx := st) (n := 1) (c := 1) ht (by simpa using hr) (fun u hu => List.all_eq_true.1 h1 u hu)
  refine OpT.appendS' (news := [r]) (m := 1) hel ht hx hy hown (by simpa using hs) rfl (fun q hq => ?_) (by simpa using h63) hlo h
  · simp only [List.mem_singleton] at hq; subst hq; exact hr
theorem Holds.mod {ρ : List Nat} {H : Heap} {S : Nat → Prop} (h : Holds ρ H w) (hm : Mod S w w') (hS : ∀ i, i < ρ.length → ¬ S (adr ρ i)) : Holds ρ H w' :=
  ⟨fun k cs hk => (h.box k cs hk).mod hm (hS k (h.ok k cs hk).1), h.ne, fun i hi => Nat.lt_of_lt_of_le (h.lt i hi) hm.size, h.ok⟩
theorem Holds.own {ρ : List Nat} {H : Heap} (h : Holds ρ H w) (hown : OwnR w lo el sz A c css) (hm : Mod (ownOf A) w w') (hS : ∀ i, i < ρ.length → adr ρ i < lo) : Holds ρ H w' := h.mod hm fun i hi ⟨a, ha, e⟩ => by
  have h1 := (hown.block ha).1
  have h2 := hS i hi
  omega
theorem Mod.own {w0 : World} (hx : Ext w0 w) (hown : OwnR w lo el sz A c css) (hlo : w0.heap.size ≤ lo) (hm : Mod (ownOf A) w w') : Ext w0 w' := by
  refine hx.trans' hm ?_
  rintro i hi ⟨a, ha, rfl⟩
  have := (hown.block ha).1
  omega
theorem OpT.buildOwn {bt : TypeId} {len : Nat} {parts : List (Nat × Operand)} {vs : List (Nat × Value)} {z : Value} {cs : Array Value} {g : Option (Nat × Bool)} (hv : PArgs e parts vs) (hu : P.underlying bt = some (.slice el)) (hs : SizeIs P el sz) (hz : ZeroIs P el z)
    (hsm : Nat.ble (len * sz) 16777216 = true) (hf : Instr.fill (fun i => some (i * sz, sz)) ((Array.range (len * sz)).map ((if len * sz = 0 then #[] else z.cells)[· % (if len * sz = 0 then #[] else z.cells).size]!)) vs = some cs)
    (hcs : css.flatten = cs.toList) (hr : ∀ r ∈ css, r.length = sz) (hlen : css.length = len) (hmx : Nat.ble len 16777216 = true)
    (h : ∀ w' b, b = w.heap.size → Ext w w' → w'.heap.size = w.heap.size + 1 → OwnR w' w.heap.size el sz (some ⟨b, 0, none⟩) len css → K (.slice (some ⟨b, 0, none⟩) len len) w') : OpT P e w ⟨d, .buildSlice bt len parts.toArray, t, pos, af, g⟩ K := by
  have hle : ¬ (len * sz > 2 ^ 24) := by have := Nat.le_of_ble_eq_true hsm; omega
  have hsz : cs.size = len * sz := by
    have := flat_len css hr
    rw [hcs, hlen] at this
    simpa using this
  have hown : OwnR (w.alloc (.cells cs el)) w.heap.size el sz (some ⟨w.heap.size, 0, none⟩) len css := by
    refine ⟨hr, flat_len css hr, .inr ⟨w.heap.size, len, cs, by rw [hlen], Nat.le_refl _, heap_alloc_new w _, by omega, ?_, hsz, ?_⟩⟩
    · have := Nat.le_of_ble_eq_true hmx; simp only [maxLen]; omega
    · rw [hcs, hlen]; exact List.take_of_length_le (by simpa using Nat.le_of_eq hsz)
  refine OpT.value (w' := w.alloc (.cells cs el)) (fun ρ hρ => ?_) (h _ _ rfl (Ext.alloc _ _) (by simp) hown)
  have hm : parts.toArray.map (fun (i, x) => (i, ρ x)) = vs.toArray := by rw [← hv.map hρ]; simp
  by_cases h0 : len * sz = 0
  · simp only [h0, if_true] at hf
    simp [execOp, hm, Instr.buildSlice, run_underlying hu, hs w, h0, newRow]
    simp at hf
    simp [hf]
  · simp only [h0, if_false] at hf
    simp [execOp, hm, Instr.buildSlice, run_underlying hu, hs w, hle, h0, hz w, newRow, hf]
theorem OwnR.lower {lo' : Nat} (h : OwnR w lo el sz A c css) (hl : lo' ≤ lo) : OwnR w lo' el sz A c css := by
  refine ⟨h.1, h.2.1, ?_⟩
  rcases h.2.2 with hn | ⟨g, cap, cur, h1, hb, rest⟩
  · exact .inl hn
  · exact .inr ⟨g, cap, cur, h1, by omega, rest⟩
theorem Rd.cut (h : Rd w R sz A css) (hc : css.length ≤ c) (i : Nat) : Rd w R sz (if c = i then A else A.map (·.add (i * sz))) (css.drop i) := by
  intro k r hr
  obtain ⟨hk, _⟩ := List.getElem?_eq_some_iff.1 hr
  rw [List.length_drop] at hk
  rw [if_neg (by omega)]
  rw [List.getElem?_drop] at hr
  obtain ⟨a, h1, h2, h3⟩ := h (i + k) r hr
  refine ⟨a.add (i * sz), by rw [h1]; rfl, by rw [block_add]; exact h2, ?_⟩
  rw [add_add, ← Nat.add_mul]; exact h3
theorem Rd.take (h : Rd w R sz A css) (n : Nat) : Rd w R sz A (css.take n) := by
  intro k r hr
  rw [List.getElem?_take] at hr
  split at hr
  · exact h k r hr
  · cases hr
end
theorem Holds.two {w : World} {g1 g2 : Nat} {cs ds : List SV} (hne : g1 ≠ g2) (b1 : Box w g1 (concs [g1, g2] cs)) (b2 : Box w g2 (concs [g1, g2] ds)) (hw : (wfs 2 cs && wfs 2 ds) = true) : Holds [g1, g2] [(0, cs), (1, ds)] w := by
  simp only [Bool.and_eq_true] at hw
  have key : ∀ k c, hget [(0, cs), (1, ds)] k = some c → (k = 0 ∧ c = cs) ∨ (k = 1 ∧ c = ds) := by
    intro k c hk
    simp only [hget] at hk
    by_cases h0 : 0 = k
    · subst h0; simp at hk; exact .inl ⟨rfl, hk.symm⟩
    · rw [beq_ne h0] at hk
      by_cases h1 : 1 = k
      · subst h1; simp at hk; exact .inr ⟨rfl, hk.symm⟩
      · rw [beq_ne h1] at hk; simp at hk
  refine ⟨fun k c hk => ?_, fun i j hi hj hij => ?_, fun i hi => ?_, fun k c hk => ?_⟩
  · rcases key k c hk with ⟨rfl, rfl⟩ | ⟨rfl, rfl⟩
    · exact b1
    · exact b2
  · simp at hi hj
    have : (i = 0 ∧ j = 1) ∨ (i = 1 ∧ j = 0) := by omega
    rcases this with ⟨rfl, rfl⟩ | ⟨rfl, rfl⟩
    · exact hne
    · exact fun h => hne h.symm
  · simp at hi
    have : i = 0 ∨ i = 1 := by omega
    rcases this with rfl | rfl
    · exact b1.lt
    · exact b2.lt
  · rcases key k c hk with ⟨rfl, rfl⟩ | ⟨rfl, rfl⟩
    · exact ⟨by simp, hw.1⟩
    · exact ⟨by simp, hw.2⟩
/-! ### bytes -/
def strOf (bs : List UInt8) : ByteArray := ⟨bs.toArray⟩
theorem strOf_size (bs : List UInt8) : (strOf bs).size = bs.length := by unfold strOf; show bs.toArray.size = _; simp
theorem strOf_list (bs : List UInt8) : (strOf bs).data.toList = bs := by simp [strOf]
theorem vskip {A X Y : Prop} {b : Bool} (hc : b = false) (k : Y) : A ∨ ((b = true → X) ∧ (b = false → Y)) := .inr ⟨fun h => (by rw [hc] at h; cases h), fun _ => k⟩
theorem vyes {A X Y : Prop} {b : Bool} (hc : b = true) (k : X) : A ∨ ((b = true → X) ∧ (b = false → Y)) := .inr ⟨fun _ => k, fun h => (by rw [hc] at h; cases h)⟩
end Go.Proofs.Bw

/-
  Loops of which only what turns is told.
-/
namespace Go.Proofs.Bw
open Go Go.RowKit
def keepE (dr : List Nat) : SEnv → SEnv
  | [] => []
  | (t, s) :: r => bif nmem dr t then keepE dr r else (t, s) :: keepE dr r
def keepH (dr : List Nat) : Heap → Heap
  | [] => []
  | (t, s) :: r => bif nmem dr t then keepH dr r else (t, s) :: keepH dr r
def overE (dr : List Nat) : SEnv → SEnv → SEnv
  | [], e => keepE dr e
  | x :: r, e => x :: overE dr r e
def overH (dr : List Nat) : Heap → Heap → Heap
  | [], e => keepH dr e
  | x :: r, e => x :: overH dr r e
theorem esub_over {dr : List Nat} {e e' : SEnv} : ∀ {c : SEnv}, esub c e' → esub (keepE dr e) e' → esub (overE dr c e) e'
  | [], _, h => h
  | (_, _) :: _, h, h2 => ⟨h.1, esub_over h.2 h2⟩
theorem hsub_over {dr : List Nat} {e e' : Heap} : ∀ {c : Heap}, hsub c e' → hsub (keepH dr e) e' → hsub (overH dr c e) e'
  | [], _, h => h
  | (_, _) :: _, h, h2 => ⟨h.1, hsub_over h.2 h2⟩
section
variable {ρ : List Nat} {e : SEnv} {H : Heap} {w : World}
theorem vLoop_upd {σ : Type} {body : KC → KC} (dr : List Nat) (cg : σ → SEnv) (dh : List Nat) (ch : σ → Heap) (F : σ → World → Prop) (μ : σ → Nat) (s0 : σ)
    (hw : ∀ s, ewf ρ.length (overE dr (cg s) e) = true ∧ hwf ρ.length (overH dh (ch s) H) = true) (h0 : esub (cg s0) e ∧ esub (keepE dr e) e ∧ hsub (ch s0) H ∧ hsub (keepH dh H) H ∧ F s0 w)
    (round : ∀ s w', Holds ρ (overH dh (ch s) H) w' → F s w' → fE (overE dr (cg s) e) fun I => fH (overH dh (ch s) H) fun G => body (fun e' _ H' w'' => ∃ s', μ s' < μ s ∧ esub (overE dr (cg s') e) e' ∧ hsub (overH dh (ch s') H) H' ∧ F s' w'') I ρ G w') : vLoop body e ρ H w := by
  refine vLoop_mk (fun s => overE dr (cg s) e) (fun s => overH dh (ch s) H) F μ s0 hw ⟨esub_over h0.1 h0.2.1, hsub_over h0.2.2.1 h0.2.2.2.1, h0.2.2.2.2⟩ ?_
  intro s w' hh hF
  have := round s w' hh hF
  rw [fE_eq, fH_eq] at this
  exact this
theorem vJoin_upd {σ : Type} {C : Cx} {n : Nat} {live : List Nat} {kr : KC} {x y : Code} {ks : List (Nat × KC)} {k : KC} {b : Bool} (dr : List Nat) (cg : σ → SEnv) (dh : List Nat) (ch : σ → Heap) (F : σ → World → Prop)
    (hw : ∀ s, ewf ρ.length (overE dr (cg s) e) = true ∧ hwf ρ.length (overH dh (ch s) H) = true)
    (hx : b = true → vCode C n live kr x ks (fun e' _ H' w' => ∃ s, esub (overE dr (cg s) e) e' ∧ hsub (overH dh (ch s) H) H' ∧ F s w') e ρ H w)
    (hy : b = false → vCode C n live kr y ks (fun e' _ H' w' => ∃ s, esub (overE dr (cg s) e) e' ∧ hsub (overH dh (ch s) H) H' ∧ F s w') e ρ H w)
    (hk : ∀ s w', Holds ρ (overH dh (ch s) H) w' → F s w' → fE (overE dr (cg s) e) fun I => fH (overH dh (ch s) H) fun G => k I ρ G w') :
    vBranch b (vCode C n live kr x ks k e ρ H w) (vCode C n live kr y ks k e ρ H w) ∨ vJoin (fun k' => vBranch b (vCode C n live kr x ks k' e ρ H w) (vCode C n live kr y ks k' e ρ H w)) k ρ := by
  refine .inr ⟨σ, fun s => overE dr (cg s) e, fun s => overH dh (ch s) H, F, hw, ⟨hx, hy⟩, fun s w' hh hF => ?_⟩
  have := hk s w' hh hF
  rw [fE_eq, fH_eq] at this
  exact this
end
end Go.Proofs.Bw

/-
  Values of a type, how they lie; slices of them that may be read; slices of them of one's own.
-/
namespace Go.Proofs.Bw
open Go Go.RowKit
set_option linter.unusedSectionVars false
set_option linter.unusedSimpArgs false
set_option linter.unusedVariables false
structure Enc (α : Type) where
  sz : Nat
  rep : World → (Nat → Prop) → List Value → α → Prop
  pos : 0 < sz
  len : ∀ {w R cs a}, rep w R cs a → cs.length = sz
  one : ∀ {w R cs a}, rep w R cs a → ∀ u ∈ cs, u.oneCell' = true
  mod : ∀ {S R w w' cs a}, rep w R cs a → Mod S w w' → (∀ k, R k → ¬ S k) → rep w' R cs a
  mono : ∀ {R R' w cs a}, rep w R cs a → (∀ k, R k → R' k) → rep w R' cs a
  small : ∀ {R w cs a}, rep w R cs a → rep w (fun k => R k ∧ k < w.heap.size) cs a
section
variable {α : Type} {E : Enc α} {w w' : World} {R R' : Nat → Prop} {A : Option Addr} {l : List α} {lo el c : Nat}
theorem Enc.ext {cs : List Value} {a : α} (h : E.rep w R cs a) (hx : Ext w w') : E.rep w' R cs a := E.mod h hx fun _ _ h => h
def Sl (E : Enc α) (w : World) (R : Nat → Prop) (A : Option Addr) (l : List α) : Prop := ∀ (i : Nat) (x : α), l[i]? = some x → ∃ a cs, A = some a ∧ R a.block ∧ RowAt w (a.add (i * E.sz)) cs ∧ E.rep w R cs x
theorem Sl.nil (E : Enc α) (w : World) (R : Nat → Prop) (A : Option Addr) : Sl E w R A [] := fun i x h => by simp at h
theorem Sl.at (h : Sl E w R A l) {i : Nat} (hi : i < l.length) : ∃ a cs, A = some a ∧ R a.block ∧ RowAt w (a.add (i * E.sz)) cs ∧ E.rep w R cs l[i] := h i _ (List.getElem?_eq_getElem hi)
theorem Sl.mod {S : Nat → Prop} (h : Sl E w R A l) (hm : Mod S w w') (hS : ∀ k, R k → ¬ S k) : Sl E w' R A l := fun i x hx => by
  obtain ⟨a, cs, h1, h2, h3, h4⟩ := h i x hx
  exact ⟨a, cs, h1, h2, h3.mod hm (by rw [block_add]; exact hS _ h2), E.mod h4 hm hS⟩
theorem Sl.ext (h : Sl E w R A l) (hm : Ext w w') : Sl E w' R A l := h.mod hm fun _ _ h => h
theorem Sl.mono (h : Sl E w R A l) (hr : ∀ k, R k → R' k) : Sl E w R' A l := fun i x hx => by
  obtain ⟨a, cs, h1, h2, h3, h4⟩ := h i x hx
  exact ⟨a, cs, h1, hr _ h2, h3, E.mono h4 hr⟩
theorem Sl.small (h : Sl E w R A l) : Sl E w (fun k => R k ∧ k < w.heap.size) A l := fun i x hx => by
  obtain ⟨a, cs, h1, h2, h3, h4⟩ := h i x hx
  exact ⟨a, cs, h1, ⟨h2, by have := h3.lt (by rw [E.len h4]; exact E.pos); rwa [block_add] at this⟩, h3, E.small h4⟩
theorem Sl.take (h : Sl E w R A l) (n : Nat) : Sl E w R A (l.take n) := fun i x hx => by
  rw [List.getElem?_take] at hx
  split at hx
  · exact h i x hx
  · cases hx
theorem Sl.cut (h : Sl E w R A l) (hc : l.length ≤ c) (i : Nat) : Sl E w R (if c = i then A else A.map (·.add (i * E.sz))) (l.drop i) := fun k x hx => by
  obtain ⟨hk, _⟩ := List.getElem?_eq_some_iff.1 hx
  rw [List.length_drop] at hk
  rw [if_neg (by omega)]
  rw [List.getElem?_drop] at hx
  obtain ⟨a, cs, h1, h2, h3, h4⟩ := h _ x hx
  refine ⟨a.add (i * E.sz), cs, by rw [h1]; rfl, by rw [block_add]; exact h2, ?_, h4⟩
  rw [Addr.add_add, ← Nat.add_mul]; exact h3
theorem Sl.rows (h : Sl E w R A l) : ∃ css : List (List Value), css.length = l.length ∧ Rd w R E.sz A css ∧ (∀ (i : Nat) (cs : List Value) (x : α), css[i]? = some cs → l[i]? = some x → E.rep w R cs x) := by
  have hc : ∀ i : Fin l.length, ∃ cs, (∃ a, A = some a ∧ R a.block ∧ RowAt w (a.add (i.1 * E.sz)) cs) ∧ E.rep w R cs l[i.1] := fun i => by
    obtain ⟨a, cs, h1, h2, h3, h4⟩ := h.at i.2
    exact ⟨cs, ⟨a, h1, h2, h3⟩, h4⟩
  refine ⟨List.ofFn fun i => Classical.choose (hc i), by simp, fun i r hr => ?_, fun i cs x hcs hx => ?_⟩
  · obtain ⟨hi, rfl⟩ := List.getElem?_eq_some_iff.1 hr
    simp only [List.length_ofFn] at hi
    rw [List.getElem_ofFn]
    obtain ⟨a, h1, h2, h3⟩ := (Classical.choose_spec (hc ⟨i, hi⟩)).1
    exact ⟨a, h1, h2, h3⟩
  · obtain ⟨hi, rfl⟩ := List.getElem?_eq_some_iff.1 hcs
    simp only [List.length_ofFn] at hi
    rw [List.getElem_ofFn]
    have := (Classical.choose_spec (hc ⟨i, hi⟩)).2
    rw [List.getElem?_eq_getElem hi] at hx
    cases hx
    exact this
def Reps (E : Enc α) (w : World) (R : Nat → Prop) (css : List (List Value)) (l : List α) : Prop := css.length = l.length ∧ ∀ (i : Nat) (cs : List Value) (x : α), css[i]? = some cs → l[i]? = some x → E.rep w R cs x
theorem Reps.mod {S : Nat → Prop} {css : List (List Value)} (h : Reps E w R css l) (hm : Mod S w w') (hS : ∀ k, R k → ¬ S k) : Reps E w' R css l := ⟨h.1, fun i cs x h1 h2 => E.mod (h.2 i cs x h1 h2) hm hS⟩
theorem Reps.mono {css : List (List Value)} (h : Reps E w R css l) (hr : ∀ k, R k → R' k) : Reps E w R' css l := ⟨h.1, fun i cs x h1 h2 => E.mono (h.2 i cs x h1 h2) hr⟩
theorem Reps.small {css : List (List Value)} (h : Reps E w R css l) : Reps E w (fun k => R k ∧ k < w.heap.size) css l := ⟨h.1, fun i cs x h1 h2 => E.small (h.2 i cs x h1 h2)⟩
theorem Reps.append {css css' : List (List Value)} {l' : List α} (h : Reps E w R css l) (h' : Reps E w R css' l') : Reps E w R (css ++ css') (l ++ l') := by
  refine ⟨by simp [h.1, h'.1], fun i cs x h1 h2 => ?_⟩
  by_cases hi : i < css.length
  · rw [List.getElem?_append_left hi] at h1
    rw [List.getElem?_append_left (by rw [← h.1]; exact hi)] at h2
    exact h.2 i cs x h1 h2
  · rw [List.getElem?_append_right (by omega)] at h1
    rw [List.getElem?_append_right (by rw [← h.1]; omega), ← h.1] at h2
    exact h'.2 _ cs x h1 h2
theorem Reps.lens {css : List (List Value)} (h : Reps E w R css l) : ∀ r ∈ css, r.length = E.sz := fun r hr => by
  obtain ⟨i, hi, rfl⟩ := List.getElem_of_mem hr
  exact E.len (h.2 i _ (l[i]'(by rw [← h.1]; exact hi)) (List.getElem?_eq_getElem hi) (List.getElem?_eq_getElem _))
theorem Reps.ones {css : List (List Value)} (h : Reps E w R css l) : ∀ u ∈ css.flatten, u.oneCell' = true := fun u hu => by
  obtain ⟨r, hr, hu⟩ := List.mem_flatten.1 hu
  obtain ⟨i, hi, rfl⟩ := List.getElem_of_mem hr
  exact E.one (h.2 i _ (l[i]'(by rw [← h.1]; exact hi)) (List.getElem?_eq_getElem hi) (List.getElem?_eq_getElem _)) u hu
theorem Reps.nil (E : Enc α) (w : World) (R : Nat → Prop) : Reps E w R [] [] := ⟨rfl, fun i cs x h => by simp at h⟩
theorem Reps.cons {cs : List Value} {x : α} {css : List (List Value)} (h0 : E.rep w R cs x) (h : Reps E w R css l) : Reps E w R (cs :: css) (x :: l) := by
  refine ⟨by simp [h.1], fun i cs' x' h1 h2 => ?_⟩
  cases i with
  | zero => simp at h1 h2; subst h1; subst h2; exact h0
  | succ i => exact h.2 i cs' x' (by simpa using h1) (by simpa using h2)
theorem Reps.sl {css : List (List Value)} (h : Reps E w R css l) (hr : Rd w R E.sz A css) : Sl E w R A l := fun i x hx => by
  obtain ⟨hi, _⟩ := List.getElem?_eq_some_iff.1 hx
  have hi' : i < css.length := by rw [h.1]; exact hi
  obtain ⟨a, h1, h2, h3⟩ := hr i _ (List.getElem?_eq_getElem hi')
  exact ⟨a, _, h1, h2, h3, h.2 i _ x (List.getElem?_eq_getElem hi') hx⟩
theorem Sl.reps (h : Sl E w R A l) : ∃ css, Reps E w R css l ∧ Rd w R E.sz A css := by
  obtain ⟨css, h1, h2, h3⟩ := h.rows
  exact ⟨css, ⟨h1, h3⟩, h2⟩
def OwnE (E : Enc α) (w : World) (lo el : Nat) (R : Nat → Prop) (A : Option Addr) (c : Nat) (l : List α) : Prop :=
  ∃ css, OwnR w lo el E.sz A c css ∧ Reps E w (fun k => ((R k ∨ lo ≤ k) ∧ k < w.heap.size) ∧ ¬ ownOf A k) css l
theorem OwnE.nil (E : Enc α) (w : World) (lo el : Nat) (R : Nat → Prop) : OwnE E w lo el R none 0 [] := ⟨[], OwnR.nil w lo el E.sz, Reps.nil _ _ _⟩
theorem OwnE.le (h : OwnE E w lo el R A c l) : l.length ≤ c ∧ c ≤ 9223372036854775807 := by
  obtain ⟨css, h1, h2⟩ := h
  have := h1.le
  rw [h2.1] at this
  exact this
theorem OwnE.block (h : OwnE E w lo el R A c l) {a : Addr} (ha : A = some a) : lo ≤ a.block ∧ a.block < w.heap.size := by
  obtain ⟨css, h1, h2⟩ := h
  exact h1.block ha
theorem OwnE.lt (h : OwnE E w lo el R A c l) : ∀ k, ownOf A k → lo ≤ k ∧ k < w.heap.size := fun k ⟨a, ha, e⟩ => by subst e; exact h.block ha
theorem OwnE.mod {S : Nat → Prop} (h : OwnE E w lo el R A c l) (hm : Mod S w w') (hS : ∀ k, k < w.heap.size → S k → ¬ R k ∧ k < lo) : OwnE E w' lo el R A c l := by
  have hb := h.lt
  obtain ⟨css, h1, h2⟩ := h
  refine ⟨css, h1.mod (S := S) hm (fun a ha hs => ?_), (h2.mod hm fun k hk hs => ?_).mono fun k hk => ⟨⟨hk.1.1, Nat.lt_of_lt_of_le hk.1.2 hm.size⟩, hk.2⟩⟩
  · have h3 := hb _ ⟨a, ha, rfl⟩
    have := (hS _ h3.2 hs).2
    omega
  · have h3 := hS k hk.1.2 hs
    rcases hk.1.1 with h4 | h4
    · exact h3.1 h4
    · omega
theorem OwnE.ext (h : OwnE E w lo el R A c l) (hm : Ext w w') : OwnE E w' lo el R A c l := h.mod hm fun _ _ h => h.elim
theorem OwnE.upd {g : Nat} (h : OwnE E w lo el R A c l) (hm : Upd g w w') (hg : g < lo) (hR : ¬ R g) : OwnE E w' lo el R A c l := h.mod hm fun k _ e => by
  have e : k = g := e
  subst e; exact ⟨hR, hg⟩
theorem OwnE.sl (h : OwnE E w lo el R A c l) : Sl E w (fun k => (R k ∨ lo ≤ k) ∧ k < w.heap.size) A l := by
  obtain ⟨css, h1, h2⟩ := h
  refine (h2.mono fun k hk => hk.1).sl fun i r hi => ?_
  obtain ⟨a, h3, h4, h5⟩ := h1.rd i r hi
  exact ⟨a, h3, ⟨.inr h4.1, h4.2⟩, h5⟩
theorem OwnE.mono (h : OwnE E w lo el R A c l) (hr : ∀ k, R k → R' k) : OwnE E w lo el R' A c l := by
  obtain ⟨css, h1, h2⟩ := h
  exact ⟨css, h1, h2.mono fun k hk => ⟨⟨hk.1.1.imp (hr k) id, hk.1.2⟩, hk.2⟩⟩
theorem OwnE.lower {lo' : Nat} (h : OwnE E w lo el R A c l) (hl : lo' ≤ lo) : OwnE E w lo' el R A c l := by
  obtain ⟨css, h1, h2⟩ := h
  exact ⟨css, h1.lower hl, h2.mono fun k hk => ⟨⟨hk.1.1.imp id (Nat.le_trans hl), hk.1.2⟩, hk.2⟩⟩
def farR (lo b : Nat) : List Nat → Prop
  | [] => True
  | g :: r => (g < lo ∨ b ≤ g) ∧ farR lo b r
theorem farR.get {b : Nat} : ∀ {ρ : List Nat}, farR lo b ρ → ∀ i, i < ρ.length → adr ρ i < lo ∨ b ≤ adr ρ i
  | [], _, i, h => by simp at h
  | g :: r, h, 0, _ => h.1
  | g :: r, h, i + 1, hi => farR.get h.2 i (by simpa using hi)
variable {P : Program} {e : Env} {K : Value → World → Prop} {d : Option Tmp} {t : TypeId} {pos : String} {af : Array Edge} {g' : Option (Nat × Bool)} {ρ : List Nat} {H : Heap} {k : SV → List Nat → Heap → World → Prop}
theorem OpT.appendG {x y : Operand} {st tx : TypeId} {bytes m n cc n' : Nat} {B : Option Addr} {R2 : Nat → Prop} {l2 l3 : List α} (hel : ElOk P el E.sz bytes) (ht : P.underlying st = some (.slice el)) (htx : P.underlying tx = some (.slice el))
    (hx : evalO e x = some (.slice A n c)) (hy : evalO e y = some (.slice B m cc)) (hn : n = l.length) (hm : m = l2.length) (h3 : l ++ l2 = l3) (hn' : n' = l3.length) (hown : OwnE E w lo el R A c l) (hR : Sl E w R2 B l2)
    (hR2 : ∀ k, R2 k → k < w.heap.size → (R k ∨ lo ≤ k) ∧ ¬ ownOf A k) (hlo : lo ≤ w.heap.size) (hRlo : ∀ k, R k → k < w.heap.size → ¬ ownOf A k)
    (hH : Holds ρ H w) (hρ : ∀ i, i < ρ.length → ¬ ownOf A (adr ρ i))
    (h63 : l3.length * bytes ≤ 140737488355328 ∧ l3.length ≤ 9223372036854775807)
    (h : ∀ w' A' c', Mod (ownOf A) w w' → w.heap.size ≤ w'.heap.size → OwnE E w' lo el R A' c' l3 → (∀ k, ownOf A' k → ownOf A k ∨ w.heap.size ≤ k) → Holds ρ H w' → k (.v (.slice A' n' c')) ρ H w') :
    OpT P e w ⟨d, .call ⟨.builtin .append, #[x, y], #[st, tx]⟩, t, pos, af, g'⟩ (Lands ρ k) := by
  subst hn; subst hm; subst h3; subst hn'
  have hlt := hown.lt
  obtain ⟨css, h1, h2⟩ := hown
  obtain ⟨news, q1, q2⟩ := hR.small.reps
  have hl1 := h2.1
  have hl2 := q1.1
  have hs := q2.src (P := P) (tx := tx) htx q1.lens q1.ones cc
  rw [hl2] at hs
  have h63' : (css.length + news.length) * bytes ≤ 140737488355328 ∧ css.length + news.length ≤ 9223372036854775807 := by
    rw [hl1, hl2]; rw [List.length_append] at h63; exact h63
  refine OpT.appendS' (news := news) (m := l2.length) hel ht (by rw [hl1]; exact hx) hy h1 hs hl2.symm q1.lens h63' hlo fun w' A' c' m' o' f' => ?_
  have hlen : (css ++ news).length = (l ++ l2).length := by rw [List.length_append, List.length_append, hl1, hl2]
  rw [hlen]
  have hH' : Holds ρ H w' := hH.mod m' hρ
  refine Lands.v hH' (h w' A' c' m' m'.size ⟨css ++ news, o', ?_⟩ f' hH')
  have r1 : Reps E w (fun k => ((R k ∨ lo ≤ k) ∧ k < w.heap.size) ∧ ¬ ownOf A k) (css ++ news) (l ++ l2) := h2.append (q1.mono fun k hk => ⟨⟨(hR2 k hk.1 hk.2).1, hk.2⟩, (hR2 k hk.1 hk.2).2⟩)
  refine (r1.mod m' fun k hk => hk.2).mono fun k hk => ⟨⟨hk.1.1, Nat.lt_of_lt_of_le hk.1.2 m'.size⟩, fun h4 => ?_⟩
  rcases f' k h4 with h5 | h5
  · exact hk.2 h5
  · have := hk.1.2; omega
theorem OpT.appendE {x y : Operand} {st tx : TypeId} {bytes m n cc b n' : Nat} {B : Option Addr} {R2 : Nat → Prop} {l2 l3 : List α} (hel : ElOk P el E.sz bytes) (ht : P.underlying st = some (.slice el)) (htx : P.underlying tx = some (.slice el))
    (hx : evalO e x = some (.slice A n c)) (hy : evalO e y = some (.slice B m cc)) (hn : n = l.length) (hm : m = l2.length) (h3 : l ++ l2 = l3) (hn' : n' = l3.length) (hown : OwnE E w lo el R A c l) (hR : Sl E w R2 B l2)
    (hR2 : ∀ k, R2 k → k < w.heap.size → (R k ∨ lo ≤ k) ∧ ¬ ownOf A k) (hlo : lo ≤ w.heap.size) (hRlo : ∀ k, R k → k < w.heap.size → ¬ ownOf A k)
    (hH : Holds ρ H w) (hb : ∀ k, ownOf A k → k < b) (hρ : farR lo b ρ)
    (h63 : l3.length * bytes ≤ 140737488355328 ∧ l3.length ≤ 9223372036854775807)
    (h : ∀ w' A' c', Mod (ownOf A) w w' → w.heap.size ≤ w'.heap.size → OwnE E w' lo el R A' c' l3 → (∀ k, ownOf A' k → ownOf A k ∨ w.heap.size ≤ k) → Holds ρ H w' → k (.v (.slice A' n' c')) ρ H w') :
    OpT P e w ⟨d, .call ⟨.builtin .append, #[x, y], #[st, tx]⟩, t, pos, af, g'⟩ (Lands ρ k) :=
  OpT.appendG hel ht htx hx hy hn hm h3 hn' hown hR hR2 hlo hRlo hH (fun i hi hs => by
    have h4 := hown.lt _ hs
    have h5 := hb _ hs
    rcases hρ.get i hi with h6 | h6 <;> omega) h63 h
/-! slices that are written out -/
theorem fold_write (off : Nat) : ∀ (l : List Value) (k : Nat) (base : Array Value), off + k + l.length ≤ base.size →
    ((l.zipIdx k).foldl (fun (cs : Array Value) (x : Value × Nat) => cs.setIfInBounds (off + x.2) x.1) base).toList = base.toList.take (off + k) ++ l ++ base.toList.drop (off + k + l.length)
  | [], k, base, h => by simp
  | v :: r, k, base, h => by
    simp only [List.length_cons] at h
    rw [List.zipIdx_cons, List.foldl_cons, fold_write off r (k + 1) _ (by simp; omega)]
    simp only [Array.toList_setIfInBounds]
    have hlt : off + k < base.toList.length := by simp; omega
    have e1 : (base.toList.set (off + k) v).take (off + (k + 1)) = base.toList.take (off + k) ++ [v] := by
      rw [← Nat.add_assoc, List.take_succ_eq_append_getElem (by simpa using hlt), List.getElem_set_self, List.take_set_of_le (by omega)]
    have e2 : (base.toList.set (off + k) v).drop (off + (k + 1) + r.length) = base.toList.drop (off + k + (v :: r).length) := by
      rw [List.drop_set_of_lt (by omega)]
      simp only [List.length_cons]
      congr 1
      omega
    rw [e1, e2]
    simp
def partsOf : Nat → List Value → List (Nat × Value)
  | _, [] => []
  | k, v :: r => (k, v) :: partsOf (k + 1) r
theorem fill_parts {sz : Nat} : ∀ (vs : List Value) (k : Nat) (base : Array Value), (∀ v ∈ vs, v.cells.size = sz) → (k + vs.length) * sz ≤ base.size →
    ∃ cs, Instr.fill (fun i => some (i * sz, sz)) base (partsOf k vs) = some cs ∧ cs.toList = base.toList.take (k * sz) ++ (vs.map fun v => v.cells.toList).flatten ++ base.toList.drop ((k + vs.length) * sz)
  | [], k, base, _, _ => ⟨base, rfl, by simp⟩
  | v :: r, k, base, hv, hb => by
    have h0 : v.cells.size = sz := hv v List.mem_cons_self
    simp only [List.length_cons] at hb
    have hk : k * sz + sz ≤ base.size := by
      refine Nat.le_trans ?_ hb
      rw [← Nat.succ_mul]; exact Nat.mul_le_mul_right _ (by omega)
    simp only [partsOf, Instr.fill, h0]
    rw [if_neg (by simp; omega)]
    have hf : (v.cells.zipIdx.foldl (fun (cs : Array Value) (x : Value × Nat) => cs.setIfInBounds (k * sz + x.2) x.1) base).toList = base.toList.take (k * sz) ++ v.cells.toList ++ base.toList.drop (k * sz + sz) := by
      rw [← Array.foldl_toList, Array.toList_zipIdx]
      have := fold_write (k * sz) v.cells.toList 0 base (by simp [h0]; omega)
      simp only [Nat.add_zero] at this
      rw [this]; simp [h0]
    have hs : (v.cells.zipIdx.foldl (fun (cs : Array Value) (x : Value × Nat) => cs.setIfInBounds (k * sz + x.2) x.1) base).size = base.size := by
      have := congrArg List.length hf
      simp only [Array.length_toList, List.length_append, List.length_take, List.length_drop, h0] at this
      omega
    obtain ⟨cs, h1, h2⟩ := fill_parts r (k + 1) _ (fun u hu => hv u (List.mem_cons_of_mem _ hu)) (by rw [hs]; refine Nat.le_trans (Nat.le_of_eq ?_) hb; congr 1; omega)
    refine ⟨cs, h1, ?_⟩
    rw [h2, hf]
    have e1 : (base.toList.take (k * sz) ++ v.cells.toList ++ base.toList.drop (k * sz + sz)).take ((k + 1) * sz) = base.toList.take (k * sz) ++ v.cells.toList := by
      rw [List.take_append_of_le_length (by simp [h0]; rw [Nat.succ_mul]; omega), List.take_of_length_le (by simp [h0]; rw [Nat.succ_mul]; omega)]
    have e2 : (base.toList.take (k * sz) ++ v.cells.toList ++ base.toList.drop (k * sz + sz)).drop ((k + 1 + r.length) * sz) = base.toList.drop ((k + (v :: r).length) * sz) := by
      have e : (k + 1 + r.length) * sz = (base.toList.take (k * sz) ++ v.cells.toList).length + r.length * sz := by
        simp [h0, Nat.add_mul, Nat.succ_mul]; omega
      rw [e, List.drop_append, List.drop_eq_nil_of_le (by omega), List.nil_append, Nat.add_sub_cancel_left, List.drop_drop]
      simp only [List.length_cons]
      congr 1
      simp [Nat.add_mul, Nat.succ_mul]; omega
    rw [e1, e2]
    simp
theorem OpT.buildE {bt : TypeId} {len : Nat} {parts : List (Nat × Operand)} {vs : List Value} {css : List (List Value)} {z : Value} (hZ : ZeroIs P el z) (hv : PArgs e parts (partsOf 0 vs)) (hu : P.underlying bt = some (.slice el)) (hs : SizeIs P el E.sz) (hlen : len = vs.length)
    (hcs : vs.map (fun v => v.cells.toList) = css) (hr : Reps E w R css l) (hmx : Nat.ble (len * E.sz) 16777216 = true) (hmx2 : Nat.ble len 16777216 = true) (hH : Holds ρ H w)
    (h : ∀ w' b, b = w.heap.size → Ext w w' → w'.heap.size = w.heap.size + 1 → OwnE E w' w.heap.size el R (some ⟨b, 0, none⟩) len l → Holds ρ H w' → k (.v (.slice (some ⟨b, 0, none⟩) len len)) ρ H w') : OpT P e w ⟨d, .buildSlice bt len parts.toArray, t, pos, af, g'⟩ (Lands ρ k) := by
  subst hlen; subst hcs
  have hpos := E.pos
  have hcl : ∀ v ∈ vs, v.cells.size = E.sz := fun v hv => by
    have := hr.lens v.cells.toList (List.mem_map.2 ⟨v, hv, rfl⟩)
    simpa using this
  obtain ⟨cs, hf, hcs⟩ := fill_parts vs 0 ((Array.range (vs.length * E.sz)).map ((if vs.length * E.sz = 0 then #[] else z.cells)[· % (if vs.length * E.sz = 0 then #[] else z.cells).size]!)) hcl (by simp)
  have hcs' : (vs.map fun v => v.cells.toList).flatten = cs.toList := by
    rw [hcs]; simp
  refine OpT.buildOwn (vs := partsOf 0 vs) (css := vs.map fun v => v.cells.toList) hv hu hs hZ hmx hf hcs' hr.lens (by simp) hmx2 fun w' b eb x z' o => ?_
  refine Lands.v (hH.ext x) (h w' b eb x z' ⟨_, o, ?_⟩ (hH.ext x))
  refine (hr.small.mod (S := fun _ => False) x fun _ _ h => h).mono fun k hk => ⟨⟨.inl hk.1, Nat.lt_of_lt_of_le hk.2 x.size⟩, fun ⟨a, ha, e⟩ => ?_⟩
  cases ha
  have e : k = b := e
  have := hk.2
  omega
theorem OpT.appendO {w0 w2 : World} {x y : Operand} {st tx : TypeId} {bytes m n cc n' lo2 el2 : Nat} {B : Option Addr} {l2 l3 : List α} (hel : ElOk P el E.sz bytes) (ht : P.underlying st = some (.slice el)) (htx : P.underlying tx = some (.slice el))
    (hx : evalO e x = some (.slice A n c)) (hy : evalO e y = some (.slice B m cc)) (hn : n = l.length) (hm : m = l2.length) (h3 : l ++ l2 = l3) (hn' : n' = l3.length) (hown : OwnE E w2 lo el R A c l) (x2 : Ext w2 w) (hsrc : OwnE E w lo2 el2 R B cc l2)
    (h2 : lo ≤ lo2 ∧ w2.heap.size ≤ lo2) (hRlo : ∀ k, R k → k < lo) (x0 : Ext w0 w) (h0 : w0.heap.size ≤ lo ∧ lo ≤ w.heap.size) (hH : Holds ρ H w) (hρ : farR lo w2.heap.size ρ)
    (h63 : l3.length * bytes ≤ 140737488355328 ∧ l3.length ≤ 9223372036854775807)
    (h : ∀ w' A' c', Ext w0 w' → w.heap.size ≤ w'.heap.size → OwnE E w' lo el R A' c' l3 → Holds ρ H w' → k (.v (.slice A' n' c')) ρ H w') :
    OpT P e w ⟨d, .call ⟨.builtin .append, #[x, y], #[st, tx]⟩, t, pos, af, g'⟩ (Lands ρ k) := by
  have hlt := hown.lt
  refine OpT.appendE hel ht htx hx hy hn hm h3 hn' (hown.ext x2) hsrc.sl (fun k hk hks => ⟨?_, fun ho => ?_⟩) h0.2 (fun k hk _ ho => ?_) hH (b := w2.heap.size) (fun k hk => (hlt k hk).2) hρ h63 fun w' A' c' m' z' o' f' hh' => h w' A' c' ?_ z' o' hh'
  · rcases hk.1 with h4 | h4
    · exact .inl h4
    · exact .inr (by omega)
  · have h5 := hlt k ho
    rcases hk.1 with h4 | h4
    · have := hRlo k h4; omega
    · omega
  · have h5 := hlt k ho; have := hRlo k hk; omega
  · exact x0.trans' m' fun k hk hs => by have := hlt k hs; omega
theorem OpT.appendL {w0 w2 : World} {x y : Operand} {st tx : TypeId} {bytes m n cc n' : Nat} {B : Option Addr} {R2 : Nat → Prop} {l2 l3 : List α} (hel : ElOk P el E.sz bytes) (ht : P.underlying st = some (.slice el)) (htx : P.underlying tx = some (.slice el))
    (hx : evalO e x = some (.slice A n c)) (hy : evalO e y = some (.slice B m cc)) (hn : n = l.length) (hm : m = l2.length) (h3 : l ++ l2 = l3) (hn' : n' = l3.length) (hown : OwnE E w2 lo el R A c l) (x2 : Ext w2 w) (hsrc : Sl E w R2 B l2)
    (h2 : ∀ k, R2 k → k < w.heap.size → R k ∨ (lo ≤ k ∧ w2.heap.size ≤ k)) (hRlo : ∀ k, R k → k < lo) (x0 : Ext w0 w) (h0 : w0.heap.size ≤ lo ∧ lo ≤ w.heap.size) (hH : Holds ρ H w) (hρ : farR lo w2.heap.size ρ)
    (h63 : l3.length * bytes ≤ 140737488355328 ∧ l3.length ≤ 9223372036854775807)
    (h : ∀ w' A' c', Ext w0 w' → w.heap.size ≤ w'.heap.size → OwnE E w' lo el R A' c' l3 → Holds ρ H w' → k (.v (.slice A' n' c')) ρ H w') :
    OpT P e w ⟨d, .call ⟨.builtin .append, #[x, y], #[st, tx]⟩, t, pos, af, g'⟩ (Lands ρ k) := by
  have hlt := hown.lt
  refine OpT.appendE hel ht htx hx hy hn hm h3 hn' (hown.ext x2) hsrc (fun k hk hks => ⟨?_, fun ho => ?_⟩) h0.2 (fun k hk _ ho => ?_) hH (b := w2.heap.size) (fun k hk => (hlt k hk).2) hρ h63 fun w' A' c' m' z' o' f' hh' => h w' A' c' ?_ z' o' hh'
  · rcases h2 k hk hks with h4 | h4
    · exact .inl h4
    · exact .inr h4.1
  · have h5 := hlt k ho
    rcases h2 k hk hks with h4 | h4
    · have := hRlo k h4; omega
    · omega
  · have h5 := hlt k ho; have := hRlo k hk; omega
  · exact x0.trans' m' fun k hk hs => by have := hlt k hs; omega
variable {C : Cx} {f : Nat} {args : Array Value}
theorem vcZ {v : Value} (h : Runs C.P f args w fun u w' => u = v ∧ Ext w w') (hH : Holds ρ H w) (hk : ∀ w', Ext w w' → w.heap.size ≤ w'.heap.size → Holds ρ H w' → k (.v v) ρ H w') : Runs C.P f args w (Lands ρ k) :=
  vcS h hH fun w' x hh => hk w' x x.size hh
theorem vcV {p : Value → World → Prop} (h : Runs C.P f args w fun u w' => Ext w w' ∧ p u w') (hH : Holds ρ H w) (hk : ∀ v w', Ext w w' → w.heap.size ≤ w'.heap.size → Holds ρ H w' → p v w' → k (.v v) ρ H w') : Runs C.P f args w (Lands ρ k) :=
  vcE h hH fun v w' x hh hp => hk v w' x x.size hh hp
theorem Holds.of (hnd : ρ.Nodup) (hlt : ∀ g ∈ ρ, g < w.heap.size) (hl : HoldsL ρ w H) (hw : hwf ρ.length H = true) : Holds ρ H w := by
  have key : ∀ (r : List Nat) (i : Nat), i < r.length → r[i]? = some (adr r i) := by
    intro r
    induction r with
    | nil => intro i h; simp at h
    | cons g r ih =>
      intro i h
      cases i with
      | zero => rfl
      | succ i => simpa [adr] using ih i (by simpa using h)
  refine ⟨hl.get, fun i j hi hj hij he => hij ?_, fun i hi => hlt _ (List.mem_of_getElem? (key ρ i hi)), fun k cs hk => hwf.get hw k cs hk⟩
  have h1 := key ρ i hi
  have h2 := key ρ j hj
  rw [he] at h1
  exact (List.getElem?_inj hi hnd).1 (h1.trans h2.symm)
theorem addr_zero (a : Addr) : a.add 0 = a := by
  obtain ⟨b, o, s⟩ := a
  cases s <;> simp [Addr.add]
theorem OpT.slicePre {x : Operand} {hi : Option Operand} {st : TypeId} {n m sz : Nat} {j : Int} (hs : P.underlying st = some (.slice el)) (hz : SizeIs P el sz) (hx : evalO e x = some (.slice A n c)) (hh : hiOf e n hi = some j) (hj : 0 ≤ j ∧ j ≤ c) (hm : j.toNat = m)
    (h : K (.slice A m c) w) : OpT P e w ⟨d, .slice st x none hi none, t, pos, af, g'⟩ K := by
  subst hm
  refine OpT.slice hs hz hx (i := 0) rfl hh (by omega) ?_
  have e1 : (if c = 0 then A else A.map (·.add (0 * sz))) = A := by
    split
    · rfl
    · cases A with
      | none => rfl
      | some a => simp [addr_zero]
  simp only [Nat.zero_mul] at e1
  simpa [e1] using h
theorem vDrwM_mk {n : Nat} {e : SEnv} {live : List Nat} {ops : List Oper} {K : KC} (S : Nat → Prop) (hS : ∀ i, i < ρ.length → ¬ S (adr ρ i)) (ch : List Nat) (ord : OT) (h : drwB ops ch ord = true) (k : ∀ w', Ext w w' → w.heap.size ≤ w'.heap.size → Holds ρ H w' → vDr C S ρ.length n live ops (aheadGo [] ops) ch K ord [] [] e ρ H w') : vDrw C n live ops K e ρ H w :=
  .inl ⟨ch, ord, S, ρ.length, .inr ⟨Nat.le_refl _, hS⟩, h, fun w' x hh => k w' x x.size hh⟩
def outR (S : Nat → Prop) : List Nat → Prop
  | [] => True
  | g :: r => ¬ S g ∧ outR S r
theorem outR.get {S : Nat → Prop} : ∀ {ρ : List Nat}, outR S ρ → ∀ i, i < ρ.length → ¬ S (adr ρ i)
  | [], _, i, h => by simp at h
  | g :: r, h, 0, _ => h.1
  | g :: r, h, i + 1, hi => outR.get h.2 i (by simpa using hi)
end
end Go.Proofs.Bw

/-
  Maps: what is looked up, put and taken out, at keys of which the equality is known.
-/
namespace Go.Proofs.Bw
open Go Go.RowKit
set_option linter.unusedSectionVars false
set_option linter.unusedSimpArgs false
def mfind {κ : Type} [DecidableEq κ] (k : κ) : List (κ × Value) → Nat → Option (Nat × Value)
  | [], _ => none
  | (k', v) :: r, i => if k = k' then some (i, v) else mfind k r (i + 1)
def MEs {κ : Type} (enc : κ → Value) (ents : List (κ × Value)) (es : List MapEntry) : Prop := es.map (fun e => (e.key, e.val)) = ents.map (fun p => (enc p.1, p.2))
theorem MEs.len {κ : Type} {enc : κ → Value} {ents : List (κ × Value)} {es : List MapEntry} (h : MEs enc ents es) : es.length = ents.length := by
  have := congrArg List.length h
  simpa using this
structure KeyOk (P : Program) (kt : TypeId) {κ : Type} [DecidableEq κ] (enc : κ → Value) : Prop where
  check : ∀ b k w, (Instr.checkKey b 10000 kt (enc k)).run P w = .ok () w
  find : ∀ k ents es w, MEs enc ents es → (Instr.findKey kt (enc k) es).run P w = .ok (mfind k ents 0) w
  bits : ∀ k, Instr.sameBits 10000 (enc k) (enc k) = true
theorem ba_beq (a b : ByteArray) : (a == b) = decide (a = b) := by
  obtain ⟨a⟩ := a
  obtain ⟨b⟩ := b
  show (a == b) = _
  by_cases h : a = b <;> simp [h]
theorem findNow_str (s : ByteArray) : ∀ (es : List MapEntry) (ents : List (ByteArray × Value)) (i : Nat), MEs (fun s => Value.string s) ents es → Instr.findNow .string (.string s) es i = some (mfind s ents i)
  | [], [], i, _ => rfl
  | [], _ :: _, i, h => by simp [MEs] at h
  | _ :: _, [], i, h => by simp [MEs] at h
  | e :: es, p :: ents, i, h => by
    simp only [MEs, List.map_cons, List.cons.injEq, Prod.mk.injEq] at h
    obtain ⟨⟨h1, h2⟩, h3⟩ := h
    have ih := findNow_str s es ents (i + 1) h3
    obtain ⟨k', v⟩ := p
    simp only at h1 h2
    unfold Instr.findNow
    rw [h1]
    by_cases hk : s = k'
    · subst hk; simp [Instr.sameNow, ba_beq, mfind, h2]
    · simp [Instr.sameNow, ba_beq, mfind, hk, ih]
theorem keyStr {P : Program} {kt : TypeId} (hk : P.underlying kt = some .string) : KeyOk P kt (fun s : ByteArray => Value.string s) where
  check b k w := by
    unfold Instr.checkKey
    simp [run_underlying hk]
  find k ents es w h := by
    unfold Instr.findKey
    simp [run_underlying hk, findNow_str k es ents 0 h]
  bits k := by simp [Instr.sameBits, ba_beq]
theorem run_getMap {P : Program} {w : World} {r : Nat} {es : Array MapEntry} {clock : Nat} (hb : w.heap[r]? = some (.map es clock)) : (getObj r).run P w = .ok (.map es clock) w := by simp [getObj, Sem.run, hb]
def putAt (w : World) (r : Nat) (o : Obj) : World := { w with heap := w.heap.setIfInBounds r o }
theorem run_setMap {P : Program} {w : World} {r : Nat} {es : Array MapEntry} {clock : Nat} (o : Obj) (hb : w.heap[r]? = some (.map es clock)) : (setObj r o).run P w = .ok () (putAt w r o) := by simp [setObj, Sem.run, hb, putAt]
theorem putAt_upd (w : World) (r : Nat) (o : Obj) : Upd r w (putAt w r o) := ⟨rfl, rfl, rfl, by simp [putAt], fun k hk hn => by
  simp only [putAt]
  rw [Array.getElem?_setIfInBounds_ne (fun e => hn e.symm)]⟩
theorem putAt_get (w : World) (r : Nat) (o : Obj) (h : r < w.heap.size) : (putAt w r o).heap[r]? = some o := by simp [putAt, h]
def MapAt {κ : Type} (enc : κ → Value) (w : World) (m : Nat) (ents : List (κ × Value)) : Prop := ∃ es clock, w.heap[m]? = some (.map es clock) ∧ MEs enc ents es.toList
theorem MapAt.mod {κ : Type} {enc : κ → Value} {w w' : World} {m : Nat} {ents : List (κ × Value)} {S : Nat → Prop} (h : MapAt enc w m ents) (hm : Mod S w w') (hS : ¬ S m) : MapAt enc w' m ents := by
  obtain ⟨es, clock, h1, h2⟩ := h
  exact ⟨es, clock, by rw [hm.block m (Array.getElem?_eq_some_iff.1 h1).1 hS]; exact h1, h2⟩
theorem MapAt.ext {κ : Type} {enc : κ → Value} {w w' : World} {m : Nat} {ents : List (κ × Value)} (h : MapAt enc w m ents) (hm : Ext w w') : MapAt enc w' m ents := h.mod hm id
theorem MapAt.lt {κ : Type} {enc : κ → Value} {w : World} {m : Nat} {ents : List (κ × Value)} (h : MapAt enc w m ents) : m < w.heap.size := by
  obtain ⟨es, clock, h1, _⟩ := h
  exact (Array.getElem?_eq_some_iff.1 h1).1
def mget {κ : Type} [DecidableEq κ] (k : κ) (ents : List (κ × Value)) : Option Value := (mfind k ents 0).map (·.2)
def mput {κ : Type} [DecidableEq κ] (k : κ) (v : Value) (ents : List (κ × Value)) : List (κ × Value) := match mfind k ents 0 with
  | some (i, _) => ents.modify i fun _ => (k, v)
  | none => ents ++ [(k, v)]
theorem mfind_some {κ : Type} [DecidableEq κ] {k : κ} : ∀ {ents : List (κ × Value)} {i j : Nat} {v : Value}, mfind k ents i = some (j, v) → i ≤ j ∧ ents[j - i]? = some (k, v)
  | [], i, j, v, h => by simp [mfind] at h
  | (k', v') :: r, i, j, v, h => by
    unfold mfind at h
    split at h
    · rename_i hk
      simp only [Option.some.injEq, Prod.mk.injEq] at h
      obtain ⟨rfl, rfl⟩ := h
      subst hk
      exact ⟨Nat.le_refl _, by simp⟩
    · obtain ⟨h1, h2⟩ := mfind_some h
      refine ⟨by omega, ?_⟩
      rw [show j - i = (j - (i + 1)) + 1 by omega, List.getElem?_cons_succ]; exact h2
section
variable {P : Program} {e : Env} {w : World} {K : Value → World → Prop} {d : Option Tmp} {t : TypeId} {pos : String} {af : Array Edge} {g : Option (Nat × Bool)} {κ : Type} [DecidableEq κ] {enc : κ → Value} {kt et mt : TypeId}
theorem OpT.makeMap (h : ∀ w' m, m = w.heap.size → Ext w w' → w'.heap.size = w.heap.size + 1 → MapAt enc w' m ([] : List (κ × Value)) → K (.map (some m)) w') : OpT P e w ⟨d, .makeMap mt none, t, pos, af, g⟩ K := by
  refine OpT.value (w' := w.alloc (.map #[] 0)) (fun ρ hρ => ?_) (h _ _ rfl (Ext.alloc _ _) (by simp) ⟨#[], 0, heap_alloc_new w _, rfl⟩)
  simp [execOp, Instr.makeMap]
theorem OpT.lookup {x y : Operand} {m : Nat} {ents : List (κ × Value)} {k : κ} {z : Value} (ht : P.underlying mt = some (.map kt et)) (hk : KeyOk P kt enc) (hz : ∀ w, (zeroValue et).run P w = .ok z w) (hx : evalO e x = some (.map (some m))) (hy : evalO e y = some (enc k)) (hm : MapAt enc w m ents)
    (h : K ((mget k ents).getD z) w) : OpT P e w ⟨d, .lookup mt x y false, t, pos, af, g⟩ K := by
  obtain ⟨es, clock, h1, h2⟩ := hm
  refine OpT.value (fun ρ hρ => ?_) h
  have hf := hk.find k ents es.toList w h2
  simp only [execOp, hρ x _ hx, hρ y _ hy, Instr.lookup]
  cases hh : mfind k ents 0 with
  | none => simp [run_underlying ht, run_getMap h1, hk.check, hf, hh, hz, mget]
  | some p => simp [run_underlying ht, run_getMap h1, hk.check, hf, hh, mget]
theorem OpT.lookup2 {x y : Operand} {m : Nat} {ents : List (κ × Value)} {k : κ} {z : Value} (ht : P.underlying mt = some (.map kt et)) (hk : KeyOk P kt enc) (hz : ∀ w, (zeroValue et).run P w = .ok z w) (hx : evalO e x = some (.map (some m))) (hy : evalO e y = some (enc k)) (hm : MapAt enc w m ents)
    (h : K (.tuple #[(mget k ents).getD z, .bool (mget k ents).isSome]) w) : OpT P e w ⟨d, .lookup mt x y true, t, pos, af, g⟩ K := by
  obtain ⟨es, clock, h1, h2⟩ := hm
  refine OpT.value (fun ρ hρ => ?_) h
  have hf := hk.find k ents es.toList w h2
  simp only [execOp, hρ x _ hx, hρ y _ hy, Instr.lookup]
  cases hh : mfind k ents 0 with
  | none => simp [run_underlying ht, run_getMap h1, hk.check, hf, hh, hz, mget]
  | some p => simp [run_underlying ht, run_getMap h1, hk.check, hf, hh, mget]
theorem OpT.mapUpdate {x y z : Operand} {m : Nat} {ents : List (κ × Value)} {k : κ} {v : Value} (ht : P.underlying mt = some (.map kt et)) (hk : KeyOk P kt enc) (hx : evalO e x = some (.map (some m))) (hy : evalO e y = some (enc k)) (hz : evalO e z = some v) (hm : MapAt enc w m ents)
    (h : ∀ w', Upd m w w' → MapAt enc w' m (mput k v ents) → K undef w') : OpT P e w ⟨d, .mapUpdate mt x y z, t, pos, af, g⟩ K := by
  obtain ⟨es, clock, h1, h2⟩ := hm
  have hlt := (Array.getElem?_eq_some_iff.1 h1).1
  have hf := hk.find k ents es.toList w h2
  have hl := h2.len
  cases hh : mfind k ents 0 with
  | none =>
    refine OpT.skip (w' := putAt w m (.map (es.push { key := enc k, val := v, born := clock }) (clock + 1))) (fun ρ hρ => ?_) (h _ (putAt_upd _ _ _) ⟨_, _, putAt_get _ _ _ hlt, ?_⟩)
    · simp [execOp, hρ x _ hx, hρ y _ hy, hρ z _ hz, Instr.mapUpdate, run_underlying ht, run_getMap h1, hk.check, hf, hh, run_setMap _ h1]
    · unfold mput; rw [hh]
      simp only [MEs, Array.toList_push, List.map_append, List.map_cons, List.map_nil] at h2 ⊢
      rw [h2]
  | some p =>
    obtain ⟨i, v0⟩ := p
    obtain ⟨_, h3⟩ := mfind_some hh
    rw [Nat.sub_zero] at h3
    have hi : i < es.size := by
      have := (List.getElem?_eq_some_iff.1 h3).1
      rw [← hl] at this; simpa using this
    have hkey : es[i].key = enc k := by
      have h4 := congrArg (fun l => l[i]?) h2
      simp only [List.getElem?_map, h3, Option.map_some] at h4
      rw [Array.getElem?_toList, Array.getElem?_eq_getElem hi] at h4
      simp only [Option.map_some, Option.some.injEq, Prod.mk.injEq] at h4
      exact h4.1
    refine OpT.skip (w' := putAt w m (.map (es.modify i fun e => { e with key := enc k, val := v }) clock)) (fun ρ hρ => ?_) (h _ (putAt_upd _ _ _) ⟨_, _, putAt_get _ _ _ hlt, ?_⟩)
    · simp [execOp, hρ x _ hx, hρ y _ hy, hρ z _ hz, Instr.mapUpdate, run_underlying ht, run_getMap h1, hk.check, hf, hh, run_setMap _ h1, Array.getElem?_eq_getElem hi, hkey, Instr.keyThatStays, hk.bits]
    · unfold mput; rw [hh]
      simp only [MEs, Array.toList_modify] at h2 ⊢
      apply List.ext_getElem?
      intro j
      have h4 := congrArg (fun l => l[j]?) h2
      simp only [List.getElem?_map, List.getElem?_modify, Option.map_map] at h4 ⊢
      by_cases hj : i = j
      · subst hj
        simp only [if_true]
        rw [h3, Array.getElem?_toList, Array.getElem?_eq_getElem hi]
        rfl
      · simp only [if_neg hj]
        simpa using h4
end
end Go.Proofs.Bw

/-
  Slices of one's own that may begin within their block: read, appended to, cut, written.
-/
namespace Go.Proofs.Bw
open Go Go.RowKit
set_option linter.unusedVariables false
set_option linter.unusedSimpArgs false
section
variable {w w' : World} {lo el sz c : Nat} {A : Option Addr} {css : List (List Value)}
theorem frozen_mod {S : Nat → Prop} (hm : Mod S w w') {p : Addr} (hp : p.block < w.heap.size) (hS : ¬ S p.block) : w'.frozen? p = w.frozen? p := by
  unfold World.frozen?; rw [hm.block _ hp hS]
theorem cellS_mod {S : Nat → Prop} (hm : Mod S w w') {p : Addr} (hp : p.block < w.heap.size) (hS : ¬ S p.block) : w'.cell? p = w.cell? p := World.cell?_of_block (hm.block p.block hp hS)
theorem setCells_upd (g : Nat) : ∀ (vs : List Value) (o : Nat) (w : World), Upd g w (w.setCells g o vs)
  | [], _, w => Mod.refl _ w
  | v :: r, o, w => (Upd.setCell w ⟨g, o, none⟩ v).trans (setCells_upd g r (o + 1) _)
theorem setCells_size (g : Nat) : ∀ (vs : List Value) (o : Nat) (w : World), (w.setCells g o vs).heap.size = w.heap.size
  | [], _, _ => rfl
  | v :: r, o, w => by rw [World.setCells, setCells_size g r]; simp [World.setCell]
theorem setCells_ty (g : Nat) {k : Nat} {t : TypeId} : ∀ (vs : List Value) (o : Nat) (w : World), tyAt w k t → tyAt (w.setCells g o vs) k t
  | [], _, _, h => h
  | v :: r, o, w, h => setCells_ty g r (o + 1) _ (h.setCell _ _)
def Room (w : World) (g off n : Nat) : Prop := ∀ j, j < n → (w.cell? ⟨g, off + j, none⟩).isSome = true ∧ w.frozen? ⟨g, off + j, none⟩ = false
theorem Room.set {g off n : Nat} (h : Room w g off n) (g' o : Nat) (vs : List Value) : Room (w.setCells g' o vs) g off n := fun j hj =>
  ⟨World.isSome_setCells g' vs o w _ (h j hj).1, by rw [World.frozen?_setCells]; exact (h j hj).2⟩
def OwnO (w : World) (lo el sz : Nat) (A : Option Addr) (c : Nat) (css : List (List Value)) : Prop :=
  (∀ r ∈ css, r.length = sz) ∧ ((A = none ∧ c = 0 ∧ css = []) ∨ ∃ g off, A = some ⟨g, off, none⟩ ∧ lo ≤ g ∧ g < w.heap.size ∧ tyAt w g el ∧ css.length ≤ c ∧ c ≤ 9223372036854775807 ∧ RowAt w ⟨g, off, none⟩ css.flatten ∧ Room w g off (c * sz))
theorem OwnO.nil (w : World) (lo el sz : Nat) : OwnO w lo el sz none 0 [] := ⟨fun r h => (by cases h), .inl ⟨rfl, rfl, rfl⟩⟩
theorem OwnO.mod {S : Nat → Prop} (h : OwnO w lo el sz A c css) (hm : Mod S w w') (hS : ∀ a, A = some a → ¬ S a.block) : OwnO w' lo el sz A c css := by
  refine ⟨h.1, ?_⟩
  rcases h.2 with h0 | ⟨g, off, rfl, h1, h2, h3, h4, h5, h6, h7⟩
  · exact .inl h0
  · have hg := hS _ rfl
    refine .inr ⟨g, off, rfl, h1, Nat.lt_of_lt_of_le h2 hm.size, h3.mod hm hg, h4, h5, h6.mod hm hg, fun j hj => ?_⟩
    rw [cellS_mod hm (p := ⟨g, off + j, none⟩) h2 hg, frozen_mod hm (p := ⟨g, off + j, none⟩) h2 hg]
    exact h7 j hj
theorem OwnO.ext (h : OwnO w lo el sz A c css) (hm : Ext w w') : OwnO w' lo el sz A c css := h.mod hm fun _ _ h => h
theorem OwnO.block (h : OwnO w lo el sz A c css) {a : Addr} (ha : A = some a) : lo ≤ a.block ∧ a.block < w.heap.size := by
  rcases h.2 with ⟨h0, _⟩ | ⟨g, off, h0, h1, h2, _⟩
  · rw [ha] at h0; cases h0
  · rw [ha] at h0; injection h0 with h0; subst h0; exact ⟨h1, h2⟩
theorem OwnO.ty (h : OwnO w lo el sz A c css) {a : Addr} (ha : A = some a) : tyAt w a.block el := by
  rcases h.2 with ⟨h0, _⟩ | ⟨g, off, h0, h1, h2, h3, _⟩
  · rw [ha] at h0; cases h0
  · rw [ha] at h0; injection h0 with h0; subst h0; exact h3
theorem OwnO.upd {g : Nat} (h : OwnO w lo el sz A c css) (hm : Upd g w w') (hg : g < lo) : OwnO w' lo el sz A c css := h.mod hm fun a ha hs => by
  have := (h.block ha).1
  have h2 : a.block = g := hs
  omega
theorem OwnO.lower {lo' : Nat} (h : OwnO w lo el sz A c css) (hl : lo' ≤ lo) : OwnO w lo' el sz A c css := by
  refine ⟨h.1, ?_⟩
  rcases h.2 with h0 | ⟨g, off, h0, h1, h2, h3⟩
  · exact .inl h0
  · exact .inr ⟨g, off, h0, by omega, h2, h3⟩
theorem OwnO.le (h : OwnO w lo el sz A c css) : css.length ≤ c ∧ c ≤ 9223372036854775807 := by
  rcases h.2 with ⟨_, h1, h2⟩ | ⟨g, off, h0, h1, h2, h3, h4, h5, _⟩
  · subst h1; subst h2; exact ⟨Nat.le_refl _, by omega⟩
  · exact ⟨h4, h5⟩
theorem flat_at {css : List (List Value)} (hl : ∀ r ∈ css, r.length = sz) {i j : Nat} {r : List Value} {u : Value} (hi : css[i]? = some r) (hj : r[j]? = some u) : css.flatten[i * sz + j]? = some u := by
  induction css generalizing i with
  | nil => simp at hi
  | cons a l ih =>
    have ha := hl a List.mem_cons_self
    cases i with
    | zero =>
      simp only [List.getElem?_cons_zero, Option.some.injEq] at hi
      subst hi
      rw [List.flatten_cons, Nat.zero_mul, Nat.zero_add, List.getElem?_append_left (List.getElem?_eq_some_iff.1 hj).1]
      exact hj
    | succ i =>
      rw [List.getElem?_cons_succ] at hi
      have := ih (fun r hr => hl r (List.mem_cons_of_mem _ hr)) hi
      rw [List.flatten_cons, List.getElem?_append_right (by rw [ha, Nat.add_mul]; omega), ha, show (i + 1) * sz + j - sz = i * sz + j by rw [Nat.add_mul]; omega]
      exact this
theorem OwnO.rd (h : OwnO w lo el sz A c css) : Rd w (fun k => lo ≤ k ∧ k < w.heap.size) sz A css := fun i r hi => by
  rcases h.2 with ⟨_, _, h2⟩ | ⟨g, off, h0, h1, h2, h3, h4, h5, h6, h7⟩
  · subst h2; simp at hi
  · refine ⟨⟨g, off, none⟩, h0, ⟨h1, h2⟩, fun j u hu => ?_⟩
    have := h6 (i * sz + j) u (flat_at h.1 hi hu)
    rw [Addr.add_lit] at this ⊢
    rw [Addr.add_lit, Nat.add_assoc]
    exact this
theorem OwnO.of_row {v : Value} (hl : ∀ r ∈ css, r.length = sz) (ho : w.ownsRow lo el sz v css.length css.flatten) : ∃ A' c', v = .slice A' css.length c' ∧ OwnO w lo el sz A' c' css := by
  rcases ho.2 with ⟨h1, h2⟩ | ⟨g, cap, cur, h1, h2, h3, h4, h5, h6, h7⟩
  · have : css = [] := List.eq_nil_of_length_eq_zero h2
    subst this
    exact ⟨none, 0, h1, OwnO.nil _ _ _ _⟩
  · refine ⟨some ⟨g, 0, none⟩, cap, h1, hl, .inr ⟨g, 0, rfl, h2, (Array.getElem?_eq_some_iff.1 h3).1, ⟨cur, _, h3⟩, h4, h5, ?_, fun j hj => ?_⟩⟩
    · exact ho.cells (g := g) (by rw [h1]; rfl)
    · rw [cell_of_row w g _ cur el (0, 0) h3]
      refine ⟨?_, by simp [World.frozen?, h3]⟩
      rw [Nat.zero_add, Array.getElem?_eq_getElem (by omega)]; rfl
theorem row_out {g o o1 : Nat} {vs r : List Value} (h : RowAt w ⟨g, o1, none⟩ r) (hd : o1 + r.length ≤ o ∨ o + vs.length ≤ o1) : RowAt (w.setCells g o vs) ⟨g, o1, none⟩ r := fun j u hu => by
  have hj := (List.getElem?_eq_some_iff.1 hu).1
  rw [World.cell?_setCells_out g vs o w _ (fun _ _ => by rw [Addr.add_lit]; simp only; omega)]
  exact h j u hu
theorem row_in {g o n : Nat} {vs : List Value} (h : Room w g o n) (hn : vs.length ≤ n) : RowAt (w.setCells g o vs) ⟨g, o, none⟩ vs := fun j u hu => by
  obtain ⟨hj, he⟩ := List.getElem?_eq_some_iff.1 hu
  rw [Addr.add_lit, World.cell?_setCells_in g vs o w (fun j hj => (h j (by omega)).1) j hj, he]
theorem Room.drop {g off n k : Nat} (h : Room w g off n) (hk : k ≤ n) : Room w g (off + k) (n - k) := fun j hj => by
  rw [Nat.add_assoc]; exact h (k + j) (by omega)
theorem OwnO.of_rd {g off : Nat} (hl : ∀ r ∈ css, r.length = sz) (h1 : lo ≤ g) (h2 : g < w.heap.size) (h3 : tyAt w g el) (h4 : css.length ≤ c) (h5 : c ≤ 9223372036854775807)
    (h6 : ∀ i r, css[i]? = some r → RowAt w ⟨g, off + i * sz, none⟩ r) (h7 : Room w g off (c * sz)) : OwnO w lo el sz (some ⟨g, off, none⟩) c css := by
  refine ⟨hl, .inr ⟨g, off, rfl, h1, h2, h3, h4, h5, ?_, h7⟩⟩
  have hr : Rd w (fun _ => True) sz (some ⟨g, off, none⟩) css := fun i r hi => ⟨_, rfl, trivial, by rw [Addr.add_lit]; exact h6 i r hi⟩
  exact hr.flat hl rfl
theorem OwnO.rows {g off : Nat} (h : OwnO w lo el sz (some ⟨g, off, none⟩) c css) {i : Nat} {r : List Value} (hi : css[i]? = some r) : RowAt w ⟨g, off + i * sz, none⟩ r := by
  obtain ⟨a, ha, _, h3⟩ := h.rd i r hi
  injection ha with ha
  subst ha
  rwa [Addr.add_lit] at h3
theorem OwnO.parts {A : Option Addr} (h : OwnO w lo el sz A c css) (h0 : css ≠ []) : ∃ g off, A = some ⟨g, off, none⟩ ∧ lo ≤ g ∧ g < w.heap.size ∧ tyAt w g el ∧ Room w g off (c * sz) := by
  rcases h.2 with ⟨_, _, h2⟩ | ⟨g, off, h0, h1, h2, h3, _, _, _, h7⟩
  · exact absurd h2 h0
  · exact ⟨g, off, h0, h1, h2, h3, h7⟩
theorem OwnO.setRow {g off i : Nat} {r : List Value} (h : OwnO w lo el sz (some ⟨g, off, none⟩) c css) (hi : i < css.length) (hr : r.length = sz) : OwnO (w.setCells g (off + i * sz) r) lo el sz (some ⟨g, off, none⟩) c (css.set i r) := by
  obtain ⟨g', off', e, h1, h2, h3, h7⟩ := h.parts (by intro e; subst e; simp at hi)
  injection e with e; injection e with e1 e2; subst e1; subst e2
  have hle := h.le
  have hm : (i + 1) * sz ≤ c * sz := Nat.mul_le_mul_right sz (by omega)
  rw [Nat.add_mul, Nat.one_mul] at hm
  refine OwnO.of_rd (fun q hq => ?_) h1 (by rw [setCells_size]; exact h2) (setCells_ty g r _ w h3) (by rw [List.length_set]; exact hle.1) hle.2 (fun q x hx => ?_) (h7.set _ _ _)
  · rcases List.mem_or_eq_of_mem_set hq with hq | hq
    · exact h.1 q hq
    · rw [hq]; exact hr
  · by_cases hq : i = q
    · subst hq
      rw [List.getElem?_set_self hi] at hx
      cases hx
      exact row_in (h7.drop (k := i * sz) (by omega)) (by omega)
    · rw [List.getElem?_set_ne hq] at hx
      refine row_out (h.rows hx) ?_
      rw [h.1 x (List.mem_of_getElem? hx), hr]
      rcases Nat.lt_or_ge q i with h8 | h8
      · left
        have : (q + 1) * sz ≤ i * sz := Nat.mul_le_mul_right sz h8
        rw [Nat.add_mul, Nat.one_mul] at this; omega
      · right
        have : (i + 1) * sz ≤ q * sz := Nat.mul_le_mul_right sz (by omega)
        rw [Nat.add_mul, Nat.one_mul] at this; omega
theorem OwnO.take (h : OwnO w lo el sz A c css) (n : Nat) : OwnO w lo el sz A c (css.take n) := by
  have hl := h.1
  rcases h.2 with ⟨h0, h1, h2⟩ | ⟨g, off, rfl, h1, h2, h3, h4, h5, h6, h7⟩
  · subst h2; subst h0; subst h1; rw [List.take_nil]; exact OwnO.nil _ _ _ _
  · refine OwnO.of_rd (fun r hr => hl r (List.mem_of_mem_take hr)) h1 h2 h3 (by rw [List.length_take]; omega) h5 (fun i r hi => ?_) h7
    refine h.rows ?_
    rw [List.getElem?_take] at hi
    split at hi
    · exact hi
    · cases hi
theorem OwnO.drop (h : OwnO w lo el sz A c css) (i : Nat) (hi : i ≤ css.length) : OwnO w lo el sz (if c = i then A else A.map (·.add (i * sz))) (c - i) (css.drop i) := by
  have hl := h.1
  rcases h.2 with ⟨h0, h1, h2⟩ | ⟨g, off, rfl, h1, h2, h3, h4, h5, h6, h7⟩
  · subst h2; subst h0; subst h1
    simp only [List.length_nil] at hi
    have : i = 0 := by omega
    subst this
    exact OwnO.nil _ _ _ _
  · by_cases hc : c = i
    · rw [if_pos hc]
      have hd : css.drop i = [] := List.drop_eq_nil_of_le (by omega)
      rw [hd, show c - i = 0 by omega]
      exact OwnO.of_rd (fun r hr => by cases hr) h1 h2 h3 (Nat.le_refl _) (by omega) (fun i r hi => by simp at hi) (fun j hj => by simp at hj)
    · rw [if_neg hc]
      simp only [Option.map_some, Addr.add_lit]
      refine OwnO.of_rd (fun r hr => hl r (List.mem_of_mem_drop hr)) h1 h2 h3 (by rw [List.length_drop]; omega) (by omega) (fun q r hq => ?_) ?_
      · rw [List.getElem?_drop] at hq
        have := h.rows hq
        rw [Nat.add_mul, ← Nat.add_assoc] at this
        exact this
      · have := h7.drop (k := i * sz) (Nat.mul_le_mul_right sz (by omega))
        rw [← Nat.sub_mul] at this
        exact this
variable {P : Program} {e : Env} {K : Value → World → Prop} {d : Option Tmp} {t : TypeId} {pos : String} {af : Array Edge} {g' : Option (Nat × Bool)}
theorem OpT.appendO1 {x y : Operand} {st : TypeId} {bytes b n : Nat} {r : List Value} {css' : List (List Value)} {n' : Nat} (hel : ElOk P el sz bytes) (ht : P.underlying st = some (.slice el))
    (hx : evalO e x = some (.slice A n c)) (hy : evalO e y = some (.slice (some ⟨b, 0, none⟩) 1 1)) (hown : OwnO w lo el sz A c css) (hb : Box w b r) (hn : n = css.length) (hr : r.length = sz) (h1 : r.all Value.oneCell' = true) (hcss : css ++ [r] = css') (hn' : css'.length = n')
    (h63 : css'.length * bytes ≤ 140737488355328 ∧ css'.length ≤ 9223372036854775807) (hlo : lo ≤ w.heap.size)
    (h : ∀ w' A' c', Mod (ownOf A) w w' → OwnO w' lo el sz A' c' css' → (∀ k, ownOf A' k → ownOf A k ∨ w.heap.size ≤ k) → K (.slice A' n' c') w') :
    OpT P e w ⟨d, .call ⟨.builtin .append, #[x, y], #[st, st]⟩, t, pos, af, g'⟩ K := by
  subst hn; subst hcss; subst hn'
  have hs := hb.src (P := P) (sz := sz) (tx := st) (n := 1) (c := 1) ht (by simpa using hr) (fun u hu => List.all_eq_true.1 h1 u hu)
  obtain ⟨i, z, hi, hz, hsz, hby, hzs⟩ := hel.ok
  have hpos := hel.pos
  subst hsz
  have hlen : (css ++ [r]).length = css.length + 1 := by simp
  rw [hlen] at h63
  have hall : ∀ q ∈ css ++ [r], q.length = i.size := fun q hq => (List.mem_append.1 hq).elim (hown.1 q) (fun h => by rw [List.mem_singleton.1 h]; exact hr)
  have hfl : (css ++ [r]).flatten.length = (css.length + 1) * i.size := by rw [flat_len _ hall, hlen]
  have grown : ∀ (old : Nat), old < css.length + 1 → ∃ A' c', (Value.slice (some ⟨w.heap.size, 0, none⟩) (css.length + 1) (grownCap w (css.length + 1) old el)) = .slice A' (css ++ [r]).length c' ∧
      OwnO (w.drew.alloc (.cells ((css.flatten ++ r).toArray ++ Builtin.zeroCells z.cells (grownCap w (css.length + 1) old el - (css.length + 1))) el)) lo el i.size A' c' (css ++ [r]) ∧ A' = some ⟨w.heap.size, 0, none⟩ := by
    intro old ho
    have hge := grownCap_ge w (css.length + 1) old el
    have hcm : grownCap w (css.length + 1) old el ≤ maxLen := grownCap_le_maxLen w (css.length + 1) old el (by simp only [maxLen]; omega)
    have hfr : css.flatten ++ r = (css ++ [r]).flatten := by simp
    have hrow : (w.drew.alloc (.cells ((css.flatten ++ r).toArray ++ Builtin.zeroCells z.cells (grownCap w (css.length + 1) old el - (css.length + 1))) el)).ownsRow lo el i.size (.slice (some ⟨w.heap.size, 0, none⟩) (css.length + 1) (grownCap w (css.length + 1) old el)) (css ++ [r]).length (css ++ [r]).flatten := by
      refine ⟨by rw [hfl, hlen], .inr ⟨w.heap.size, _, _, by rw [hlen], hlo, heap_alloc_new w.drew _, by rw [hlen]; exact hge, hcm, ?_, ?_⟩⟩
      · rw [hfr]
        simp only [Array.size_append, List.size_toArray, size_zeroCells, hzs, hfl, ← Nat.add_mul]
        congr 1
        omega
      · rw [hfr]
        simp only [Array.toList_append]
        rw [hlen, ← hfl]
        exact List.take_left
    obtain ⟨A', c', e1, hO⟩ := OwnO.of_row hall hrow
    refine ⟨A', c', e1, hO, ?_⟩
    injection e1 with e1
    exact e1.symm
  have mg : ∀ (o : Obj), Ext w (w.drew.alloc o) := fun o => ⟨rfl, rfl, rfl, by simp, fun k hk _ => Below.heap_alloc w.drew o k hk⟩
  rcases hown.2 with ⟨h0, h2, h3⟩ | ⟨g, off, h0, g1, g2, g3, g4, g5, g6, g7⟩
  · subst h0; subst h2; subst h3
    have hrun := run_append_grow_src (P := P) w st st t el i z ht hi hz none 0 0 [] (run_firstCells_none w.drew i.size 0 0 0) (.slice (some ⟨b, 0, none⟩) 1 1) 1 r hs (by omega) (by omega) (growslice_fits (by omega) (by rw [hby]; simpa using h63.1))
    obtain ⟨A', c', e1, hO, hA⟩ := grown 0 (by omega)
    refine OpT.value (fun ρ hρ => ?_) (h _ A' c' ((mg _).mono fun _ h => h.elim) hO (fun k ⟨a, ha, hk⟩ => .inr (by rw [hA] at ha; injection ha with ha; subst ha; exact Nat.le_of_eq hk.symm)))
    simp only [List.length_nil, Nat.zero_add, List.flatten_nil] at e1 hrun ⊢
    rw [← e1]
    simp [execOp, resolve, invoke, builtin, hρ x _ hx, hρ y _ hy, hrun]
  · subst h0
    have hml : i.size * css.length = css.length * i.size := Nat.mul_comm _ _
    by_cases hroom : css.length + 1 ≤ c
    · have hm : (css.length + 1) * i.size ≤ c * i.size := Nat.mul_le_mul_right _ hroom
      rw [Nat.add_mul, Nat.one_mul] at hm
      have hrm := (g7.drop (k := css.length * i.size) (by omega))
      have hrun := run_append_room_src (P := P) (w := w) st st t el i ht hi g off css.length c (.slice (some ⟨b, 0, none⟩) 1 1) 1 r hs hroom (fun j hj => (hrm j (by omega)).1) (fun j hj => (hrm j (by omega)).2)
      refine OpT.value (fun ρ hρ => ?_) (h (w.setCells g (off + css.length * i.size) r) (some ⟨g, off, none⟩) c ((setCells_upd g r _ w).mono fun k hk => ⟨_, rfl, hk⟩) ?_ (fun k hk => .inl hk))
      · simp [execOp, resolve, invoke, builtin, hρ x _ hx, hρ y _ hy, hrun]
      · refine OwnO.of_rd hall g1 (by rw [setCells_size]; exact g2) (setCells_ty g r _ w g3) (by rw [hlen]; exact hroom) g5 (fun q x hq => ?_) (g7.set _ _ _)
        rcases Nat.lt_or_ge q css.length with hq' | hq'
        · rw [List.getElem?_append_left hq'] at hq
          refine row_out (hown.rows hq) (.inl ?_)
          rw [hown.1 x (List.mem_of_getElem? hq)]
          have : (q + 1) * i.size ≤ css.length * i.size := Nat.mul_le_mul_right _ hq'
          rw [Nat.add_mul, Nat.one_mul] at this; omega
        · rw [List.getElem?_append_right hq'] at hq
          have hq0 : q = css.length := by
            have := (List.getElem?_eq_some_iff.1 hq).1
            simp at this; omega
          subst hq0
          rw [Nat.sub_self] at hq
          simp only [List.getElem?_cons_zero, Option.some.injEq] at hq
          subst hq
          exact row_in hrm (by omega)
    · have hold := run_firstCells_some (P := P) w.drew i.size css.length ⟨g, off, none⟩ css.length c css.flatten (flat_len _ hown.1) (by intro j u hu; simpa using g6 j u hu)
      have hrun := run_append_grow_src (P := P) w st st t el i z ht hi hz (some ⟨g, off, none⟩) css.length c css.flatten hold (.slice (some ⟨b, 0, none⟩) 1 1) 1 r hs (by omega) (by omega) (growslice_fits (by omega) (by rw [hby]; exact h63.1))
      obtain ⟨A', c', e1, hO, hA⟩ := grown c (by omega)
      refine OpT.value (fun ρ hρ => ?_) (h _ A' c' ((mg _).mono fun _ h => h.elim) hO (fun k ⟨a, ha, hk⟩ => .inr (by rw [hA] at ha; injection ha with ha; subst ha; exact Nat.le_of_eq hk.symm)))
      rw [← e1]
      simp [execOp, resolve, invoke, builtin, hρ x _ hx, hρ y _ hy, hrun]
theorem OpT.sliceO {x : Operand} {lo' hi : Option Operand} {st : TypeId} {n m : Nat} {i j : Int} (hs : P.underlying st = some (.slice el)) (hz : SizeIs P el sz) (hx : evalO e x = some (.slice A n c)) (hl : loOf e lo' = some i) (hh : hiOf e n hi = some j)
    (hO : OwnO w lo el sz A c css) (hil : i.toNat ≤ css.length) (hb : 0 ≤ i ∧ i ≤ j ∧ j ≤ c) (hm : j.toNat - i.toNat = m) (h : ∀ A', (∀ k, ownOf A' k → ownOf A k) → OwnO w lo el sz A' (c - i.toNat) (css.drop i.toNat) → K (.slice A' m (c - i.toNat)) w) : OpT P e w ⟨d, .slice st x lo' hi none, t, pos, af, g'⟩ K := by
  subst hm
  refine OpT.slice hs hz hx hl hh hb (h _ (fun k ⟨a, ha, hk⟩ => ?_) (hO.drop _ hil))
  split at ha
  · exact ⟨a, ha, hk⟩
  · cases A with
    | none => cases ha
    | some p =>
      simp only [Option.map_some, Option.some.injEq] at ha
      exact ⟨p, rfl, by rw [hk, ← ha, block_add]⟩
end
end Go.Proofs.Bw

namespace Go.Proofs.Bw
open Go Go.RowKit
theorem run_equalIn_arr4 {P : Program} (d : Nat) (t el : TypeId) (hu : P.underlying t = some (.array 4 el)) (hs : SizeIs P el 1) (ha : AggIs P el false) (he : P.underlying el = some (.int .i64)) (w : World) (x0 x1 x2 x3 y0 y1 y2 y3 : Int) :
    (Op.equalIn (d + 2) t (.agg #[.int .i64 x0, .int .i64 x1, .int .i64 x2, .int .i64 x3]) (.agg #[.int .i64 y0, .int .i64 y1, .int .i64 y2, .int .i64 y3])).run P w =
      .ok (decide (x0 = y0) && decide (x1 = y1) && decide (x2 = y2) && decide (x3 = y3)) w := by
  have e3 : ∀ (w : World) (x y : Int), (Op.equalIn (d + 1) el (.int .i64 x) (.int .i64 y)).run P w = .ok (x == y) w := fun w x y => run_equalIn_int w d el .i64 .i64 x y he
  rw [Op.equalIn]
  simp only [Sem.run_bind, run_underlying hu, Result.andThen_ok, hs w, Std.Legacy.Range.forIn_eq_forIn_range', Std.Legacy.Range.size]
  by_cases h0 : x0 = y0 <;> by_cases h1 : x1 = y1 <;> by_cases h2 : x2 = y2 <;> by_cases h3 : x3 = y3 <;>
      simp [List.range', List.forIn_cons, part, ha w, e3, h0, h1, h2, h3]
theorem run_equalL {P : Program} (d : Nat) (t at_ el : TypeId) {fs : Array Field} {f0 f1 : Field} (hu : P.underlying t = some (.struct fs)) (hfs : fs = #[f0, f1]) (h0 : f0.name ≠ "_" ∧ f0.type = el ∧ f0.offset = 0) (h1 : f1.name ≠ "_" ∧ f1.type = at_ ∧ f1.offset = 1) (hp : P.stoodInHeld t = false)
    (hua : P.underlying at_ = some (.array 4 el)) (hs : SizeIs P el 1) (ha : AggIs P el false) (hag : AggIs P at_ true) (hsa : SizeIs P at_ 4) (he : P.underlying el = some (.int .i64)) (w : World) (a b : L) :
    (Op.equalIn (d + 3) t (.agg a.cells.toArray) (.agg b.cells.toArray)).run P w = .ok (a.same b) w := by
  obtain ⟨a0, a1, a2, a3, a4⟩ := a
  obtain ⟨b0, b1, b2, b3, b4⟩ := b
  subst hfs
  have hf : P.fieldsOf t = #[f0, f1] := by simp [Program.fieldsOf, hu]
  rw [run_equalIn_struct w (d + 2) t _ _ (by rw [hf]; exact hu) hp, hf]
  have e3 : ∀ (w : World) (x y : Int), (Op.equalIn (d + 2) el (.int .i64 x) (.int .i64 y)).run P w = .ok (x == y) w := fun w x y => run_equalIn_int w (d + 1) el .i64 .i64 x y he
  have e4 := run_equalIn_arr4 (P := P) d at_ el hua hs ha he
  simp only [L.cells, L.same, Op.eqFields]
  by_cases h : a0 = b0
  · simp [h0, h1, part, ha w, hag w, hsa w, e3, e4, h]
    by_cases h1 : a1 = b1 <;> by_cases h2 : a2 = b2 <;> by_cases h3 : a3 = b3 <;> by_cases h4 : a4 = b4 <;> simp [h1, h2, h3, h4]
  · simp [h0, part, ha w, e3, h]
end Go.Proofs.Bw
