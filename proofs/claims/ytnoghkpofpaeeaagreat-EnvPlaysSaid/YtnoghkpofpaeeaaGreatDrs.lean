/-
  Regions that draw their order: what is shown in one order is so in each.
-/
import Derived.Test.YtnoghkpofpaeeaaGreatVcs
namespace Go.Proofs.Bw
open Go Go.RowKit

section
variable {ds : List Deferred} {r0 : Option Nat} {N : Nat} {ρ : List Nat} {n : Nat} {e : SEnv} {R : List RE} {H : Heap} {w : World} {a f : Act} {C : Cx} {P : Program} {o : Oper} {live : List Nat} {ops : List Oper} {Q : Exit → Act → World → Prop}
theorem tmpsOf_mem {l : List Operand} {t : Nat} (h : Operand.tmp t ∈ l) : t ∈ tmpsOf l := by
  induction l with
  | nil => cases h
  | cons x r ih =>
    cases h with
    | head => simp [tmpsOf]
    | tail _ h =>
      cases x <;> simp only [tmpsOf] <;> first | exact ih h | exact List.mem_cons_of_mem _ (ih h)
def SameOn (l : List Nat) (a f : Act) : Prop := ∀ t ∈ l, a.tmps[t]? = f.tmps[t]?
theorem SameOn.eval {l : List Nat} (h : SameOn l a f) (hl : ∀ t ∈ looks o, t ∈ l) : ∀ x ∈ o.op.operands, a.eval x = f.eval x := by
  intro x hx
  cases x with
  | tmp t =>
    have := h t (hl t (tmpsOf_mem (by simpa using hx)))
    simp [Act.eval, Array.getD_eq_getD_getElem?, this]
  | _ => rfl
theorem put_eq {a f : Act} (hn : a.tmps.size = f.tmps.size) {d : Option Nat} {v v' : Value} (h : f.put d v = f.put d v') : a.put d v = a.put d v' := by
  cases d with
  | none => rfl
  | some t =>
    by_cases ht : t < f.tmps.size
    · have h1 : (f.put (some t) v).tmps[t]? = (f.put (some t) v').tmps[t]? := by rw [h]
      simp only [Act.put] at h1
      rw [Array.getElem?_setIfInBounds_self_of_lt ht, Array.getElem?_setIfInBounds_self_of_lt ht] at h1
      cases h1; rfl
    · have : ∀ v, a.tmps.setIfInBounds t v = a.tmps := fun v => Array.setIfInBounds_eq_of_size_le (by omega)
      simp only [Act.put, this]
theorem Runs1.at {K : Value → World → Prop} (h : Runs1 P f w o K) (hn : a.tmps.size = f.tmps.size) (hs : notSel o.op = true) (he : ∀ x ∈ o.op.operands, a.eval x = f.eval x) : Runs1 P a w o K := by
  have hsel : ∀ cs b, o.op ≠ .select cs b := fun cs b hh => by rw [hh] at hs; cases hs
  unfold Runs1 Oper.wp at h ⊢
  rw [execOp_congr o hsel he]
  generalize (execOp f.eval o).run P w = r at h
  have val : ∀ v w', (∃ v', f.put o.dst v = f.put o.dst v' ∧ K v' w') → ∃ v', a.put o.dst v = a.put o.dst v' ∧ K v' w' := fun v w' ⟨v', h1, h2⟩ => ⟨v', put_eq hn h1, h2⟩
  cases r with
  | halt x w' => cases x <;> simp only [Oper.upon] at h ⊢
  | ok nx w' =>
    cases nx with
    | value v => exact val v w' h
    | skip => exact val undef w' h
    | enter g args =>
      simp only [Oper.upon] at h ⊢
      refine Calls.mono h fun e' w'' he' => ?_
      cases e' with
      | returned v => exact val v w'' he'
      | panicked c => exact he'
      | outgrown => obtain ⟨_, _, hh⟩ := he'; exact hh.elim
    | row row args =>
      simp only [Oper.upon] at h ⊢
      exact Rows.mono h fun v w'' hv => val v w'' hv
    | defer d =>
      exfalso
      simp only [Oper.upon] at h
      obtain ⟨v, h1, _⟩ := h
      have h2 : (({ f with defers := d :: f.defers } : Act).put o.dst undef).defers = (f.put o.dst v).defers := by rw [h1]
      cases hd : o.dst <;> simp [Act.put, hd] at h2
    | _ => simp only [Oper.upon] at h

theorem chk_of {b : Bool} {q : Prop} (h : chk b q) : b = true ∧ q := by
  cases b with
  | true => exact ⟨rfl, h⟩
  | false => exact h.elim
variable {S : Nat → Prop} {m : Nat}
theorem KM.app (h : KM S m ρ) (l : List Nat) : KM S m (ρ ++ l) := by
  rcases h with h | h
  · exact .inl h
  · refine .inr ⟨?_, fun i hi => ?_⟩
    · have := h.1
      rw [List.length_append]; omega
    · have := h.1
      rw [adr_app l (by omega)]; exact h.2 i hi
theorem keepN_get : ∀ {H : Heap} {k : Nat} {c : List SV}, hget (keepN m H) k = some c → k < m
  | [], k, c, h => by cases h
  | (q, d) :: r, k, c, h => by
    unfold keepN at h
    cases hq : Nat.blt q m with
    | false => rw [hq] at h; exact keepN_get (H := r) h
    | true =>
      rw [hq] at h
      simp only [cond_true, hget] at h
      by_cases hk : q = k
      · subst hk; simpa using hq
      · rw [beq_ne hk] at h; exact keepN_get (H := r) h
theorem keepN_of : ∀ {H : Heap} {k : Nat} {c : List SV}, hget (keepN m H) k = some c → hget H k = some c
  | [], k, c, h => by cases h
  | (q, d) :: r, k, c, h => by
    have hlt := keepN_get (H := (q, d) :: r) h
    unfold keepN at h
    simp only [hget]
    by_cases hk : q = k
    · subst hk
      rw [show Nat.blt q m = true by simpa using hlt] at h
      simp only [cond_true, hget, beq_self] at h
      rw [beq_self]; exact h
    · rw [beq_ne hk]
      cases hq : Nat.blt q m with
      | false => rw [hq] at h; exact keepN_of h
      | true =>
        rw [hq] at h
        simp only [cond_true, hget, beq_ne hk, cond_false] at h
        exact keepN_of h
theorem holds_keep (hm : KM S m ρ) {w' : World} (hH : Holds ρ H w) (hx : Bw.Mod S w w') : Holds ρ (keepN m H) w' := by
  refine ⟨fun k cs hk => ?_, hH.ne, fun i hi => Nat.lt_of_lt_of_le (hH.lt i hi) hx.size, fun k cs hk => hH.ok k cs (keepN_of hk)⟩
  refine (hH.box k cs (keepN_of hk)).mod hx fun hs => ?_
  rcases hm with h | ⟨_, h⟩
  · exact h _ hs
  · exact h k (keepN_get hk) hs
theorem vStill_sound (hC : C.Ok) (hm : KM S m ρ) {p : List (Nat × Bool)} {k : SV → Prop} (ha : AgR ds ρ n e R f) (hH : Holds ρ H w) (h : vStill C S m o p R e ρ H w k) :
    ∃ s, wf ρ.length s = true ∧ k s ∧ ∀ w', Bw.Mod S w w' → condR R p = true → Runs1 C.P f w' o (fun v w'' => v = conc ρ s ∧ w'' = w') := by
  unfold vStill at h
  have good : ∀ w', Bw.Mod S w w' → condR R p = true → (pev C (evR R e p) (evP R e p true o.op) (evP R e p false o.op) (keepN m H) o.op).Good C.P ρ f.eval w' o := fun w' hx hc =>
    pev_good hC (ha.eval hc) (holds_keep hm hH hx) (fun c x y hop hcv s hs => by rw [hop] at hs; exact ha.evalP hc hcv hs) (fun c x y hop hcv s hs => by rw [hop] at hs; exact ha.evalP hc hcv hs)
  split at h
  · rename_i s hs
    rw [hs] at good
    obtain ⟨hw, hk⟩ := chk_of h
    exact ⟨s, hw, hk, fun w' hx hc => Runs1.of_does (good w' hx hc).2 ⟨rfl, rfl⟩⟩
  · rename_i q s hs
    rw [hs] at good
    obtain ⟨hq, h⟩ := h
    obtain ⟨hw, hk⟩ := chk_of h
    exact ⟨s, hw, hk, fun w' hx hc => Runs1.of_does ((good w' hx hc).2 (pathImp_iff R p q hq hc)) ⟨rfl, rfl⟩⟩
  · obtain ⟨s, hw, h1, h2⟩ := h
    exact ⟨s, hw, h2, fun w' hx hc => (pathImp_iff R p _ (h1 w' hx (holds_keep hm hH hx)) hc).at (ha.opE hc _)⟩

theorem guard_same {j : Nat} {q : Bool} (hg : o.guard = some (j, q)) (hsame : SameOn (namesOf ops o) a f) : yielded ops.toArray a.tmps j = yielded ops.toArray f.tmps j := by
  unfold yielded
  cases ho : ops[j]? with
  | none => simp [ho]
  | some o' =>
    cases hd : o'.dst with
    | none => simp [ho, hd]
    | some d =>
      have : a.tmps[d]? = f.tmps[d]? := hsame d (by simp [namesOf, guardSlot, hg, ho, hd])
      simp [ho, hd, this]
theorem same_eval (hsame : SameOn (namesOf ops o) a f) : ∀ x ∈ o.op.operands, a.eval x = f.eval x := SameOn.eval hsame fun t ht => by simp [namesOf, ht]
theorem wpOp_yes {i : Nat} {K' : Act → World → Prop} (ho : ops[i]? = some o) (hw : Region.wanted o (yielded ops.toArray a.tmps) = true) (h : Runs1 P a w o fun v w' => K' (a.put o.dst v) w') : wpOpIn (Wf r0) N P ops.toArray Q i K' a w := by
  have hoi : ops.toArray[i]? = some o := by simpa using ho
  unfold wpOpIn
  simp only [hoi]
  rw [if_pos hw]
  exact Runs1.wpIn h fun v w' hk => hk
theorem wpOp_no {i : Nat} {K' : Act → World → Prop} (ho : ops[i]? = some o) (hw : Region.wanted o (yielded ops.toArray a.tmps) = false) (h : K' (a.put o.dst undef) w) : wpOpIn (Wf r0) N P ops.toArray Q i K' a w := by
  have hoi : ops.toArray[i]? = some o := by simpa using ho
  unfold wpOpIn
  simp only [hoi]
  rw [if_neg (by rw [hw]; decide)]
  exact ⟨fun f _ => trivial, h⟩
theorem still_exec (hC : C.Ok) (hm : KM S m ρ) {ah ch : List Nat} {K : KC} {i : Nat} {r : OT} {pre : List Nat} (ha : AgR ds ρ n e R f) (hH : Holds ρ H w) (hch : nmem ch i = false) (ho : ops[i]? = some o) (hsel : notSel o.op = true)
    (h : vDr C S m n live ops ah ch K (.one i r) pre R e ρ H w) : dstFree n R o.dst = true ∧ ∃ v R', AgR ds ρ n e R' (f.put o.dst v) ∧ vDr C S m n live ops ah ch K r (i :: pre) R' e ρ H w ∧
      ∀ w', Bw.Mod S w w' → ∀ a, a.tmps.size = n → SameOn (namesOf ops o) a f → ∀ K' : Act → World → Prop, K' (a.put o.dst v) w' → wpOpIn (Wf r0) N C.P ops.toArray Q i K' a w' := by
  rw [vDr_cons] at h
  simp only [vDrStep, ho] at h
  cases hd : dstFree n R o.dst with
  | false => rw [hd] at h; exact h.elim
  | true =>
    rw [hd, hch] at h
    simp only at h
    refine ⟨rfl, ?_⟩
    have run : ∀ {p : List (Nat × Bool)} (s : SV), condR R p = true → Region.wanted o (yielded ops.toArray f.tmps) = true → (∀ w', Bw.Mod S w w' → condR R p = true → Runs1 C.P f w' o (fun v w'' => v = conc ρ s ∧ w'' = w')) →
        ∀ w', Bw.Mod S w w' → ∀ a, a.tmps.size = n → SameOn (namesOf ops o) a f → ∀ K' : Act → World → Prop, K' (a.put o.dst (conc ρ s)) w' → wpOpIn (Wf r0) N C.P ops.toArray Q i K' a w' := by
      intro p s hc hw hr w' hx a hn hsame K' hK
      have hw' : Region.wanted o (yielded ops.toArray a.tmps) = true := by
        rw [← hw]
        unfold Region.wanted
        cases hg : o.guard with
        | none => rfl
        | some jq => obtain ⟨j, q⟩ := jq; simp only [guard_same hg hsame]
      refine wpOp_yes ho hw' (((hr w' hx hc).at (by rw [hn, ha.size]) hsel (same_eval hsame)).mono ?_)
      rintro _ _ ⟨rfl, rfl⟩; exact hK
    have skip : Region.wanted o (yielded ops.toArray f.tmps) = false → ∀ w', Bw.Mod S w w' → ∀ a, a.tmps.size = n → SameOn (namesOf ops o) a f → ∀ K' : Act → World → Prop, K' (a.put o.dst undef) w' → wpOpIn (Wf r0) N C.P ops.toArray Q i K' a w' := by
      intro hw w' hx a hn hsame K' hK
      have hw' : Region.wanted o (yielded ops.toArray a.tmps) = false := by
        rw [← hw]
        unfold Region.wanted
        cases hg : o.guard with
        | none => rfl
        | some jq => obtain ⟨j, q⟩ := jq; simp only [guard_same hg hsame]
      exact wpOp_no ho hw' hK
    cases hg : o.guard with
    | none =>
      rw [hg] at h
      obtain ⟨s, hws, hk, hr⟩ := vStill_sound hC hm ha hH h
      refine ⟨conc ρ s, _, ha.step hd (p := []) (fun x hx => by cases hx) hws, hk, run s rfl (by simp [Region.wanted, hg]) hr⟩
    | some jq =>
      obtain ⟨j, q⟩ := jq
      rw [hg] at h
      simp only at h
      obtain ⟨g1, g2⟩ := guardOf_spec (ops := ops) (j := j) (q := q) ha
      split at h
      · rename_i p hgo
        obtain ⟨hp, hy⟩ := g1 p hgo
        obtain ⟨s, hws, hk, hr⟩ := vStill_sound hC hm ha hH h
        refine ⟨_, _, ha.step hd hp hws, hk, ?_⟩
        cases hc : condR R p with
        | true => exact run s hc (by simp [Region.wanted, hg, hy.2 hc]) hr
        | false =>
          have : ¬ yielded ops.toArray f.tmps j = some q := fun hh => by rw [hy.1 hh] at hc; cases hc
          exact skip (by simp [Region.wanted, hg, this])
      · rename_i p hgo
        obtain ⟨hp, hy⟩ := g2 p hgo
        have hst := ha.step (s := .v undef) hd hp rfl
        have e1 : (bif condR R p then conc ρ (.v undef) else undef) = undef := by cases condR R p <;> rfl
        rw [e1] at hst
        exact ⟨undef, _, hst, h, skip (by simp [Region.wanted, hg, hy])⟩
      · exact h.elim
theorem turn_exec (hC : C.Ok) {ah ch : List Nat} {K : KC} {i : Nat} {r : OT} {pre : List Nat} (ha : AgR ds ρ n e R f) (hH : Holds ρ H w) (hch : nmem ch i = true) (ho : ops[i]? = some o) (hsel : notSel o.op = true)
    (h : vDrStep C S m n ops ah ch i (vDr C S m n live ops ah ch K r) pre R e ρ H w) (hn : a.tmps.size = n) (hsame : SameOn (namesOf ops o) a f) {K' : Act → World → Prop}
    (hK : dstFree n R o.dst = true → ∀ v R' l H' w', AgR ds (ρ ++ l) n e R' (f.put o.dst v) → Holds (ρ ++ l) H' w' → vDr C S m n live ops ah ch K r (i :: pre) R' e (ρ ++ l) H' w' → (allAh ah i pre = false → Bw.Mod S w w') → K' (a.put o.dst v) w') :
    wpOpIn (Wf r0) N C.P ops.toArray Q i K' a w := by
  simp only [vDrStep, ho] at h
  cases hd : dstFree n R o.dst with
  | false => rw [hd] at h; exact h.elim
  | true =>
    rw [hd, hch] at h
    simp only at h
    have hK := hK hd
    have want : ∀ {b : Bool}, Region.wanted o (yielded ops.toArray f.tmps) = b → Region.wanted o (yielded ops.toArray a.tmps) = b := by
      intro b hw
      rw [← hw]
      unfold Region.wanted
      cases hg : o.guard with
      | none => rfl
      | some jq => obtain ⟨j, q⟩ := jq; simp only [guard_same hg hsame]
    have turn : ∀ {p : List (Nat × Bool)}, (∀ x ∈ p, (entB R x.1).isSome = true) → vTurn C S (allAh ah i pre) o p R e ρ H w (fun s ρ' H' w' => vDr C S m n live ops ah ch K r (i :: pre) (⟨o.dst, p, s⟩ :: R) e ρ' H' w') →
        (condR R p = true → Runs1 C.P f w o (fun v w' => K' (a.put o.dst v) w')) ∧ (condR R p = false → K' (a.put o.dst undef) w) := by
      intro p hp ht
      have fin : ∀ s l H' w', condR R p = true → wf (ρ ++ l).length s = true → Holds (ρ ++ l) H' w' → vDr C S m n live ops ah ch K r (i :: pre) (⟨o.dst, p, s⟩ :: R) e (ρ ++ l) H' w' → (allAh ah i pre = false → Bw.Mod S w w') → K' (a.put o.dst (conc (ρ ++ l) s)) w' := by
        intro s l H' w' hc hw hH' hk hx
        have hst := (ha.app l).step hd hp hw
        rw [hc] at hst
        exact hK _ _ l H' w' hst hH' hk hx
      have fin0 : ∀ s, condR R p = false → wf ρ.length s = true → vDr C S m n live ops ah ch K r (i :: pre) (⟨o.dst, p, s⟩ :: R) e ρ H w → K' (a.put o.dst undef) w := by
        intro s hc hw hk
        have hst := ha.step hd hp hw
        rw [hc] at hst
        exact hK _ _ [] H w (by rw [List.append_nil]; exact hst) (by rw [List.append_nil]; exact hH) (by rw [List.append_nil]; exact hk) (fun _ => Mod.refl _ w)
      unfold vTurn at ht
      split at ht
      · rename_i hfree
        obtain ⟨h1, h2⟩ := vOp_sound hC ha hH ht
        refine ⟨fun hc => (h1 hc).mono ?_, fun hc => ?_⟩
        · rintro v w' ⟨s, l, H', rfl, hw, hH', hk⟩
          exact fin s l H' w' hc hw hH' hk (fun hf => by rw [hfree] at hf; cases hf)
        · obtain ⟨s, hw, hk⟩ := h2 hc; exact fin0 s hc hw hk
      · obtain ⟨h1, h2⟩ := vOp_sound hC ha hH ht
        refine ⟨fun hc => (h1 hc).mono ?_, fun hc => ?_⟩
        · rintro v w' ⟨s, l, H', rfl, hw, hH', hx, hk⟩
          exact fin s l H' w' hc hw hH' hk (fun _ => hx)
        · obtain ⟨s, hw, _, hk⟩ := h2 hc; exact fin0 s hc hw hk
    cases hg : o.guard with
    | none =>
      rw [hg] at h
      obtain ⟨t1, _⟩ := turn (p := []) (fun x hx => by cases hx) h
      exact wpOp_yes ho (want (by simp [Region.wanted, hg])) ((t1 rfl).at (by rw [hn, ha.size]) hsel (same_eval hsame))
    | some jq =>
      obtain ⟨j, q⟩ := jq
      rw [hg] at h
      simp only at h
      obtain ⟨g1, g2⟩ := guardOf_spec (ops := ops) (j := j) (q := q) ha
      split at h
      · rename_i p hgo
        obtain ⟨hp, hy⟩ := g1 p hgo
        obtain ⟨t1, t2⟩ := turn hp h
        cases hc : condR R p with
        | true => exact wpOp_yes ho (want (by simp [Region.wanted, hg, hy.2 hc])) ((t1 hc).at (by rw [hn, ha.size]) hsel (same_eval hsame))
        | false =>
          have : ¬ yielded ops.toArray f.tmps j = some q := fun hh => by rw [hy.1 hh] at hc; cases hc
          exact wpOp_no ho (want (by simp [Region.wanted, hg, this])) (t2 hc)
      · rename_i p hgo
        obtain ⟨hp, hy⟩ := g2 p hgo
        have hst := ha.step (s := .v undef) hd hp rfl
        have e1 : (bif condR R p then conc ρ (.v undef) else undef) = undef := by cases condR R p <;> rfl
        rw [e1] at hst
        exact wpOp_no ho (want (by simp [Region.wanted, hg, hy])) (hK _ _ [] H w (by rw [List.append_nil]; exact hst) (by rw [List.append_nil]; exact hH) (by rw [List.append_nil]; exact h) fun _ => Mod.refl _ w)
      · exact h.elim

theorem writer_get (hap : dstsApart ops = true) {i t : Nat} (ho : ops[i]? = some o) (hd : o.dst = some t) : writer ops 0 t = some i := by
  cases hw : writer ops 0 t with
  | none => exact absurd hd (writer_none ops 0 t hw o (List.mem_of_getElem? ho))
  | some j =>
    obtain ⟨_, o', h1, h2⟩ := writer_spec ops 0 t j hw
    rw [Nat.sub_zero] at h1
    rw [dstsApart_spec ops hap j i o' o t h1 ho h2 hd]
def NamesOk (ops : List Oper) (ah : List Nat) (j : Nat) (o : Oper) (a f a0 : Act) : Prop :=
  ∀ t ∈ namesOf ops o, (writer ops 0 t = none → a.tmps[t]? = a0.tmps[t]?) ∧ ∀ i, writer ops 0 t = some i → (ahB ah j i = true → a.tmps[t]? = f.tmps[t]?) ∧ (ahB ah j i = false → a.tmps[t]? = a0.tmps[t]?)
structure St (ds : List Deferred) (r0 : Option Nat) (N : Nat) (C : Cx) (S : Nat → Prop) (m : Nat) (n : Nat) (live : List Nat) (ops : List Oper) (ch : List Nat) (K : KC) (Q : Exit → Act → World → Prop) (e : SEnv) (a0 : Act) (listed : Array Bool) (a : Act) (w : World) (pre : List Nat) (rest : OT) (R : List RE) (ρ : List Nat) (H : Heap) (f : Act) : Prop where
  vc : vDr C S m n live ops (aheadGo [] ops) ch K rest pre R e ρ H w
  ord : ordB ops (aheadGo [] ops) ch rest pre = true
  agr : AgR ds ρ n e R f
  hh : Holds ρ H w
  goes : Goes ds ρ n K (Q .normal)
  defers : a.defers = ds
  size : a.tmps.size = n
  lis : ∀ j : Nat, listed[j]? = some true → j ∈ pre
  chl : ∀ j ∈ pre, nmem ch j = true → listed[j]? = some true
  closedL : Closed ops fun j => listed[j]? = some true
  closedP : Closed ops fun j => j ∈ pre
  cover : ∀ j, j < ops.length → j ∈ pre ∨ rest.mem j = true
  nw : ∀ t, writer ops 0 t = none → a.tmps[t]? = a0.tmps[t]? ∧ f.tmps[t]? = a0.tmps[t]?
  wr : ∀ t j, writer ops 0 t = some j → (listed[j]? = some true → a.tmps[t]? = f.tmps[t]?) ∧ (listed[j]? ≠ some true → a.tmps[t]? = a0.tmps[t]?) ∧ (j ∉ pre → f.tmps[t]? = a0.tmps[t]?)
  pend : ∀ j ∈ pre, listed[j]? ≠ some true → ∃ o v, ops[j]? = some o ∧ namesB ops (aheadGo [] ops) j o = true ∧ dstOk n o.dst = true ∧ (∀ t, o.dst = some t → f.tmps[t]? = some v) ∧
    ∀ w', Bw.Mod S w w' → ∀ a', a'.tmps.size = n → NamesOk ops (aheadGo [] ops) j o a' f a0 → ∀ K' : Act → World → Prop, K' (a'.put o.dst v) w' → wpOpIn (Wf r0) N C.P ops.toArray Q j K' a' w'
theorem opOk_spec {ah pre : List Nat} {i : Nat} (h : opOk ops ah pre i = true) :
    ∃ o, ops[i]? = some o ∧ namesB ops ah i o = true ∧ (∀ x ∈ o.after.toList, Region.binds .any x = true → x.on ∈ pre) ∧ notSel o.op = true ∧ i ∉ pre := by
  simp only [opOk, Bool.and_eq_true] at h
  obtain ⟨h1, h2⟩ := h
  cases ho : ops[i]? with
  | none => rw [ho] at h1; cases h1
  | some o =>
    rw [ho] at h1
    simp only [Bool.and_eq_true] at h1
    refine ⟨o, rfl, h1.1.1, fun x hx hb => ?_, h1.2, fun hm => ?_⟩
    · have := List.all_eq_true.1 h1.1.2 x hx
      rw [hb] at this
      exact nmem_iff.1 (by simpa using this)
    · rw [nmem_iff.2 hm] at h2; cases h2
theorem ord_cons {ah ch : List Nat} {i : Nat} {r : OT} {pre : List Nat} (h : ordB ops ah ch (.one i r) pre = true) :
    ∃ o, ops[i]? = some o ∧ namesB ops ah i o = true ∧ (∀ x ∈ o.after.toList, Region.binds .any x = true → x.on ∈ pre) ∧ notSel o.op = true ∧ i ∉ pre ∧ (nmem ch i = true → r.allT (fun j => ahB ah j i) = true) ∧ ordB ops ah ch r (i :: pre) = true := by
  simp only [ordB, Bool.and_eq_true] at h
  obtain ⟨⟨h1, h3⟩, h4⟩ := h
  obtain ⟨o, q1, q2, q3, q4, q5⟩ := opOk_spec h1
  exact ⟨o, q1, q2, q3, q4, q5, fun hc => by rw [hc] at h3; exact h3, h4⟩
theorem ord_fresh {ah ch : List Nat} (i : Nat) : ∀ (l : OT) (pre : List Nat), ordB ops ah ch l pre = true → l.mem i = true → i ∉ pre := by
  intro l
  induction l with
  | nil => intro pre _ hi; cases hi
  | one k r ih =>
    intro pre h hi
    obtain ⟨_, _, _, _, _, h1, _, h2⟩ := ord_cons h
    simp only [OT.mem, Bool.or_eq_true] at hi
    rcases hi with hi | hi
    · rw [Nat.eq_of_beq_eq_true hi]; exact h1
    · exact fun hm => ih _ h2 hi (List.mem_cons_of_mem _ hm)
  | alt k r j q ih _ =>
    intro pre h hi
    simp only [ordB, Bool.and_eq_true] at h
    obtain ⟨_, _, _, _, _, h1⟩ := opOk_spec h.1.1.1.1
    simp only [OT.mem, Bool.and_eq_true, Bool.or_eq_true] at hi
    rcases hi.1 with hi | hi
    · rw [Nat.eq_of_beq_eq_true hi]; exact h1
    · exact fun hm => ih _ h.1.1.2 hi (List.mem_cons_of_mem _ hm)
theorem allT_mem {p : Nat → Bool} {k : Nat} : ∀ {l : OT}, l.allT p = true → l.mem k = true → p k = true := by
  intro l
  induction l with
  | nil => intro _ h; cases h
  | one i r ih =>
    intro h hm
    simp only [OT.allT, OT.mem, Bool.and_eq_true, Bool.or_eq_true] at h hm
    rcases hm with hm | hm
    · rw [Nat.eq_of_beq_eq_true hm]; exact h.1
    · exact ih h.2 hm
  | alt i r j q ih _ =>
    intro h hm
    simp only [OT.allT, OT.mem, Bool.and_eq_true, Bool.or_eq_true] at h hm
    rcases hm.1 with hm | hm
    · rw [Nat.eq_of_beq_eq_true hm]; exact h.1.1
    · exact ih h.1.2 hm
variable {ch : List Nat} {K : KC} {a0 : Act} {listed : Array Bool} {pre : List Nat} {rest : OT}
theorem ahead_mem {p : Nat → Prop} (hp : Closed ops p) {i j : Nat} (h : ahB (aheadGo [] ops) i j = true) (hi : p i) : p j :=
  aheadGo_spec hp ops [] (fun k => by simp) (fun i j h => by simp at h) i j h hi
theorem closed_add {p : Nat → Prop} (hp : Closed ops p) {i : Nat} (ho : ops[i]? = some o) (hx : ∀ x ∈ o.after.toList, Region.binds .any x = true → p x.on) : Closed ops fun j => p j ∨ j = i := by
  intro k q hk hq x hxm hb
  rcases hk with hk | rfl
  · exact .inl (hp k q hk hq x hxm hb)
  · rw [ho] at hq; cases hq; exact .inl (hx x hxm hb)
theorem names_pair {i j : Nat} {t : Nat} (hn : namesB ops (aheadGo [] ops) i o = true) (ht : t ∈ namesOf ops o) (hw : writer ops 0 t = some j) : i ≠ j ∧ (ahB (aheadGo [] ops) i j = true ∨ ahB (aheadGo [] ops) j i = true) := by
  have := List.all_eq_true.1 hn t ht
  rw [hw] at this
  simp only [Bool.and_eq_true, pairB, Bool.or_eq_true, Bool.not_eq_true'] at this
  refine ⟨fun h => ?_, this.2⟩
  subst h
  rw [beq_self] at this
  exact absurd this.1 (by decide)
/-- What is pending stays so when another one is looked at. -/
theorem pend_put (hap : dstsApart ops = true) {i : Nat} {v : Value} (hio : ops[i]? = some o) (hi : i ∉ pre) (hfd : dstOk f.tmps.size o.dst = true) (hcl : Closed ops fun j => j ∈ pre) {w' : World} (hx : Bw.Mod S w w') {j : Nat} (hj : j ∈ pre)
    (h : ∃ o' v', ops[j]? = some o' ∧ namesB ops (aheadGo [] ops) j o' = true ∧ dstOk n o'.dst = true ∧ (∀ t, o'.dst = some t → f.tmps[t]? = some v') ∧
      ∀ w', Bw.Mod S w w' → ∀ a', a'.tmps.size = n → NamesOk ops (aheadGo [] ops) j o' a' f a0 → ∀ K' : Act → World → Prop, K' (a'.put o'.dst v') w' → wpOpIn (Wf r0) N C.P ops.toArray Q j K' a' w') :
    ∃ o' v', ops[j]? = some o' ∧ namesB ops (aheadGo [] ops) j o' = true ∧ dstOk n o'.dst = true ∧ (∀ t, o'.dst = some t → (f.put o.dst v).tmps[t]? = some v') ∧
      ∀ w'', Bw.Mod S w' w'' → ∀ a', a'.tmps.size = n → NamesOk ops (aheadGo [] ops) j o' a' (f.put o.dst v) a0 → ∀ K' : Act → World → Prop, K' (a'.put o'.dst v') w'' → wpOpIn (Wf r0) N C.P ops.toArray Q j K' a' w'' := by
  obtain ⟨o', v', h1, h2, h3, h4, h5⟩ := h
  refine ⟨o', v', h1, h2, h3, fun t ht => ?_, fun w'' hx' a' hn hno K' hK => h5 w'' (hx.trans hx') a' hn (fun t ht => ⟨(hno t ht).1, fun k hk => ⟨fun ha => ?_, ((hno t ht).2 k hk).2⟩⟩) K' hK⟩
  · rw [put_get hfd, if_neg]
    · exact h4 t ht
    · intro hd
      have := dstsApart_spec ops hap i j o o' t hio h1 hd ht
      subst this; exact hi hj
  · rw [((hno t ht).2 k hk).1 ha, put_get hfd, if_neg]
    intro hd
    have hk' := writer_get hap hio hd
    rw [hk] at hk'
    cases hk'
    exact hi (ahead_mem hcl ha hj)
theorem St.advance (hC : C.Ok) (hm : KM S m ρ) (hap : dstsApart ops = true) : ∀ {rest : OT} {pre : List Nat} {R : List RE} {f : Act}, St ds r0 N C S m n live ops ch K Q e a0 listed a w pre rest R ρ H f →
    ∃ pre' rest' R' f', St ds r0 N C S m n live ops ch K Q e a0 listed a w pre' rest' R' ρ H f' ∧ ∀ i ∈ rest'.heads, nmem ch i = true := by
  intro rest
  induction rest with
  | nil => intro pre R f h; exact ⟨pre, .nil, R, f, h, fun i hh => by cases hh⟩
  | alt i r j q _ _ =>
    intro pre R f h
    refine ⟨pre, .alt i r j q, R, f, h, fun k hk => ?_⟩
    have ho := h.ord
    simp only [ordB, Bool.and_eq_true] at ho
    simp only [OT.heads, List.mem_cons, List.not_mem_nil, or_false] at hk
    rcases hk with rfl | rfl
    · exact ho.1.1.1.2
    · exact ho.1.2.1.2
  | one i r ih =>
    intro pre R f h
    cases hch : nmem ch i with
    | true => exact ⟨pre, .one i r, R, f, h, fun k hk => by simp only [OT.heads, List.mem_singleton] at hk; subst hk; exact hch⟩
    | false =>
      obtain ⟨o, ho, hnm, hed, hsel, hip, _, hord⟩ := ord_cons h.ord
      obtain ⟨hd, v, R', hag, hvc, hex⟩ := still_exec (Q := Q) hC hm h.agr h.hh hch ho hsel h.vc
      have hdo : dstOk n o.dst = true := (dstFree_spec hd).1
      have hfd : dstOk f.tmps.size o.dst = true := by rw [h.agr.size]; exact hdo
      have hcl' : Closed ops fun j => j ∈ i :: pre := fun k q hk hq x hx hb => by
        have := closed_add h.closedP ho hed k q ((List.mem_cons.1 hk).symm.imp id id) hq x hx hb
        exact List.mem_cons.2 this.symm
      refine ih (pre := i :: pre) (R := R') (f := f.put o.dst v) ⟨hvc, hord, hag, h.hh, h.goes, h.defers, h.size, fun j hj => List.mem_cons_of_mem _ (h.lis j hj), fun j hj hc => ?_, h.closedL, hcl', fun j hj => ?_, fun t ht => ?_, fun t j ht => ?_, fun j hj hl => ?_⟩
      · rcases List.mem_cons.1 hj with rfl | hj
        · rw [hch] at hc; cases hc
        · exact h.chl j hj hc
      · rcases h.cover j hj with hj | hj
        · exact .inl (List.mem_cons_of_mem _ hj)
        · simp only [OT.mem, Bool.or_eq_true] at hj
          rcases hj with hj | hj
          · rw [Nat.eq_of_beq_eq_true hj]; exact .inl List.mem_cons_self
          · exact .inr hj
      · refine ⟨(h.nw t ht).1, ?_⟩
        rw [put_get hfd, if_neg (fun hdd => by rw [writer_get hap ho hdd] at ht; cases ht)]
        exact (h.nw t ht).2
      · obtain ⟨w1, w2, w3⟩ := h.wr t j ht
        by_cases hji : j = i
        · subst hji
          have hnl : listed[j]? ≠ some true := fun hl => hip (h.lis j hl)
          exact ⟨fun hl => absurd hl hnl, w2, fun hn => absurd List.mem_cons_self hn⟩
        · have hne : o.dst ≠ some t := fun hdd => by rw [writer_get hap ho hdd] at ht; cases ht; exact hji rfl
          rw [put_get hfd, if_neg hne]
          exact ⟨w1, w2, fun hn => w3 fun hm => hn (List.mem_cons_of_mem _ hm)⟩
      · rcases List.mem_cons.1 hj with rfl | hj
        · refine ⟨o, v, ho, hnm, hdo, fun t ht => by rw [put_get hfd, if_pos ht], fun w' hx a' hn hno K' hK => hex w' hx a' hn (fun t ht => ?_) K' hK⟩
          cases hw : writer ops 0 t with
          | none => rw [(hno t ht).1 hw, (h.nw t hw).2]
          | some k =>
            obtain ⟨hne, hpr⟩ := names_pair hnm ht hw
            cases hah : ahB (aheadGo [] ops) j k with
            | true =>
              rw [((hno t ht).2 k hw).1 hah, put_get hfd, if_neg]
              intro hdd
              have := writer_get hap ho hdd
              rw [hw] at this
              cases this; exact hne rfl
            | false =>
              rw [((hno t ht).2 k hw).2 hah]
              refine ((h.wr t k hw).2.2 fun hk => ?_).symm
              rcases hpr with hpr | hpr
              · rw [hah] at hpr; cases hpr
              · exact hip (ahead_mem h.closedP hpr hk)
        · exact pend_put hap ho hip hfd h.closedP (Mod.refl _ w) hj (h.pend j hj hl)
/-- Who comes next in truth is one of the heads. -/
theorem St.way {i : Nat} (h : St ds r0 N C S m n live ops ch K Q e a0 listed a w pre rest R ρ H f) (hhead : ∀ k ∈ rest.heads, nmem ch k = true) (hil : i < ops.length) (hip : i ∉ pre) (ahl : ∀ {k}, ahB (aheadGo [] ops) i k = true → i ≠ k → listed[k]? = some true) :
    ∃ (r : OT) (o : Oper), ops[i]? = some o ∧ namesB ops (aheadGo [] ops) i o = true ∧ (∀ x ∈ o.after.toList, Region.binds .any x = true → x.on ∈ pre) ∧ notSel o.op = true ∧ nmem ch i = true ∧ ordB ops (aheadGo [] ops) ch r (i :: pre) = true ∧
      vDrStep C S m n ops (aheadGo [] ops) ch i (vDr C S m n live ops (aheadGo [] ops) ch K r) pre R e ρ H w ∧ (∀ j, rest.mem j = true → j = i ∨ r.mem j = true) := by
  have hm : rest.mem i = true := (h.cover i hil).resolve_left hip
  have hvc := h.vc
  have hor := h.ord
  have not : ∀ k, k ∉ pre → ahB (aheadGo [] ops) i k = true → i = k := fun k hk ha => Decidable.byContradiction fun hne => hk (h.lis k (ahl ha hne))
  cases rest with
  | nil => cases hm
  | one k r =>
    obtain ⟨o, q1, q2, q3, q4, q5, q6, q7⟩ := ord_cons hor
    have hk := hhead k (by simp [OT.heads])
    simp only [OT.mem, Bool.or_eq_true] at hm
    have hik : i = k := by
      rcases hm with hm | hm
      · exact Nat.eq_of_beq_eq_true hm
      · exact not k q5 (allT_mem (p := fun j => ahB (aheadGo [] ops) j k) (q6 hk) hm)
    subst hik
    exact ⟨r, o, q1, q2, q3, q4, hk, q7, hvc, fun j hj => by
      simp only [OT.mem, Bool.or_eq_true] at hj
      exact hj.imp Nat.eq_of_beq_eq_true id⟩
  | alt k r j q =>
    simp only [ordB, Bool.and_eq_true] at hor
    obtain ⟨⟨⟨⟨a1, a2⟩, a3⟩, ⟨b1, b2⟩, b3⟩, c1, c2⟩ := hor
    obtain ⟨o, q1, q2, q3, q4, q5⟩ := opOk_spec a1
    obtain ⟨o', p1, p2, p3, p4, p5⟩ := opOk_spec b1
    have hm0 := hm
    simp only [OT.mem, Bool.and_eq_true, Bool.or_eq_true] at hm
    have hij : i = k ∨ i = j := by
      rcases hm.1 with h1 | h1
      · exact .inl (Nat.eq_of_beq_eq_true h1)
      · have := allT_mem c1 h1
        simp only [Bool.or_eq_true] at this
        rcases this with h2 | h2 | h2
        · exact .inr (Nat.eq_of_beq_eq_true h2)
        · exact .inl (not k q5 h2)
        · exact .inr (not j p5 h2)
    rcases hij with rfl | rfl
    · exact ⟨r, o, q1, q2, q3, q4, a2, a3, hvc.1, fun x hx => by
        simp only [OT.mem, Bool.and_eq_true, Bool.or_eq_true] at hx
        exact hx.1.imp Nat.eq_of_beq_eq_true id⟩
    · exact ⟨q, o', p1, p2, p3, p4, b2, b3, hvc.2, fun x hx => by
        simp only [OT.mem, Bool.and_eq_true, Bool.or_eq_true] at hx
        exact hx.2.imp Nat.eq_of_beq_eq_true id⟩
theorem set_get {i j : Nat} (hi : i < listed.size) : (listed.setIfInBounds i true)[j]? = some true ↔ j = i ∨ listed[j]? = some true := by
  by_cases hj : i = j
  · subst hj; simp [hi]
  · rw [Array.getElem?_setIfInBounds_ne hj]
    exact ⟨.inr, fun h => h.resolve_left fun e => hj e.symm⟩
theorem drw_sound (hC : C.Ok) : DrwSound ds r0 N C n live := by
  intro ops K Q e ρ H a0 w id hgoes ha0 hH0 h
  obtain ⟨ch, ord, S, m, hm0, hck, hvc⟩ := h
  simp only [drwB, Bool.and_eq_true] at hck
  obtain ⟨⟨⟨hap, hback⟩, hcov⟩, hord⟩ := hck
  have key : ∀ (fuel : Nat) (listed : Array Bool) (a : Act) (w : World), listed.size = ops.length → listed.toList.count false = fuel →
      (∃ pre rest R ρ' H' f, St ds r0 N C S m n live ops ch K Q e a0 listed a w pre rest R ρ' H' f ∧ KM S m ρ') → wpAnyIn (Wf r0) N C.P .any ops.toArray Q fuel listed a w := by
    intro fuel
    induction fuel with
    | zero =>
      intro listed a w hsz hc hst
      obtain ⟨pre0, rest0, R0, ρ', H', f0, hst0, hm⟩ := hst
      obtain ⟨pre, rest, R, f, hst, _⟩ := hst0.advance hC hm hap
      have hall : ∀ i : Nat, i < ops.length → listed[i]? = some true := fun i hi => all_listed hc i (by omega)
      refine ⟨?_, ?_⟩
      · rw [List.eq_nil_iff_forall_not_mem]
        intro i hi
        obtain ⟨o, ho, hif, _⟩ := (memReady hsz i).1 hi
        obtain ⟨hil, _⟩ := List.getElem?_eq_some_iff.1 ho
        rw [hall i hil] at hif; cases hif
      · have hrest : rest = .nil := by
          have hor := hst.ord
          cases rest with
          | nil => rfl
          | one i r =>
            obtain ⟨o, ho, _, _, _, hip, _⟩ := ord_cons hor
            obtain ⟨hil, _⟩ := List.getElem?_eq_some_iff.1 ho
            exact absurd (hst.lis i (hall i hil)) hip
          | alt i r j q =>
            simp only [ordB, Bool.and_eq_true] at hor
            obtain ⟨o, ho, _, _, _, hip⟩ := opOk_spec hor.1.1.1.1
            obtain ⟨hil, _⟩ := List.getElem?_eq_some_iff.1 ho
            exact absurd (hst.lis i (hall i hil)) hip
        subst hrest
        have hta : ∀ t : Nat, a.tmps[t]? = f.tmps[t]? := by
          intro t
          cases hw : writer ops 0 t with
          | none => rw [(hst.nw t hw).1, (hst.nw t hw).2]
          | some j =>
            obtain ⟨_, o, h1, _⟩ := writer_spec ops 0 t j hw
            rw [Nat.sub_zero] at h1
            obtain ⟨hil, _⟩ := List.getElem?_eq_some_iff.1 h1
            exact (hst.wr t j hw).1 (hall j hil)
        have hagr : AgR ds ρ' n e R a := ⟨hst.defers, hst.size, fun t ht s hs => by rw [hta t]; exact hst.agr.base t ht s hs, fun t r hr => by rw [hta t]; exact hst.agr.loc t r hr, hst.agr.paths⟩
        exact hst.goes.stay (hagr.close live) hst.hh (by have := hst.vc; simp only [vDr_nil, fE_eq] at this; exact this)
    | succ fuel ih =>
      intro listed a w hsz hc hst
      refine ⟨fun hr => absurd hr (ready_some hsz hback (by omega)), fun i hi => ?_⟩
      obtain ⟨o, ho, hif, hready⟩ := (memReady hsz i).1 hi
      obtain ⟨hil, _⟩ := List.getElem?_eq_some_iff.1 ho
      have hils : i < listed.size := by omega
      have hnl : listed[i]? ≠ some true := by rw [hif]; simp
      have hcount : (listed.setIfInBounds i true).toList.count false = fuel := by
        have := count_set listed.toList i (by simpa using hif)
        simp only [Array.toList_setIfInBounds]
        omega
      have hszs : (listed.setIfInBounds i true).size = ops.length := by simpa using hsz
      obtain ⟨pre0, rest0, R0, ρ', H', f0, hst0, hm⟩ := hst
      obtain ⟨pre, rest, R, f, hst, hhead⟩ := hst0.advance hC hm hap
      have hclI : Closed ops fun j => listed[j]? = some true ∨ j = i := closed_add hst.closedL ho hready
      have ahl : ∀ {k}, ahB (aheadGo [] ops) i k = true → i ≠ k → listed[k]? = some true := fun {k} hk hne => (ahead_mem hclI hk (.inr rfl)).resolve_right fun hh => hne hh.symm
      have hnames : namesB ops (aheadGo [] ops) i o = true → NamesOk ops (aheadGo [] ops) i o a f a0 := by
        intro hnm t ht
        refine ⟨fun hw => (hst.nw t hw).1, fun k hw => ?_⟩
        obtain ⟨hne, hpr⟩ := names_pair hnm ht hw
        refine ⟨fun hah => (hst.wr t k hw).1 (ahl hah hne), fun hah => (hst.wr t k hw).2.1 fun hk => ?_⟩
        rcases hpr with hpr | hpr
        · rw [hah] at hpr; cases hpr
        · exact hnl (ahead_mem hst.closedL hpr hk)
      have hclL : Closed ops fun j => (listed.setIfInBounds i true)[j]? = some true := fun k q hk hq x hx hb => by
        exact (set_get hils).2 (hclI k q ((set_get hils).1 hk).symm hq x hx hb).symm
      by_cases hip : i ∈ pre
      · obtain ⟨o', v, ho', hnm, hdo, hfv, hex⟩ := hst.pend i hip hnl
        rw [ho] at ho'; cases ho'
        have had : dstOk a.tmps.size o.dst = true := by rw [hst.size]; exact hdo
        refine hex w (Mod.refl _ w) a hst.size (hnames hnm) _ (ih _ _ _ hszs hcount ⟨pre, rest, R, ρ', H', f, ⟨hst.vc, hst.ord, hst.agr, hst.hh, hst.goes, ?_, ?_, fun j hj => ?_, fun j hj hcj => ?_, hclL, hst.closedP, hst.cover, fun t ht => ?_, fun t j ht => ?_, fun j hj hjl => ?_⟩, hm⟩)
        · cases hdd : o.dst <;> simp [Act.put, hst.defers]
        · cases hdd : o.dst <;> simp [Act.put, hst.size]
        · rcases (set_get hils).1 hj with rfl | hj
          · exact hip
          · exact hst.lis j hj
        · exact (set_get hils).2 (.inr (hst.chl j hj hcj))
        · rw [put_get had, if_neg (fun hdd => by rw [writer_get hap ho hdd] at ht; cases ht)]
          exact hst.nw t ht
        · obtain ⟨w1, w2, w3⟩ := hst.wr t j ht
          by_cases hji : j = i
          · subst hji
            obtain ⟨_, o2, h1, h2⟩ := writer_spec ops 0 t j ht
            rw [Nat.sub_zero, ho] at h1; cases h1
            rw [put_get had, if_pos h2]
            exact ⟨fun _ => (hfv t h2).symm, fun hn => absurd ((set_get hils).2 (.inl rfl)) hn, w3⟩
          · have hne : o.dst ≠ some t := fun hdd => by rw [writer_get hap ho hdd] at ht; cases ht; exact hji rfl
            rw [put_get had, if_neg hne]
            exact ⟨fun hl => w1 (((set_get hils).1 hl).resolve_left hji), fun hl => w2 fun hh => hl ((set_get hils).2 (.inr hh)), w3⟩
        · exact hst.pend j hj fun hh => hjl ((set_get hils).2 (.inr hh))
      · obtain ⟨r, o', ho', hnm, hed, hsel, hch, hord', hvst, hcov'⟩ := hst.way hhead hil hip ahl
        rw [ho] at ho'; cases ho'
        have hsame : SameOn (namesOf ops o) a f := by
          intro t ht
          cases hw : writer ops 0 t with
          | none => rw [(hst.nw t hw).1, (hst.nw t hw).2]
          | some k =>
            obtain ⟨hne, hpr⟩ := names_pair hnm ht hw
            rcases hpr with hpr | hpr
            · exact (hst.wr t k hw).1 (ahl hpr hne)
            · have hkl : listed[k]? ≠ some true := fun hh => hnl (ahead_mem hst.closedL hpr hh)
              have hkp : k ∉ pre := fun hh => hip (ahead_mem hst.closedP hpr hh)
              rw [(hst.wr t k hw).2.1 hkl, (hst.wr t k hw).2.2 hkp]
        refine turn_exec hC hst.agr hst.hh hch ho hsel hvst hst.size hsame ?_
        intro hd v R' l H' w' hagr hH' hvc' hext
        have hdo : dstOk n o.dst = true := (dstFree_spec hd).1
        have had : dstOk a.tmps.size o.dst = true := by rw [hst.size]; exact hdo
        have hfd : dstOk f.tmps.size o.dst = true := by rw [hst.agr.size]; exact hdo
        have hcl' : Closed ops fun j => j ∈ i :: pre := fun k q hk hq x hx hb => by
          have := closed_add hst.closedP ho hed k q ((List.mem_cons.1 hk).symm.imp (fun h => h) (fun h => h)) hq x hx hb
          exact List.mem_cons.2 this.symm
        refine ih _ _ _ hszs hcount ⟨i :: pre, r, R', ρ' ++ l, H', f.put o.dst v, ⟨hvc', hord', hagr, hH', hst.goes.app l, ?_, ?_, fun j hj => ?_, fun j hj hcj => ?_, hclL, hcl', fun j hj => ?_, fun t ht => ?_, fun t j ht => ?_, fun j hj hjl => ?_⟩, hm.app l⟩
        · cases hdd : o.dst <;> simp [Act.put, hst.defers]
        · cases hdd : o.dst <;> simp [Act.put, hst.size]
        · rcases (set_get hils).1 hj with rfl | hj
          · exact List.mem_cons_self
          · exact List.mem_cons_of_mem _ (hst.lis j hj)
        · rcases List.mem_cons.1 hj with rfl | hj
          · exact (set_get hils).2 (.inl rfl)
          · exact (set_get hils).2 (.inr (hst.chl j hj hcj))
        · rcases hst.cover j hj with hj | hj
          · exact .inl (List.mem_cons_of_mem _ hj)
          · rcases hcov' j hj with rfl | hj
            · exact .inl List.mem_cons_self
            · exact .inr hj
        · have hne : o.dst ≠ some t := fun hdd => by rw [writer_get hap ho hdd] at ht; cases ht
          rw [put_get had, put_get hfd, if_neg hne, if_neg hne]
          exact hst.nw t ht
        · obtain ⟨w1, w2, w3⟩ := hst.wr t j ht
          by_cases hji : j = i
          · subst hji
            obtain ⟨_, o2, h1, h2⟩ := writer_spec ops 0 t j ht
            rw [Nat.sub_zero, ho] at h1; cases h1
            rw [put_get had, put_get hfd, if_pos h2, if_pos h2]
            exact ⟨fun _ => rfl, fun hn => absurd ((set_get hils).2 (.inl rfl)) hn, fun hn => absurd List.mem_cons_self hn⟩
          · have hne : o.dst ≠ some t := fun hdd => by rw [writer_get hap ho hdd] at ht; cases ht; exact hji rfl
            rw [put_get had, put_get hfd, if_neg hne, if_neg hne]
            exact ⟨fun hl => w1 (((set_get hils).1 hl).resolve_left hji), fun hl => w2 fun hh => hl ((set_get hils).2 (.inr hh)), fun hn => w3 fun hh => hn (List.mem_cons_of_mem _ hh)⟩
        · have hji : j ≠ i := fun hh => hjl ((set_get hils).2 (.inl hh))
          have hj' : j ∈ pre := (List.mem_cons.1 hj).resolve_left hji
          have hjn : listed[j]? ≠ some true := fun hh => hjl ((set_get hils).2 (.inr hh))
          cases hfree : allAh (aheadGo [] ops) i pre with
          | true =>
            have := List.all_eq_true.1 hfree j hj'
            exact absurd (ahl this (fun hh => hji hh.symm)) hjn
          | false => exact pend_put hap ho hip hfd hst.closedP (hext hfree) hj' (hst.pend j hj' hjn)
  refine wpIn_region_any hC.mixed ?_
  simp only [List.size_toArray]
  have hx0 : Ext w { w with drawn := w.drawn + 1 } := Ext.drawn w _
  refine key ops.length _ a0 _ (by simp) (by simp) ⟨[], ord, [], ρ, H, a0, ⟨hvc _ hx0 (hH0.ext hx0), hord, ha0.start, hH0.ext hx0, hgoes, ha0.1, ha0.2.1, fun j hj => ?_, fun j hj => ?_, fun i o hi => ?_, fun i o hi => ?_, fun j hj => ?_, fun t _ => ⟨rfl, rfl⟩, fun t j _ => ⟨fun _ => rfl, fun _ => rfl, fun _ => rfl⟩, fun j hj => ?_⟩, hm0⟩
  · simp [Array.getElem?_replicate] at hj
  · cases hj
  · simp [Array.getElem?_replicate] at hi
  · cases hi
  · exact .inr (List.all_eq_true.1 hcov j (List.mem_range.2 hj))
  · cases hj
end
end Go.Proofs.Bw
