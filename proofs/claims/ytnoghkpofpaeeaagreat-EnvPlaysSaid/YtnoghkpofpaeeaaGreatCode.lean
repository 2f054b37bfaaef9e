/-
  Code of a function, by a program: what it leaves to be shown.
-/
import Derived.Test.YtnoghkpofpaeeaaGreatOps2
namespace Go.Proofs.Bw
open Go Go.RowKit

section
variable {ds : List Deferred} {r0 : Option Nat} {N : Nat} {ρ : List Nat} {n : Nat} {e : SEnv} {R : List RE} {H : Heap} {w : World} {a : Act} {C : Cx} {o : Oper} {k : SV → List Nat → Heap → World → Prop}
theorem vDet_sound (hC : C.Ok) {ev : Operand → Option SV} (ht : Tells ρ ev a.eval) (hag : ∀ l, AgT n (opE ρ ev l) a) {x : Value} (h : vDet C o ev ρ w x) : Runs1 C.P a w o (fun v w' => v = x ∧ Ext w w') := by
  unfold vDet at h
  split at h
  · rename_i g args ats ho
    split at h
    · rename_i g' fs cs us hx hus
      cases hm : nmem C.fns g' with
      | false => rw [hm] at h; exact h.at (hag _)
      | true =>
        rw [hm] at h
        obtain ⟨_, h1⟩ := ht g _ hx
        obtain ⟨h2, _⟩ := evL_spec ht hus
        obtain ⟨d, op, t, pos, af, gd⟩ := o
        simp only at ho
        subst ho
        refine Runs1.of_enter (run_callVal (hC.fns.get hm) (show a.eval g = .func (.func g') ⟨concs ρ fs⟩ ⟨concs ρ cs⟩ from h1) h2) ?_
        simp only [cond_true, concs_append] at h
        simpa using h
    · exact h.at (hag _)
  · exact h.at (hag _)
/-- An operation, guarded or not: its slot holds what it yields, or nothing. -/
theorem vOp_sound (hC : C.Ok) {p : List (Nat × Bool)} (ha : AgR ds ρ n e R a) (hH : Holds ρ H w) (h : vOp C o p R e ρ H w k) :
    (condR R p = true → Runs1 C.P a w o (Lands ρ k)) ∧ (condR R p = false → ∃ s, wf ρ.length s = true ∧ k s ρ H w) := by
  unfold vOp at h
  have good : condR R p = true → (pev C (evR R e p) (evP R e p true o.op) (evP R e p false o.op) H o.op).Good C.P ρ a.eval w o := fun hc =>
    pev_good hC (ha.eval hc) hH (fun c x y hop hcv s hs => by rw [hop] at hs; exact ha.evalP hc hcv hs) (fun c x y hop hcv s hs => by rw [hop] at hs; exact ha.evalP hc hcv hs)
  have chk_of : ∀ {b : Bool} {q : Prop}, chk b q → b = true ∧ q := by
    intro b q hh
    cases b with
    | true => exact ⟨rfl, hh⟩
    | false => exact hh.elim
  split at h
  · rename_i s hs
    rw [hs] at good
    obtain ⟨hw, hk⟩ := chk_of h
    refine ⟨fun hc => ?_, fun _ => ⟨s, hw, hk⟩⟩
    exact Runs1.of_does (good hc).2 (Lands.stay hw hH hk)
  · rename_i q s hs
    rw [hs] at good
    obtain ⟨hq, h⟩ := h
    obtain ⟨hw, hk⟩ := chk_of h
    refine ⟨fun hc => ?_, fun _ => ⟨s, hw, hk⟩⟩
    exact Runs1.of_does ((good hc).2 (pathImp_iff R p q hq hc)) (Lands.stay hw hH hk)
  · split at h
    · refine ⟨fun hc => vMove_sound hC (ha.eval hc) (ha.opE hc) hH h, fun hc => by simp [condR] at hc⟩
    · rename_i x r _
      rcases h with ⟨v0, h1, h2⟩ | ⟨h1, h2⟩
      · refine ⟨fun hc => ?_, fun _ => ⟨.v v0, rfl, h2 w (Ext.refl w) hH⟩⟩
        refine (vDet_sound hC (ha.eval hc) (ha.opE hc) (pathImp_iff R _ _ h1 hc)).mono ?_
        rintro _ w' ⟨rfl, hx⟩
        exact Lands.stay rfl (hH.ext hx) (h2 w' hx (hH.ext hx))
      · exact ⟨fun hc => vMove_sound hC (ha.eval hc) (ha.opE hc) hH (h1 hc), fun hc => ⟨.v undef, rfl, h2 hc⟩⟩

theorem endE_look (R : List RE) (e : SEnv) : ∀ (live : List Nat) (t : Nat) (s : SV), lookS (endE R e live) t = some s → (∃ r, firstR R t = some r ∧ r.p = [] ∧ r.sv = s) ∨ (firstR R t = none ∧ lookS e t = some s) := by
  intro live
  induction live with
  | nil => intro t s h; simp [endE, lookS] at h
  | cons u l ih =>
    intro t s h
    have cons : ∀ (v : SV), lookS ((u, v) :: endE R e l) t = some s → (u = t ∧ v = s) ∨ lookS (endE R e l) t = some s := by
      intro v hv
      simp only [lookS] at hv
      by_cases hut : u = t
      · subst hut; rw [beq_self] at hv; cases hv; exact .inl ⟨rfl, rfl⟩
      · rw [beq_ne hut] at hv; exact .inr hv
    simp only [endE] at h
    cases hf : firstR R u with
    | none =>
      rw [hf] at h
      simp only at h
      cases hl : lookS e u with
      | none => rw [hl] at h; exact ih t s h
      | some v =>
        rw [hl] at h
        rcases cons v h with ⟨rfl, rfl⟩ | h
        · exact .inr ⟨hf, hl⟩
        · exact ih t s h
    | some r =>
      rw [hf] at h
      simp only at h
      split at h
      · rename_i hp
        rcases cons r.sv h with ⟨rfl, rfl⟩ | h
        · exact .inl ⟨r, hf, hp, rfl⟩
        · exact ih t s h
      · exact ih t s h
theorem AgR.close (h : AgR ds ρ n e R a) (live : List Nat) : AgS ds ρ n (endE R e live) a := by
  refine ⟨h.defers, h.size, fun t s hs => ?_⟩
  rcases endE_look R e live t s hs with ⟨r, h1, h2, h3⟩ | ⟨h1, h2⟩
  · obtain ⟨h4, h5⟩ := h.loc t r h1
    rw [h2, h3] at h5
    rw [h3] at h4
    exact ⟨h4, h5⟩
  · exact h.base t h1 s h2

/-- What a continuation is good for. -/
def Goes (ds : List Deferred) (ρ : List Nat) (n : Nat) (K : KC) (Q : Act → World → Prop) : Prop := ∀ e' l H' a' w', AgS ds (ρ ++ l) n e' a' → Holds (ρ ++ l) H' w' → K e' (ρ ++ l) H' w' → Q a' w'
theorem Goes.app {K : KC} {Q : Act → World → Prop} (h : Goes ds ρ n K Q) (l : List Nat) : Goes ds (ρ ++ l) n K Q := fun e' l' H' a' w' h1 h2 h3 => by
  rw [List.append_assoc] at h1 h2 h3
  exact h e' (l ++ l') H' a' w' h1 h2 h3
theorem vOps_sound (hC : C.Ok) {live : List Nat} {ops : List Oper} {K : KC} {Q : Exit → Act → World → Prop} : ∀ (l : List Oper) (R : List RE) (ρ : List Nat) (H : Heap) (a : Act) (w : World), Goes ds ρ n K (Q .normal) → AgR ds ρ n e R a → Holds ρ H w →
    vOps C n live ops K l R e ρ H w → wpListIn (Wf r0) N C.P ops.toArray Q l a w := by
  intro l
  induction l with
  | nil =>
    intro R ρ H a w hQ ha hH h
    have := hQ (endE R e live) [] H a w (by rw [List.append_nil]; exact ha.close live) (by rw [List.append_nil]; exact hH) (by rw [List.append_nil]; simp only [vOps_nil, fE_eq] at h; exact h)
    exact this
  | cons o r ih =>
    intro R ρ H a w hQ ha hH h
    rw [vOps_cons] at h
    unfold vStep at h
    cases hd : dstFree n R o.dst with
    | false => rw [hd] at h; exact h.elim
    | true =>
      rw [hd] at h
      simp only at h
      have step : ∀ (p : List (Nat × Bool)), (∀ x ∈ p, (entB R x.1).isSome = true) → condR R p = true →
          Runs1 C.P a w o (Lands ρ fun s ρ' H' w' => vOps C n live ops K r (⟨o.dst, p, s⟩ :: R) e ρ' H' w') → o.wpIn (Wf r0) N C.P a w (wpListIn (Wf r0) N C.P ops.toArray Q r) Q := by
        intro p hp hc h1
        refine Runs1.wpIn h1 ?_
        rintro v w' ⟨s, l, H', rfl, hw, hH', hk⟩
        have hst := (ha.app l).step hd hp hw
        rw [hc] at hst
        exact ih _ _ _ _ _ (hQ.app l) hst hH' hk
      cases hg : o.guard with
      | none =>
        rw [hg] at h
        obtain ⟨h1, _⟩ := vOp_sound hC ha hH h
        unfold wpListIn
        rw [if_pos (by simp [Region.wanted, hg])]
        exact (step [] (fun x hx => by cases hx) rfl (h1 rfl))
      | some jq =>
        obtain ⟨j, q⟩ := jq
        rw [hg] at h
        simp only at h
        obtain ⟨g1, g2⟩ := guardOf_spec (ops := ops) (j := j) (q := q) ha
        split at h
        · rename_i p hgo
          obtain ⟨hp, hy⟩ := g1 p hgo
          obtain ⟨h1, h2⟩ := vOp_sound hC ha hH h
          unfold wpListIn
          cases hc : condR R p with
          | true =>
            rw [if_pos (by simp [Region.wanted, hg, hy.2 hc])]
            exact (step p hp hc (h1 hc))
          | false =>
            have : ¬ yielded ops.toArray a.tmps j = some q := fun hh => by rw [hy.1 hh] at hc; cases hc
            rw [if_neg (by simp [Region.wanted, hg, this])]
            obtain ⟨s, hw, hk⟩ := h2 hc
            have hst := ha.step hd hp hw
            rw [hc] at hst
            exact ⟨fun f _ => trivial, ih _ _ _ _ _ hQ hst hH hk⟩
        · rename_i p hgo
          obtain ⟨hp, hy⟩ := g2 p hgo
          unfold wpListIn
          rw [if_neg (by simp [Region.wanted, hg, hy])]
          have hst := ha.step (s := .v undef) hd hp rfl
          have e1 : (bif condR R p then conc ρ (.v undef) else undef) = undef := by cases condR R p <;> rfl
          rw [e1] at hst
          exact ⟨fun f _ => trivial, ih _ _ _ _ _ hQ hst hH h⟩
        · exact h.elim
end
end Go.Proofs.Bw
