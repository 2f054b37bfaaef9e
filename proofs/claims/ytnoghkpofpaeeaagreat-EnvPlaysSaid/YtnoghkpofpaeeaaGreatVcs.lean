/-
  The conditions of code are enough.
-/
import Derived.Test.YtnoghkpofpaeeaaGreatDrw
namespace Go.Proofs.Bw
open Go Go.RowKit

section
variable {ds : List Deferred} {r0 : Option Nat} {N : Nat} {ρ : List Nat} {n : Nat} {e : SEnv} {R : List RE} {H : Heap} {w : World} {a : Act} {C : Cx} {o : Oper} {live : List Nat}
/-- A loop: what holds at each round's head of some state s, and a measure of it. -/
theorem wp_loopS {P : Program} {Q : Exit → Act → World → Prop} {σ : Type} {c : Code} (I : σ → Act → World → Prop) (μ : σ → Nat) (s0 : σ) (h0 : I s0 a w)
    (round : ∀ s a w, I s a w → c.wpIn (Wf r0) N P (Exit.then (fun a' w' => ∃ s', I s' a' w' ∧ μ s' < μ s) Q) a w) : (Code.loop c).wpIn (Wf r0) N P Q a w := by
  intro b k cs hro hb hr
  have key : ∀ j s a w, μ s = j → I s a w →
      ∃ e a' w', Q e a' w' ∧ ArrivesIn (Machine.fenced P (Wf r0)) P (lone (b.atR a (.code c :: .inLoop c :: k)) cs w) b k cs e a' w' := by
    intro j
    induction j using Nat.strongRecOn with
    | _ j ih =>
      intro s a w hn hI
      obtain ⟨e, a₁, w₁, hq, harr⟩ := round s a w hI b (.inLoop c :: k) cs hro hb hr
      cases e with
      | normal =>
        obtain ⟨s', hI₁, hlt⟩ := hq
        obtain ⟨e₂, a₂, w₂, hq₂, harr₂⟩ := ih (μ s') (hn ▸ hlt) s' a₁ w₁ rfl hI₁
        exact ⟨e₂, a₂, w₂, hq₂, .of_steps (StepsIn.trans harr (.one (fenced_calm hb hr rfl) stepR_inLoop)) harr₂⟩
      | exit id => exact ⟨_, a₁, w₁, hq, .pass (x := .inLoop c) rfl (fun _ _ => .inl (by simp)) harr⟩
      | goto l => exact ⟨_, a₁, w₁, hq, .pass (x := .inLoop c) rfl (fun _ _ => .inl (by simp)) harr⟩
      | ret => exact ⟨_, a₁, w₁, hq, .pass (x := .inLoop c) rfl (fun _ _ => .inl (by simp)) harr⟩
      | panic ch => exact ⟨_, a₁, w₁, hq, .pass (x := .inLoop c) rfl (fun _ _ => .inl (by simp)) harr⟩
      | outgrown => exact ⟨_, a₁, w₁, hq, .pass (x := .inLoop c) rfl (fun _ _ => .inl (by simp)) harr⟩
  obtain ⟨e, a', w', hq, harr⟩ := key _ s0 a w rfl h0
  exact ⟨e, a', w', hq, .of_steps (.one (fenced_calm hb hr rfl) stepR_loop) harr⟩

theorem nmem_iff {l : List Nat} {t : Nat} : nmem l t = true ↔ t ∈ l := by
  induction l with
  | nil => simp [nmem]
  | cons x r ih =>
    simp only [nmem, List.mem_cons]
    by_cases hx : x = t
    · subst hx; simp
    · rw [beq_ne hx]; simp only [cond_false, ih]; exact ⟨.inr, fun h => h.resolve_left fun e => hx e.symm⟩

/-! code that only computes -/
/-- Only these slots turned. -/
def Keeps (ws : List Nat) (a a' : Act) : Prop := ∀ t, t ∉ ws → a'.tmps[t]? = a.tmps[t]?
theorem pOps_sound (hC : C.Ok) {ops : List Oper} {Q : Exit → Act → World → Prop} {e' : SEnv} (hH : Holds ρ H w) : ∀ (l : List Oper) (R : List RE) (a : Act), AgR ds ρ n e R a →
    (∀ a', AgS ds ρ n e' a' → Keeps (l.filterMap (·.dst)) a a' → Q .normal a' w) → pOps C n live ops e ρ.length H l R = some e' → wpListIn (Wf r0) N C.P ops.toArray Q l a w := by
  intro l
  induction l with
  | nil =>
    intro R a ha hQ h
    simp only [pOps, fO_eq, Option.some.injEq] at h
    subst h
    exact hQ a (ha.close live) fun t _ => rfl
  | cons o r ih =>
    intro R a ha hQ h
    simp only [pOps] at h
    cases hd : dstFree n R o.dst with
    | false => rw [hd] at h; cases h
    | true =>
      rw [hd] at h
      simp only at h
      have keeps : ∀ v a', Keeps (r.filterMap (·.dst)) (a.put o.dst v) a' → Keeps ((o :: r).filterMap (·.dst)) a a' := by
        intro v a' hk t ht
        have hd' : dstOk a.tmps.size o.dst = true := by rw [ha.size]; exact (dstFree_spec hd).1
        have h1 : o.dst ≠ some t := fun e => ht (by simp [e])
        have h2 : t ∉ r.filterMap (·.dst) := fun hm => ht (by
          simp only [List.filterMap_cons]
          split
          · exact hm
          · exact List.mem_cons_of_mem _ hm)
        rw [hk t h2, put_get hd', if_neg h1]
      have good : ∀ {p : List (Nat × Bool)} {s : SV}, condR R p = true → pev C (evR R e p) (evP R e p true o.op) (evP R e p false o.op) H o.op = .ok s → Does C.P a.eval w o (conc ρ s) := by
        intro p s hc hs
        have := pev_good (evT := evP R e p true o.op) (evF := evP R e p false o.op) hC (ha.eval hc) hH (fun c x y hop hcv s hs => by rw [hop] at hs; exact ha.evalP hc hcv hs) (fun c x y hop hcv s hs => by rw [hop] at hs; exact ha.evalP hc hcv hs)
        rw [hs] at this
        exact this.2
      have step : ∀ {p : List (Nat × Bool)} {s : SV}, (∀ x ∈ p, (entB R x.1).isSome = true) → condR R p = true → wf ρ.length s = true → pev C (evR R e p) (evP R e p true o.op) (evP R e p false o.op) H o.op = .ok s →
          pOps C n live ops e ρ.length H r (⟨o.dst, p, s⟩ :: R) = some e' → o.wpIn (Wf r0) N C.P a w (wpListIn (Wf r0) N C.P ops.toArray Q r) Q := by
        intro p s hp hc hw hs hr
        refine Runs1.wpIn (K := fun v w' => v = conc ρ s ∧ w' = w) (Runs1.of_does (good hc hs) ⟨rfl, rfl⟩) ?_
        rintro _ _ ⟨rfl, rfl⟩
        have hst := ha.step hd hp hw
        rw [hc] at hst
        exact ih _ _ hst (fun a' h1 h2 => hQ a' h1 (keeps _ a' h2)) hr
      cases hg : o.guard with
      | none =>
        rw [hg] at h
        simp only at h
        unfold wpListIn
        rw [if_pos (by simp [Region.wanted, hg])]
        split at h
        · rename_i s hs
          cases hw : wf ρ.length s with
          | false => rw [hw] at h; cases h
          | true => rw [hw] at h; exact (step (fun x hx => by cases hx) rfl hw hs h)
        · cases h
      | some jq =>
        obtain ⟨j, q⟩ := jq
        rw [hg] at h
        simp only at h
        obtain ⟨g1, g2⟩ := guardOf_spec (ops := ops) (j := j) (q := q) ha
        split at h
        · rename_i p hgo
          obtain ⟨hp, hy⟩ := g1 p hgo
          split at h
          · rename_i s hs
            cases hw : wf ρ.length s with
            | false => rw [hw] at h; cases h
            | true =>
              rw [hw] at h
              unfold wpListIn
              cases hc : condR R p with
              | true =>
                rw [if_pos (by simp [Region.wanted, hg, hy.2 hc])]
                exact (step hp hc hw hs h)
              | false =>
                have : ¬ yielded ops.toArray a.tmps j = some q := fun hh => by rw [hy.1 hh] at hc; cases hc
                rw [if_neg (by simp [Region.wanted, hg, this])]
                have hst := ha.step hd hp hw
                rw [hc] at hst
                exact ⟨fun f _ => trivial, ih _ _ hst (fun a' h1 h2 => hQ a' h1 (keeps _ a' h2)) h⟩
          · cases h
        · rename_i p hgo
          obtain ⟨hp, hy⟩ := g2 p hgo
          unfold wpListIn
          rw [if_neg (by simp [Region.wanted, hg, hy])]
          have hst := ha.step (s := .v undef) hd hp rfl
          have e1 : (bif condR R p then conc ρ (.v undef) else undef) = undef := by cases condR R p <;> rfl
          rw [e1] at hst
          exact ⟨fun f _ => trivial, ih _ _ hst (fun a' h1 h2 => hQ a' h1 (keeps _ a' h2)) h⟩
        · cases h
theorem mergeS_spec {b : Bool} {x y s : SV} (h : mergeS b x y = some s) : wf ρ.length s = true ∧ conc ρ s = (bif b then conc ρ x else conc ρ y) := by
  unfold mergeS at h
  split at h
  · simp only [Option.some.injEq] at h; subst h
    exact ⟨rfl, by cases b <;> simp [conc, sel]⟩
  · rename_i k p k' q
    cases hk : ikEq k k' with
    | false => rw [hk] at h; cases h
    | true =>
      rw [hk] at h
      have := ikEq_eq hk; subst this
      simp only [cond_true, Option.some.injEq] at h; subst h
      exact ⟨rfl, by cases b <;> simp [conc]⟩
  · cases h
theorem mergeE_spec {b : Bool} {ws : List Nat} {e1 e2 : SEnv} {a' : Act} (hd : a'.defers = ds) (hn : a'.tmps.size = n) (h0 : AgS ds ρ n e a) (hk : Keeps ws a a') (h1 : b = true → AgS ds ρ n e1 a') (h2 : b = false → AgS ds ρ n e2 a')  : ∀ live, AgS ds ρ n (mergeE b ws e e1 e2 live) a' := by
  intro live
  refine ⟨hd, hn, ?_⟩
  induction live with
  | nil => intro t s h; simp [mergeE, lookS] at h
  | cons u l ih =>
    intro t s h
    have cons : ∀ (v : SV), (wf ρ.length v = true ∧ a'.tmps[u]? = some (conc ρ v)) → lookS ((u, v) :: mergeE b ws e e1 e2 l) t = some s → wf ρ.length s = true ∧ a'.tmps[t]? = some (conc ρ s) := by
      intro v hv hh
      simp only [lookS] at hh
      by_cases hut : u = t
      · subst hut; rw [beq_self] at hh; cases hh; exact hv
      · rw [beq_ne hut] at hh; exact ih t s hh
    simp only [mergeE] at h
    cases hm : nmem ws u with
    | true =>
      rw [hm] at h
      simp only at h
      split at h
      · rename_i x y hx hy
        split at h
        · rename_i s' hs'
          refine cons s' ?_ h
          obtain ⟨e3, e4⟩ := mergeS_spec (ρ := ρ) hs'
          refine ⟨e3, ?_⟩
          rw [e4]
          cases hb : b with
          | true => exact ((h1 hb).2.2 u x hx).2
          | false => exact ((h2 hb).2.2 u y hy).2
        · exact ih t s h
      · exact ih t s h
    | false =>
      rw [hm] at h
      simp only at h
      have hnot : u ∉ ws := fun hh => by rw [nmem_iff.2 hh] at hm; cases hm
      split at h
      · rename_i s' hs'
        obtain ⟨e3, e4⟩ := h0.2.2 u s' hs'
        exact cons s' ⟨e3, by rw [hk u hnot]; exact e4⟩ h
      · exact ih t s h

theorem Keeps.trans {ws ws' : List Nat} {a a' a'' : Act} (h : Keeps ws a a') (h' : Keeps ws' a' a'') : Keeps (ws ++ ws') a a'' := fun t ht => by
  rw [h' t (fun hh => ht (List.mem_append_right _ hh)), h t (fun hh => ht (List.mem_append_left _ hh))]
theorem Keeps.more {ws ws' : List Nat} {a a' : Act} (h : Keeps ws a a') (hs : ∀ t, t ∈ ws → t ∈ ws') : Keeps ws' a a' := fun t ht => h t fun hh => ht (hs t hh)
theorem pCode_sound (hC : C.Ok) (hH : Holds ρ H w) : ∀ (c : Code) (e e' : SEnv) (a : Act) (Q : Exit → Act → World → Prop), AgS ds ρ n e a → (∀ a', AgS ds ρ n e' a' → Keeps (writes c) a a' → Q .normal a' w) →
    pCode C n live ρ.length H c e = some e' → c.wpIn (Wf r0) N C.P Q a w := by
  intro c
  induction c with
  | skip => intro e e' a Q ha hQ h; simp only [pCode, Option.some.injEq] at h; subst h; exact wpIn_skip (hQ a ha fun _ _ => rfl)
  | label l => intro e e' a Q ha hQ h; simp only [pCode, Option.some.injEq] at h; subst h; exact wpIn_label (hQ a ha fun _ _ => rfl)
  | seq x y ihx ihy =>
    intro e e' a Q ha hQ h
    simp only [pCode] at h
    cases hx : pCode C n live ρ.length H x e with
    | none => rw [hx] at h; cases h
    | some e1 =>
      rw [hx] at h
      refine wpIn_seq (ihx e e1 a _ ha (fun a1 h1 k1 => ?_) hx)
      exact ihy e1 e' a1 Q h1 (fun a2 h2 k2 => hQ a2 h2 (k1.trans k2)) h
  | region id ops d =>
    intro e e' a Q ha hQ h
    cases d with
    | true => simp [pCode] at h
    | false =>
      simp only [pCode] at h
      refine wpIn_region_list ?_
      have := pOps_sound (r0 := r0) (N := N) (Q := Q) hC hH ops.toList [] a ha.start (fun a' h1 k1 => hQ a' h1 k1) h
      simpa using this
  | cond c x y ihx ihy =>
    intro e e' a Q ha hQ h
    simp only [pCode] at h
    split at h
    · rename_i b hc
      split at h
      · rename_i e1 e2 h1 h2
        simp only [fO_eq, Option.some.injEq] at h
        subst h
        have hcv : a.eval c = .bool b := ((ha.start.eval (p := []) rfl) c _ hc).2
        refine wpIn_cond_split hcv (fun hb => ?_) (fun hb => ?_)
        · refine ihx e e1 a Q ha (fun a' g1 k1 => hQ a' ?_ (k1.more fun t ht => List.mem_append_left _ ht)) h1
          exact mergeE_spec g1.1 g1.2.1 ha (k1.more fun t ht => List.mem_append_left _ ht) (fun _ => g1) (fun hf => by rw [hb] at hf; cases hf) live
        · refine ihy e e2 a Q ha (fun a' g1 k1 => hQ a' ?_ (k1.more fun t ht => List.mem_append_right _ ht)) h2
          exact mergeE_spec g1.1 g1.2.1 ha (k1.more fun t ht => List.mem_append_right _ ht) (fun hf => by rw [hb] at hf; cases hf) (fun _ => g1) live
      · cases h
    · cases h
  | _ => intro e e' a Q ha hQ h; simp [pCode] at h

theorem esub.get {e e' : SEnv} (h : esub e' e) : ∀ t s, lookS e' t = some s → lookS e t = some s := by
  induction e' with
  | nil => intro t s ht; cases ht
  | cons x r ih =>
    obtain ⟨q, v⟩ := x
    intro t s ht
    simp only [lookS] at ht
    by_cases hq : q = t
    · subst hq; rw [beq_self] at ht; cases ht; exact h.1
    · rw [beq_ne hq] at ht; exact ih h.2 t s ht
theorem ewf.get {m : Nat} {e : SEnv} (h : ewf m e = true) : ∀ t s, lookS e t = some s → wf m s = true := by
  induction e with
  | nil => intro t s ht; cases ht
  | cons x r ih =>
    obtain ⟨q, v⟩ := x
    simp only [ewf, Bool.and_eq_true] at h
    intro t s ht
    simp only [lookS] at ht
    by_cases hq : q = t
    · subst hq; rw [beq_self] at ht; cases ht; exact h.1
    · rw [beq_ne hq] at ht; exact ih h.2 t s ht
theorem hwf.get {m : Nat} {H : Heap} (h : hwf m H = true) : ∀ k c, hget H k = some c → k < m ∧ wfs m c = true := by
  induction H with
  | nil => intro t s ht; cases ht
  | cons x r ih =>
    obtain ⟨q, v⟩ := x
    simp only [hwf, Bool.and_eq_true, Nat.blt_eq] at h
    intro t s ht
    simp only [hget] at ht
    by_cases hq : q = t
    · subst hq; rw [beq_self] at ht; cases ht; exact ⟨h.1.1, h.1.2⟩
    · rw [beq_ne hq] at ht; exact ih h.2 t s ht
/-- Newer boxes are forgotten by the slots. -/
theorem AgS.back {l : List Nat} {e' : SEnv} (h : AgS ds (ρ ++ l) n e a) (hs : esub e' e) (hw : ewf ρ.length e' = true) : AgS ds ρ n e' a :=
  ⟨h.1, h.2.1, fun t s ht => by
    have h1 := h.2.2 t s (hs.get t s ht)
    have h2 := ewf.get hw t s ht
    rw [conc_app l s h2] at h1
    exact ⟨h2, h1.2⟩⟩
theorem AgS.sub {e' : SEnv} (h : AgS ds ρ n e a) (hs : esub e' e) : AgS ds ρ n e' a := ⟨h.1, h.2.1, fun t s ht => h.2.2 t s (hs.get t s ht)⟩
theorem Goes.stay {K : KC} {Q : Act → World → Prop} (h : Goes ds ρ n K Q) (ha : AgS ds ρ n e a) (hH : Holds ρ H w) (hk : K e ρ H w) : Q a w :=
  h e [] H a w (by rw [List.append_nil]; exact ha) (by rw [List.append_nil]; exact hH) (by rw [List.append_nil]; exact hk)

/-- What is to be shown of regions that draw their order. -/
def DrwSound (ds : List Deferred) (r0 : Option Nat) (N : Nat) (C : Cx) (n : Nat) (live : List Nat) : Prop := ∀ (ops : List Oper) (K : KC) (Q : Exit → Act → World → Prop) (e : SEnv) (ρ : List Nat) (H : Heap) (a : Act) (w : World) (id : Nat), Goes ds ρ n K (Q .normal) → AgS ds ρ n e a → Holds ρ H w →
  vDrw C n live ops K e ρ H w → (Code.region id ops.toArray true).wpIn (Wf r0) N C.P Q a w
theorem vCode_sound (hC : C.Ok) (hD : DrwSound ds r0 N C n live) {kr : KC} : ∀ (c : Code) (ks : List (Nat × KC)) (k : KC) (Q : Exit → Act → World → Prop) (ρ : List Nat) (e : SEnv) (H : Heap) (w : World) (a : Act), Goes ds ρ n k (Q .normal) →
    (∀ id kc, kfind ks id = some kc → Goes ds ρ n kc (Q (.exit id))) → Goes ds ρ n kr (Q .ret) → AgS ds ρ n e a → Holds ρ H w → vCode C n live kr c ks k e ρ H w → c.wpIn (Wf r0) N C.P Q a w := by
  intro c
  induction c with
  | skip => intro ks k Q ρ e H w a hk hks hr ha hH h; exact wpIn_skip (hk.stay ha hH h)
  | label l => intro ks k Q ρ e H w a hk hks hr ha hH h; exact wpIn_label (hk.stay ha hH h)
  | ret => intro ks k Q ρ e H w a hk hks hr ha hH h; exact wpIn_ret (hr.stay ha hH h)
  | exit id =>
    intro ks k Q ρ e H w a hk hks hr ha hH h
    simp only [vCode] at h
    cases hf : kfind ks id with
    | none => rw [hf] at h; exact h.elim
    | some kc => rw [hf] at h; exact wpIn_exit ((hks id kc hf).stay ha hH h)
  | seq x y ihx ihy =>
    intro ks k Q ρ e H w a hk hks hr ha hH h
    refine wpIn_seq (ihx ks _ _ ρ e H w a ?_ (fun id kc hf => hks id kc hf) hr ha hH h)
    intro e' l H' a' w' h1 h2 h3
    exact ihy ks k Q (ρ ++ l) e' H' w' a' (hk.app l) (fun id kc hf => (hks id kc hf).app l) (hr.app l) h1 h2 h3
  | region id ops d =>
    intro ks k Q ρ e H w a hk hks hr ha hH h
    cases d with
    | true =>
      have := hD ops.toList k Q e ρ H a w id hk ha hH h
      simpa using this
    | false =>
      refine wpIn_region_list ?_
      have := vOps_sound (r0 := r0) (N := N) hC ops.toList [] ρ H a w hk ha.start hH h
      simpa using this
  | cond c x y ihx ihy =>
    intro ks k Q ρ e H w a hk hks hr ha hH h
    unfold vCode at h
    split at h
    · rename_i e' he'
      exact pCode_sound hC hH _ e e' a Q ha (fun a' h1 _ => hk.stay h1 hH h) he'
    · split at h
      · rename_i b hc
        have hcv : a.eval c = .bool b := ((ha.start.eval (p := []) rfl) c _ hc).2
        rcases h with h | ⟨σ, I, G, F, hwf', h1, h2⟩
        · exact wpIn_cond_split hcv (fun hb => ihx ks k Q ρ e H w a hk hks hr ha hH (h.1 hb)) (fun hb => ihy ks k Q ρ e H w a hk hks hr ha hH (h.2 hb))
        · have hk' : Goes ds ρ n (fun e' _ H' w' => ∃ s, esub (I s) e' ∧ hsub (G s) H' ∧ F s w') (Q .normal) := by
            rintro e' l H' a2 w2 k1 k2 ⟨s, k3, k4, k5⟩
            have g1 := k1.back k3 (hwf' s).1
            have g2 := k2.back k4 fun q c hq => (hwf.get (hwf' s).2) q c hq
            exact hk.stay g1 g2 (h2 s w2 g2 k5)
          exact wpIn_cond_split hcv (fun hb => ihx ks _ Q ρ e H w a hk' hks hr ha hH (h1.1 hb)) (fun hb => ihy ks _ Q ρ e H w a hk' hks hr ha hH (h1.2 hb))
      · exact h.elim
  | block id x ih =>
    intro ks k Q ρ e H w a hk hks hr ha hH h
    refine wpIn_block (ih ((id, k) :: ks) k _ ρ e H w a hk ?_ hr ha hH h)
    intro id' kc hf
    simp only [kfind] at hf
    show Goes ds ρ n kc (fun a' w' => Exit.inBlock id Q (.exit id') a' w')
    simp only [Exit.inBlock]
    by_cases hid : id = id'
    · subst hid; rw [beq_self] at hf; cases hf; simp only [if_true]; exact hk
    · rw [beq_ne hid] at hf; simp only [if_neg (fun hh : id' = id => hid hh.symm)]; exact hks id' kc hf
  | loop x ih =>
    intro ks k Q ρ e H w a hk hks hr ha hH h
    obtain ⟨σ, I, G, F, μ, s0, hwf', ⟨h1, h2, h3⟩, h4⟩ := h
    refine wp_loopS (fun s a' w' => AgS ds ρ n (I s) a' ∧ Holds ρ (G s) w' ∧ F s w') μ s0 ⟨ha.sub h1, hH.sub h2, h3⟩ ?_
    rintro s a' w' ⟨g1, g2, g3⟩
    refine ih ks _ _ ρ (I s) (G s) w' a' ?_ (fun id kc hf => hks id kc hf) hr g1 g2 (h4 s w' g2 g3)
    rintro e' l H' a2 w2 k1 k2 ⟨s', k3, k4, k5, k6⟩
    exact ⟨s', ⟨k1.back k4 (hwf' s').1, k2.back k5 fun q c hq => (hwf.get (hwf' s').2) q c hq, k6⟩, k3⟩
  | _ => intro ks k Q ρ e H w a hk hks hr ha hH h; exact h.elim
end
end Go.Proofs.Bw
