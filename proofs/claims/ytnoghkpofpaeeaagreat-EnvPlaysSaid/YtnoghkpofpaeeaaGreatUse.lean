/-
  A function's contract out of its code's conditions; what is said where they stop.
-/
import Derived.Test.YtnoghkpofpaeeaaGreatDrs
namespace Go.Proofs.Bw
open Go Go.RowKit

section
variable {ds : List Deferred} {r0 : Option Nat} {N : Nat} {ρ : List Nat} {n : Nat} {e : SEnv} {H : Heap} {w : World} {a : Act} {C : Cx}
def argsS : Nat → List SV → SEnv
  | _, [] => []
  | i, v :: r => (i, v) :: argsS (i + 1) r
theorem look_argsS (l : List SV) : ∀ i t s, lookS (argsS i l) t = some s → i ≤ t ∧ l[t - i]? = some s := by
  induction l with
  | nil => intro i t v h; cases h
  | cons u r ih =>
    intro i t v h
    simp only [argsS, lookS] at h
    by_cases hi : i = t
    · subst hi; rw [beq_self] at h; cases h; simp
    · rw [beq_ne hi] at h
      obtain ⟨h1, h2⟩ := ih _ _ _ h
      refine ⟨by omega, ?_⟩
      have : t - i = (t - (i + 1)) + 1 := by omega
      rw [this]; simpa using h2
theorem AgS.eval (h : AgS ds ρ n e a) {t : Nat} {s : SV} (hs : lookS e t = some s) : a.tmps.getD t undef = conc ρ s := by
  simp [Array.getD_eq_getD_getElem?, (h.2.2 t s hs).2]
theorem resS_sound (hC : C.Ok) (ha : AgS ds ρ n e a) (hH : Holds ρ H w) : ∀ {l : List ResultVar} {r : List SV}, resS C e H l = some r →
    (l.mapM (fun
      | .tmp t => pure (a.tmps.getD t undef)
      | .cell c t => do loadVar t (← asAddr (a.tmps.getD c undef)) : ResultVar → Sem Value)).run C.P w = .ok (concs ρ r) w := by
  intro l
  induction l with
  | nil => intro r h; simp only [resS, Option.some.injEq] at h; subst h; simp [concs]
  | cons x l ih =>
    intro r h
    cases x with
    | tmp t =>
      simp only [resS] at h
      split at h
      · rename_i s m hs hm
        simp only [Option.some.injEq] at h; subst h
        have := ha.eval hs
        simp only [List.mapM_cons, Sem.run_bind, Sem.run_pure, Result.andThen_ok, ih hm, concs, this]
      · cases h
    | cell c t =>
      simp only [resS] at h
      split at h
      · rename_i k off td m hs hd hm
        split at h
        · rename_i cs hcs
          split at h
          · rename_i s hp
            simp only [Option.some.injEq] at h; subst h
            have hv := ha.eval hs
            simp only [conc] at hv
            have hag := (hC.tab.get hd).agg
            have hsz := (hC.tab.get hd).size
            have hB := hH.box k cs hcs
            have hl : (loadVar t ⟨adr ρ k, off, none⟩).run C.P w = .ok (conc ρ s) w := by
              unfold pload at hp
              split at hp
              · rename_i hagg
                rw [hagg] at hag
                cases hle : Nat.ble (off + td.size) cs.length with
                | false => rw [hle] at hp; cases hp
                | true =>
                  rw [hle] at hp
                  simp only [cond_true, PR.ok.injEq] at hp
                  subst hp
                  have hle' : off + td.size ≤ cs.length := Nat.le_of_ble_eq_true hle
                  have hr := (hB.rowAt off).take td.size
                  have hlen : ((concs ρ cs).drop off |>.take td.size).length = td.size := by
                    rw [List.length_take, List.length_drop, concs_length]; omega
                  have hrun := run_loadCells_list (P := C.P) w ⟨adr ρ k, off, none⟩ _ hr
                  rw [hlen] at hrun
                  simp [loadVar, hag w, hsz w, hrun, conc, concs_take, concs_drop]
              · rename_i hagg
                rw [hagg] at hag
                cases hg : cs[off]? with
                | none => rw [hg] at hp; cases hp
                | some s' =>
                  rw [hg] at hp
                  have hp : s' = s := by cases s' <;> (simp only [ofO, PR.ok.injEq] at hp; exact hp)
                  subst hp
                  have : w.cell? ⟨adr ρ k, off, none⟩ = some (conc ρ s') := by rw [hB.cell, concs_get, hg]; rfl
                  simp [loadVar, hag w, this]
            have hA : (asAddr (a.tmps.getD c undef)).run C.P w = .ok ⟨adr ρ k, off, none⟩ w := by rw [hv]; simp [asAddr]
            simp only [List.mapM_cons, Sem.run_bind, Sem.run_pure, Result.andThen_ok, hA, hl, ih hm, concs]
          · cases h
        · cases h
      · cases h
theorem vRet_sound (hC : C.Ok) {fn : Func} {K : Value → World → Prop} (ha : AgS ds ρ n e a) (hH : Holds ρ H w) (h : vRet C fn.results.toList K e ρ H w) : ∃ v, (results fn a.tmps).run C.P w = .ok v w ∧ K v w := by
  unfold vRet at h
  split at h
  · rename_i l hl
    refine ⟨_, ?_, h⟩
    have h1 := resS_sound hC ha hH hl
    obtain ⟨rs, hrs⟩ : ∃ rs, fn.results = rs := ⟨_, rfl⟩
    obtain ⟨rl⟩ := rs
    rw [hrs] at h1
    unfold results
    rw [hrs]
    simp only [List.mapM_toArray, map_eq_pure_bind, Sem.run_bind, Sem.run_pure]
    refine (congrArg (fun r : Result (List Value) => (r.andThen fun a w' => Result.ok a.toArray w').andThen fun a w' => Result.ok (if h : a.size = 1 then a[0] else Value.tuple a) w') h1).trans ?_
    simp only [Result.andThen_ok]
    cases l with
    | nil => rfl
    | cons s r =>
      cases r with
      | nil => rfl
      | cons s' r => rfl
  · exact h.elim

theorem Runs.of_vc {f : FuncId} {fn : Func} {c : Code} {K : Value → World → Prop} (hC : C.Ok) (live : List Nat) (vs : List SV) (hf : C.P.funcs[f]? = some fn) (hb : fn.body = some c) (hn : Nat.ble vs.length fn.ntmps = true)
    (hw : wfs ρ.length vs = true) (hH : Holds ρ H w) (h : vCode C fn.ntmps live (vRet C fn.results.toList K) c [] (vRet C fn.results.toList K) (argsS 0 vs) ρ H w) : Runs C.P f ⟨concs ρ vs⟩ w K := by
  have hn' : vs.length ≤ fn.ntmps := Nat.le_of_ble_eq_true hn
  have hgo : ∀ ex, Goes [] ρ fn.ntmps (vRet C fn.results.toList K) (fun a' w' => (ex = Exit.normal ∨ ex = Exit.ret) → a'.defers = [] ∧ ∃ v, (results fn a'.tmps).run C.P w' = .ok v w' ∧ K v w') := by
    intro ex e' l H' a' w' h1 h2 h3 _
    exact ⟨h1.1, vRet_sound hC h1 h2 h3⟩
  have hag : AgS [] ρ fn.ntmps (argsS 0 vs) ⟨(concs ρ vs).toArray ++ Array.replicate (fn.ntmps - (concs ρ vs).toArray.size) undef, []⟩ := by
    refine ⟨rfl, by simp [concs_length]; omega, fun t s hs => ?_⟩
    obtain ⟨_, h2⟩ := look_argsS vs 0 t s hs
    rw [Nat.sub_zero] at h2
    obtain ⟨hlt, _⟩ := List.getElem?_eq_some_iff.1 h2
    refine ⟨wfs_get hw h2, ?_⟩
    rw [Array.getElem?_append_left (by simpa [concs_length] using hlt)]
    simp [concs_get, h2]
  have hwp := vCode_sound (ds := []) (r0 := none) (N := 0) hC (drw_sound hC) c [] _ (fun ex a' w' => (ex = Exit.normal ∨ ex = Exit.ret) ∧ a'.defers = [] ∧ ∃ v, (results fn a'.tmps).run C.P w' = .ok v w' ∧ K v w') ρ _ H w _
    (fun e' l H' a' w' h1 h2 h3 => ⟨.inl rfl, hgo .normal e' l H' a' w' h1 h2 h3 (.inl rfl)⟩) (fun id kc hk => by cases hk) (fun e' l H' a' w' h1 h2 h3 => ⟨.inr rfl, hgo .ret e' l H' a' w' h1 h2 h3 (.inr rfl)⟩) hag hH h
  refine calls_of_wp hf hb (wp_mono (wpIn_wide.1 hwp) ?_)
  rintro x a' w' ⟨hx, hd, v, hr, hK⟩
  cases x with
  | normal => exact ⟨hd, v, hr, v, rfl, hK⟩
  | ret => exact ⟨hd, v, hr, v, rfl, hK⟩
  | _ => simp at hx

/-! ### where conditions stop -/
variable {f : Nat} {args : Array Value} {k : SV → List Nat → Heap → World → Prop}
/-- A call that gives back just this, and only adds to the world. -/
theorem vcS {v : Value} (h : Runs C.P f args w fun u w' => u = v ∧ Ext w w') (hH : Holds ρ H w) (hk : ∀ w', Ext w w' → Holds ρ H w' → k (.v v) ρ H w') : Runs C.P f args w (Lands ρ k) := by
  refine h.mono ?_
  rintro _ w' ⟨rfl, hx⟩
  exact Lands.stay rfl (hH.ext hx) (hk w' hx (hH.ext hx))
/-- A call that only adds to the world. -/
theorem vcE {p : Value → World → Prop} (h : Runs C.P f args w fun u w' => Ext w w' ∧ p u w') (hH : Holds ρ H w) (hk : ∀ v w', Ext w w' → Holds ρ H w' → p v w' → k (.v v) ρ H w') : Runs C.P f args w (Lands ρ k) := by
  refine h.mono ?_
  rintro v w' ⟨hx, hp⟩
  exact Lands.stay (s := .v v) rfl (hH.ext hx) (hk v w' hx (hH.ext hx) hp)
theorem Lands.v {v : Value} (hH : Holds ρ H w) (hk : k (.v v) ρ H w) : Lands ρ k v w := Lands.stay (s := .v v) rfl hH hk
theorem Lands.ret {s : SV} {v : Value} (hv : conc ρ s = v) (hs : wf ρ.length s = true) (hH : Holds ρ H w) (hk : k s ρ H w) : Lands ρ k v w := by subst hv; exact Lands.stay hs hH hk
/-- a guarded one -/
theorem vgS {ev : Operand → Option SV} {p : List (Nat × Bool)} {R : List RE} {o : Oper} {A : Prop} {v : Value} (h : pathImp R p (vDet C o ev ρ w v)) (hk : ∀ w', Ext w w' → Holds ρ H w' → k (.v v) ρ H w') :
    (∃ v, pathImp R p (vDet C o ev ρ w v) ∧ ∀ w', Ext w w' → Holds ρ H w' → k (.v v) ρ H w') ∨ A := .inl ⟨v, h, hk⟩

theorem vLoop_mk {σ : Type} {body : KC → KC} (I : σ → SEnv) (G : σ → Heap) (F : σ → World → Prop) (μ : σ → Nat) (s0 : σ) (hw : ∀ s, ewf ρ.length (I s) = true ∧ hwf ρ.length (G s) = true) (h0 : esub (I s0) e ∧ hsub (G s0) H ∧ F s0 w)
    (round : ∀ s w', Holds ρ (G s) w' → F s w' → body (fun e' _ H' w'' => ∃ s', μ s' < μ s ∧ esub (I s') e' ∧ hsub (G s') H' ∧ F s' w'') (I s) ρ (G s) w') : vLoop body e ρ H w := ⟨σ, I, G, F, μ, s0, hw, h0, round⟩

theorem vsd {R : List RE} {q X : Prop} (h : q) (k : X) : pathImp R [] q ∧ X := ⟨h, k⟩

theorem bytes_nil (s : ByteArray) : s = (⟨#[]⟩ : ByteArray) ↔ s.size = 0 := by
  constructor
  · intro h; subst h; rfl
  · intro h
    cases s with
    | mk d => congr 1; exact Array.eq_empty_of_size_eq_zero h

theorem Holds.one {g : Nat} {cs : List SV} (b : Box w g (concs [g] cs)) (hw : wfs 1 cs = true) : Holds [g] [(0, cs)] w := by
  refine ⟨fun k c hk => ?_, fun i j hi hj hij => ?_, fun i hi => ?_, fun k c hk => ?_⟩
  · simp only [hget] at hk
    by_cases h0 : 0 = k
    · subst h0; simp at hk; subst hk; exact b
    · rw [beq_ne h0] at hk; simp at hk
  · simp at hi hj; omega
  · simp at hi; subst hi; exact b.lt
  · simp only [hget] at hk
    by_cases h0 : 0 = k
    · subst h0; simp at hk; subst hk; exact ⟨by simp, hw⟩
    · rw [beq_ne h0] at hk; simp at hk
theorem vDrw_mk {live : List Nat} {ops : List Oper} {K : KC} (ch : List Nat) (ord : OT) (h : drwB ops ch ord = true) (k : ∀ w', Ext w w' → Holds ρ H w' → vDr C (fun _ => False) 1000000 n live ops (aheadGo [] ops) ch K ord [] [] e ρ H w') : vDrw C n live ops K e ρ H w := ⟨ch, ord, fun _ => False, 1000000, .inl fun _ hk => hk, h, k⟩
/-- where what turns the world writes to S: what reads does so in each world that differs in S alone, and of boxes nothing is known -/
theorem vDrwS_mk {live : List Nat} {ops : List Oper} {K : KC} (S : Nat → Prop) (ch : List Nat) (ord : OT) (h : drwB ops ch ord = true) (k : ∀ w', Ext w w' → Holds ρ H w' → vDr C S 0 n live ops (aheadGo [] ops) ch K ord [] [] e ρ H w') : vDrw C n live ops K e ρ H w := ⟨ch, ord, S, 0, .inr ⟨Nat.zero_le _, fun i hi => absurd hi (Nat.not_lt_zero i)⟩, h, k⟩
/-- where what turns the world writes to new blocks alone: boxes of before stay -/
theorem vDrwN_mk {live : List Nat} {ops : List Oper} {K : KC} (hH : Holds ρ H w) (ch : List Nat) (ord : OT) (h : drwB ops ch ord = true) (k : ∀ w', Ext w w' → w.heap.size ≤ w'.heap.size → Holds ρ H w' → vDr C (fun k => w.heap.size ≤ k) ρ.length n live ops (aheadGo [] ops) ch K ord [] [] e ρ H w') : vDrw C n live ops K e ρ H w :=
  ⟨ch, ord, fun k => w.heap.size ≤ k, ρ.length, .inr ⟨Nat.le_refl _, fun i hi => by have := hH.lt i hi; omega⟩, h, fun w' x hh => k w' x x.size hh⟩
/-- Boxes, one by one. -/
def HoldsL (ρ : List Nat) (w : World) : Heap → Prop
  | [] => True
  | (k, cs) :: r => Box w (adr ρ k) (concs ρ cs) ∧ HoldsL ρ w r
theorem HoldsL.get {H' : Heap} (h : HoldsL ρ w H') : ∀ k cs, hget H' k = some cs → Box w (adr ρ k) (concs ρ cs) := by
  induction H' with
  | nil => intro k cs hk; cases hk
  | cons x r ih =>
    obtain ⟨q, e⟩ := x
    intro k cs hk
    simp only [hget] at hk
    by_cases hq : q = k
    · subst hq; rw [beq_self] at hk; cases hk; exact h.1
    · rw [beq_ne hq] at hk; exact ih h.2 k cs hk
theorem Holds.of_list {w' : World} {H' : Heap} (h : Holds ρ H w) (hx : w.heap.size ≤ w'.heap.size) (hl : HoldsL ρ w' H') (hw : hwf ρ.length H' = true) : Holds ρ H' w' :=
  ⟨hl.get, h.ne, fun i hi => Nat.lt_of_lt_of_le (h.lt i hi) hx, fun k cs hk => hwf.get hw k cs hk⟩
theorem Lands.to {w' : World} {H' : Heap} {s : SV} {v : Value} (hv : conc ρ s = v) (hs : wf ρ.length s = true) (h : Holds ρ H w) (hx : w.heap.size ≤ w'.heap.size) (hl : HoldsL ρ w' H') (hw : hwf ρ.length H' = true) (hk : Holds ρ H' w' → k s ρ H' w') : Lands ρ k v w' :=
  Lands.ret hv hs (h.of_list hx hl hw) (hk (h.of_list hx hl hw))
end
end Go.Proofs.Bw
