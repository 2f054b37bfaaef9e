/-
  Functions with a range over a function: what is before it, its rounds, what is behind it.
-/
import Derived.Test.YtnoghkpofpaeeaaGreatEnc
import Derived.RangeFuncWrites
namespace Go.Proofs.Bw
open Go Go.RowKit
set_option linter.unusedSectionVars false
set_option linter.unusedSimpArgs false
set_option linter.unusedVariables false

/-- what is no cells, from B on -/
def NC (B : Nat) (W : World) : Nat → Prop := fun k => B ≤ k ∧ ∃ o : Obj, W.heap[k]? = some o ∧ o.isCells = false
def asgA : Code → Act → Act
  | .seq x y, a => asgA y (asgA x a)
  | .region _ ops _, a => match ops.toList with
    | [⟨some d, .assign (.tmp s), _, _, _, none⟩] => a.put (some d) (a.eval (.tmp s))
    | _ => a
  | _, a => a
def asgOk : Code → Bool
  | .seq x y => asgOk x && asgOk y
  | .region _ ops false => match ops.toList with
    | [⟨some _, .assign (.tmp _), _, _, _, none⟩] => true
    | _ => false
  | .skip => true
  | _ => false
def asgE (n : Nat) : Code → SEnv → Option SEnv
  | .seq x y, e => match asgE n x e with
    | some e' => asgE n y e'
    | none => none
  | .region _ ops _, e => match ops.toList with
    | [⟨some d, .assign (.tmp s), _, _, _, none⟩] => match lookS e s with
      | some v => bif Nat.blt d n then some ((d, v) :: e) else none
      | none => none
    | _ => none
  | .skip, e => some e
  | _, _ => none
def parE (n : Nat) : List Nat → List Value → SEnv → Option SEnv
  | [], [], e => some e
  | p :: ps, v :: vs, e => bif Nat.blt p n then parE n ps vs ((p, .v v) :: e) else none
  | _, _, _ => none
section
variable {r0 : Option Nat} {N : Nat} {ρ : List Nat} {n : Nat} {e : SEnv} {H : Heap} {w : World} {a : Act} {P : Program}
theorem asg_wp : ∀ (c : Code) (K : Act → World → Prop) (Q : Exit → Act → World → Prop) (a : Act), asgOk c = true → K (asgA c a) w → c.wpIn (Wf r0) N P (Exit.then K Q) a w := by
  intro c
  induction c with
  | seq x y ihx ihy =>
    intro K Q a hc hK
    simp only [asgOk, Bool.and_eq_true] at hc
    refine wpIn_seq (wpIn_mono (ihx (fun a' w' => a' = asgA x a ∧ w' = w) (fun _ _ _ => False) a hc.1 ⟨rfl, rfl⟩) ?_)
    intro ex a' w' h
    cases ex with
    | normal => obtain ⟨rfl, rfl⟩ := h; exact ihy _ _ _ hc.2 hK
    | _ => exact h.elim
  | region id ops d =>
    intro K Q a hc hK
    cases d with
    | true => simp [asgOk] at hc
    | false =>
      unfold asgOk at hc
      split at hc
      · rename_i d s t pos af hops
        refine wpIn_region_list ?_
        unfold asgA at hK
        rw [hops] at hK ⊢
        simp only [wpListIn]
        rw [if_pos (by simp [Region.wanted])]
        refine Runs1.wpIn (K := fun v w' => v = a.eval (.tmp s) ∧ w' = w) (Runs1.of_value (v := a.eval (.tmp s)) (by simp [execOp]) ⟨rfl, rfl⟩) ?_
        rintro _ _ ⟨rfl, rfl⟩
        exact hK
      · cases hc
  | skip => intro K Q a hc hK; exact wpIn_skip hK
  | _ => intro K Q a hc hK; simp [asgOk] at hc
theorem AgS.cons {ds : List Deferred} {d : Nat} {s : SV} (h : AgS ds ρ n e a) (hd : d < n) (hs : wf ρ.length s = true) : AgS ds ρ n ((d, s) :: e) (a.put (some d) (conc ρ s)) := by
  refine ⟨h.1, by simp [Act.put, h.2.1], fun t s' ht => ?_⟩
  have hsz := h.2.1
  simp only [lookS] at ht
  by_cases hdt : d = t
  · subst hdt
    rw [beq_self] at ht; cases ht
    exact ⟨hs, by simp [Act.put, hsz, hd]⟩
  · rw [beq_ne hdt] at ht
    obtain ⟨h1, h2⟩ := h.2.2 t s' ht
    refine ⟨h1, ?_⟩
    simp only [Act.put]
    rw [Array.getElem?_setIfInBounds_ne hdt]; exact h2
theorem asgE_sound {ds : List Deferred} : ∀ (c : Code) (e e' : SEnv) (a : Act), AgS ds ρ n e a → asgE n c e = some e' → AgS ds ρ n e' (asgA c a) := by
  intro c
  induction c with
  | seq x y ihx ihy =>
    intro e e' a ha he
    simp only [asgE] at he
    cases hx : asgE n x e with
    | none => rw [hx] at he; cases he
    | some e1 => rw [hx] at he; exact ihy e1 e' _ (ihx e e1 a ha hx) he
  | region id ops d =>
    intro e e' a ha he
    unfold asgE at he
    split at he
    · rename_i d s t pos af hops
      split at he
      · rename_i v hv
        cases hd : Nat.blt d n with
        | false => rw [hd] at he; cases he
        | true =>
          rw [hd] at he
          simp only [cond_true, Option.some.injEq] at he
          subst he
          unfold asgA
          rw [hops]
          show AgS ds ρ n ((d, v) :: e) (a.put (some d) (a.eval (.tmp s)))
          obtain ⟨h1, h2⟩ := ha.2.2 s v hv
          have h3 : a.eval (.tmp s) = conc ρ v := by simp [Act.eval, Array.getD_eq_getD_getElem?, h2]
          rw [h3]
          exact ha.cons (by simpa using hd) h1
      · cases he
    · cases he
  | skip => intro e e' a ha he; simp only [asgE, Option.some.injEq] at he; subst he; exact ha
  | _ => intro e e' a ha he; simp [asgE] at he
theorem parE_sound {ds : List Deferred} : ∀ (ps : List Nat) (vs : List Value) (e e' : SEnv) (a : Act), AgS ds ρ n e a → parE n ps vs e = some e' →
    AgS ds ρ n e' { tmps := (ps.zip vs).foldl (fun t (p, v) => t.setIfInBounds p v) a.tmps, defers := a.defers }
  | [], [], e, e', a, ha, he => by simp only [parE, Option.some.injEq] at he; subst he; exact ha
  | p :: ps, v :: vs, e, e', a, ha, he => by
    simp only [parE] at he
    cases hp : Nat.blt p n with
    | false => rw [hp] at he; cases he
    | true =>
      rw [hp] at he
      have h1 := ha.cons (s := .v v) (show p < n by simpa using hp) rfl
      have h2 := parE_sound ps vs _ e' _ h1 he
      exact h2
  | [], _ :: _, e, e', a, ha, he => by simp [parE] at he
  | _ :: _, [], e, e', a, ha, he => by simp [parE] at he

/-- the end of a function that holds a range: its mark is taken -/
def vRetM (C : Cx) (res : List ResultVar) (K : Value → World → Prop) (D : Nat) : KC := fun e ρ H w => w.heap[D]? = some (.deferred (some [])) ∧ ∀ w', Mod (fun k => k = D) w w' → Holds ρ H w' → vRet C res K e ρ H w'
def vRest (C : Cx) (n : Nat) (live : List Nat) (kr : KC) : List Code → KC → KC
  | [], k => k
  | c :: cs, k => vCode C n live kr c [] (vRest C n live kr cs k)
def vRange (C : Cx) (n : Nat) (live : List Nat) (res : List ResultVar) (K : Value → World → Prop) (g : Operand) (ps : List Nat) (asg body : Code) (cs : List Code) : KC := fun e ρ H w =>
  ∃ (α : Type) (gf : Nat) (caps : List SV) (encs : α → List Value) (S Sp : List α → Prop) (NN : Nat) (w0 : World) (G Gx : List α → Heap) (F Fx : List α → World → Prop),
    (evR [] e [] g = some (.f gf [] caps) ∧ nmem C.fns gf = true ∧ asgOk asg = true ∧ (∀ x, (encs x).length = ps.length)) ∧
    (SeqStopsK (Wf none) 9 C.P gf ⟨concs ρ caps⟩ (fun x => ⟨encs x⟩) (fun _ _ => True) S Sp NN w0 ∧ Below w0.heap.size w0 w) ∧
    (∀ s, hwf ρ.length (G s) = true ∧ hwf ρ.length (Gx s) = true) ∧
    (∀ s W W', (F s W → Mod (NC w.heap.size W) W W' → F s W') ∧ (Fx s W → Mod (NC w.heap.size W) W W' → Fx s W')) ∧
    (hsub (G []) H ∧ F [] w) ∧
    (∀ pre x W, Holds ρ (G pre) W → F pre W → pre.length < NN → match parE n ps (encs x) e with
      | some e0 => match asgE n asg e0 with
        | some e1 => fE e1 fun e1 => fH (G pre) fun H1 => vCode C n live (fun _ _ H' W' => hsub (Gx (pre ++ [x])) H' ∧ Fx (pre ++ [x]) W' ∧ KeepsFrom w.heap.size W W') body [] (fun _ _ H' W' => hsub (G (pre ++ [x])) H' ∧ F (pre ++ [x]) W' ∧ KeepsFrom w.heap.size W W') e1 ρ H1 W
        | none => False
      | none => False) ∧
    (∀ D xs W, w.heap.size ≤ D → S xs → Holds ρ (G xs) W → F xs W → W.heap[D]? = some (.deferred (some [])) → fH (G xs) fun H1 => vRest C n live (vRetM C res K D) cs (vRetM C res K D) e ρ H1 W) ∧
    (∀ D pre W, w.heap.size ≤ D → Sp pre → Holds ρ (Gx pre) W → Fx pre W → W.heap[D]? = some (.deferred (some [])) → fH (Gx pre) fun H1 => vRetM C res K D e ρ H1 W)
def vTop (C : Cx) (n : Nat) (live : List Nat) (res : List ResultVar) (K : Value → World → Prop) : Nat → Code → List Code → KC
  | 0, _, _ => fun _ _ _ _ => False
  | q + 1, .seq x y, cs => vTop C n live res K q x (y :: cs)
  | q + 1, .block _ (.rangeFunc g ps asg body), cs => vRange C n live res K g ps.toList asg body cs
  | q + 1, c, [] => vCode C n live (vRet C res K) c [] (vRet C res K)
  | q + 1, c, y :: cs => vCode C n live (vRet C res K) c [] (vTop C n live res K q y cs)

def restWp (F : Fence) (M : Nat) (P : Program) (Q : Exit → Act → World → Prop) : List Code → Act → World → Prop
  | [], a, w => Q .normal a w
  | c :: cs, a, w => c.wpIn F M P (Exit.then (restWp F M P Q cs) Q) a w
theorem Exit.then_mono {K K' : Act → World → Prop} {Q Q' : Exit → Act → World → Prop} (hK : ∀ a w, K a w → K' a w) (hQ : ∀ e a w, Q e a w → Q' e a w) : ∀ e a w, Exit.then K Q e a w → Exit.then K' Q' e a w := by
  intro e a w h
  cases e with
  | normal => exact hK _ _ h
  | _ => exact hQ _ _ _ h
theorem Holds.nc {W W' : World} {B : Nat} (h : Holds ρ H W) (hm : Mod (NC B W) W W') : Holds ρ H W' := by
  refine ⟨fun k cs hk => (h.box k cs hk).mod hm fun ⟨_, o, h1, h2⟩ => ?_, h.ne, fun i hi => Nat.lt_of_lt_of_le (h.lt i hi) hm.size, h.ok⟩
  obtain ⟨ty, hb⟩ := h.box k cs hk
  rw [hb] at h1; cases h1; cases h2
theorem restV_sound {C : Cx} {live : List Nat} {ds : List Deferred} (hC : C.Ok) {kr k : KC} {Q : Exit → Act → World → Prop} (hr : Goes ds ρ n kr (Q .ret)) (hk : Goes ds ρ n k (Q .normal)) : ∀ (cs : List Code) (l : List Nat) (e : SEnv) (H : Heap) (w : World) (a : Act),
    AgS ds (ρ ++ l) n e a → Holds (ρ ++ l) H w → vRest C n live kr cs k e (ρ ++ l) H w → restWp (Wf none) N C.P Q cs a w
  | [], l, e, H, w, a, ha, hH, h => hk e l H a w ha hH h
  | c :: cs, l, e, H, w, a, ha, hH, h => by
    refine vCode_sound (r0 := none) hC (drw_sound hC) c [] _ (Exit.then (restWp (Wf none) N C.P Q cs) Q) (ρ ++ l) e H w a ?_ (fun id kc hk => by cases hk) (hr.app l) ha hH h
    intro e' l' H' a' w' h1 h2 h3
    rw [List.append_assoc] at h1 h2 h3
    exact restV_sound hC hr hk cs (l ++ l') e' H' w' a' h1 h2 h3
abbrev mark (D : Nat) : Deferred := { target := .collected D, args := #[] }
theorem putObj_mod (W : World) (l : Nat) (o : Obj) : Mod (fun k => k = l) W (W.putObj l o) :=
  (Mod.of_grown (grownBy_putObj' W l o)).mono fun k hk => by cases hk; rfl
theorem retM_sound {C : Cx} {fn : Func} {K : Value → World → Prop} {D M : Nat} (hC : C.Ok) (ha : AgS [mark D] ρ n e a) (hH : Holds ρ H w) (h : vRetM C fn.results.toList K D e ρ H w) :
    LeavesInM (Wf none) M C.P fn a.tmps (fun en w' => ∃ v, en = .returned v ∧ K v w') a.defers .returning w := by
  obtain ⟨h1, h2⟩ := h
  rw [ha.1]
  refine ⟨by simp, .inl ⟨D, _, rfl, run_takeDeferred h1, ?_⟩⟩
  have hm := putObj_mod w D (.deferred none)
  have hH' : Holds ρ H (w.putObj D (.deferred none)) := hH.nc (B := 0) (hm.mono fun k hk => by subst hk; exact ⟨Nat.zero_le _, _, h1, rfl⟩)
  have hc := h2 _ hm hH'
  have ha' : AgS [] ρ n e { tmps := a.tmps, defers := [] } := ⟨rfl, ha.2⟩
  obtain ⟨v, hr, hK⟩ := vRet_sound hC ha' hH' hc
  exact ⟨v, hr, v, rfl, hK⟩
theorem range_sound {C : Cx} {live : List Nat} {fn : Func} {K : Value → World → Prop} {id : Nat} {g : Operand} {ps : Array Tmp} {asg body : Code} {cs : List Code} (hC : C.Ok) (ha : AgS [] ρ n e a) (hH : Holds ρ H w)
    (h : vRange C n live fn.results.toList K g ps.toList asg body cs e ρ H w) :
    (Code.rangeFunc g ps asg body).wpIn (Wf none) 10 C.P (fun ex => Exit.inBlock id (Exit.then (restWp (Wf none) 10 C.P (bodyPostM (Wf none) 10 C.P fn (fun en w' => ∃ v, en = .returned v ∧ K v w')) cs) (bodyPostM (Wf none) 10 C.P fn (fun en w' => ∃ v, en = .returned v ∧ K v w'))) ex) a w := by
  obtain ⟨α, gf, caps, encs, S, Sp, NN, w0, G, Gx, F, Fx, ⟨hg, hf, hasg, hlen⟩, ⟨hseq, hb0⟩, hwf', hst, ⟨hG0, hF0⟩, hbody, hdone, hstop⟩ := h
  have hev : a.eval g = .func (.func gf) #[] ⟨concs ρ caps⟩ := ((ha.start.eval (p := []) rfl) g _ hg).2
  have goesM : ∀ D ex, (ex = Exit.normal ∨ ex = Exit.ret) → Goes [mark D] ρ n (vRetM C fn.results.toList K D) (bodyPostM (Wf none) 10 C.P fn (fun en w' => ∃ v, en = .returned v ∧ K v w') ex) := by
    rintro D ex hex e' l H' a' w' h1 h2 h3
    have := retM_sound (M := 10) hC h1 h2 h3
    rcases hex with rfl | rfl
    · exact this
    · exact this
  have agM : ∀ D, AgS [mark D] ρ n e { a with defers := mark D :: a.defers } := fun D => ⟨by rw [ha.1], ha.2⟩
  refine wpIn_rangeFunc_ownG (F := Wf none) (n := 10) rfl (by omega) hev trivial (hC.fns.get hf) hseq (fun _ _ => trivial) (fun _ _ _ _ _ _ _ _ => trivial) hb0 (fun x => by simpa using hlen x)
    (fun pre W => Holds ρ (G pre) W ∧ F pre W) (fun c pre W => c = .ret ∧ Holds ρ (Gx pre) W ∧ Fx pre W) ?_ ?_ ⟨hH.sub hG0, hF0⟩
    (fun x => asgA asg { tmps := (ps.zip (⟨encs x⟩ : Array Value)).foldl (fun t (p, v) => t.setIfInBounds p v) a.tmps, defers := [] }) ?_ ?_ ?_ ?_
  · rintro s W W' row ⟨h1, h2⟩ hgr hrow
    have hm : Mod (NC w.heap.size W) W W' := (Mod.of_grown hgr).mono fun k hk => hrow k hk.symm
    exact ⟨h1.nc hm, (hst s W W').1 h2 hm⟩
  · rintro c s W W' row ⟨h0, h1, h2⟩ hgr hrow
    have hm : Mod (NC w.heap.size W) W W' := (Mod.of_grown hgr).mono fun k hk => hrow k hk.symm
    exact ⟨h0, h1.nc hm, (hst s W W').2 h2 hm⟩
  · intro l x W K' hK
    exact asg_wp (r0 := some l) asg K' _ _ hasg hK
  · rintro l pre x W ⟨h1, h2⟩ hlt
    have hb := hbody pre x W h1 h2 hlt
    split at hb
    · rename_i e0 he0
      split at hb
      · rename_i e1 he1
        simp only [fE_eq, fH_eq] at hb
        have hag0 := parE_sound (ds := []) ps.toList (encs x) e e0 a ha he0
        have hag : AgS [] ρ n e1 (asgA asg { tmps := (ps.zip (⟨encs x⟩ : Array Value)).foldl (fun t (p, v) => t.setIfInBounds p v) a.tmps, defers := [] }) := by
          refine asgE_sound asg e0 e1 _ ?_ he1
          rw [ha.1] at hag0
          have hz : (ps.zip (⟨encs x⟩ : Array Value)).foldl (fun t (p, v) => t.setIfInBounds p v) a.tmps = (ps.toList.zip (encs x)).foldl (fun t (p, v) => t.setIfInBounds p v) a.tmps := by
            rw [← Array.foldl_toList, Array.toList_zip]
          rw [hz]; exact hag0
        refine vCode_sound (ds := []) (r0 := some l) (N := 8) hC (drw_sound hC) body [] _ (ownPostG w.heap.size (fun _ _ => True) (fun pre W => Holds ρ (G pre) W ∧ F pre W) (fun c pre W => c = .ret ∧ Holds ρ (Gx pre) W ∧ Fx pre W) (pre ++ [x]) W) ρ e1 (G pre) W _ ?_ (fun id kc hk => by cases hk) ?_ hag h1 hb
        · rintro e' l' H' a' w' k1 k2 ⟨k3, k4, k5⟩
          exact ⟨k5, trivial, k2.back k3 fun q c hq => (hwf.get (hwf' _).1) q c hq, k4⟩
        · rintro e' l' H' a' w' k1 k2 ⟨k3, k4, k5⟩
          exact ⟨k5, rfl, k2.back k3 fun q c hq => (hwf.get (hwf' _).2) q c hq, k4⟩
      · exact hb.elim
    · exact hb.elim
  · rintro D xs W hD hS ⟨h1, h2⟩ hK
    have := hdone D xs W hD hS h1 h2 hK
    rw [fH_eq] at this
    refine restV_sound (live := live) (ds := [mark D]) (N := 10) hC (goesM D .ret (.inr rfl)) (goesM D .normal (.inl rfl)) cs [] e (G xs) W _ ?_ ?_ ?_
    · rw [List.append_nil]; exact agM D
    · rw [List.append_nil]; exact h1
    · rw [List.append_nil]; exact this
  · rintro D c pre W hD hSp ⟨rfl, h1, h2⟩ hK
    have := hstop D pre W hD hSp h1 h2 hK
    rw [fH_eq] at this
    refine wpIn_ret ?_
    exact retM_sound (M := 10) hC (agM D) h1 this
theorem vTop_sound {C : Cx} {live : List Nat} {fn : Func} {K : Value → World → Prop} (hC : C.Ok) : ∀ (q : Nat) (c : Code) (cs : List Code) (ρ : List Nat) (e : SEnv) (H : Heap) (w : World) (a : Act), AgS [] ρ n e a → Holds ρ H w →
    vTop C n live fn.results.toList K q c cs e ρ H w → c.wpIn (Wf none) 10 C.P (Exit.then (restWp (Wf none) 10 C.P (bodyPostM (Wf none) 10 C.P fn (fun en w' => ∃ v, en = .returned v ∧ K v w')) cs) (bodyPostM (Wf none) 10 C.P fn (fun en w' => ∃ v, en = .returned v ∧ K v w'))) a w := by
  have goes0 : ∀ ρ ex, (ex = Exit.normal ∨ ex = Exit.ret) → Goes [] ρ n (vRet C fn.results.toList K) (bodyPostM (Wf none) 10 C.P fn (fun en w' => ∃ v, en = .returned v ∧ K v w') ex) := by
    rintro ρ ex hex e' l H' a' w' h1 h2 h3
    obtain ⟨v, hr, hK⟩ := vRet_sound hC h1 h2 h3
    have : LeavesInM (Wf none) 10 C.P fn a'.tmps (fun en w' => ∃ v, en = .returned v ∧ K v w') a'.defers .returning w' := by
      rw [h1.1]; exact ⟨v, hr, v, rfl, hK⟩
    rcases hex with rfl | rfl
    · exact this
    · exact this
  intro q
  induction q with
  | zero => intro c cs ρ e H w a _ _ h; exact h.elim
  | succ q ih =>
    intro c cs ρ e H w a ha hH h
    have plain : ∀ c : Code, (match cs with
        | [] => vCode C n live (vRet C fn.results.toList K) c [] (vRet C fn.results.toList K) e ρ H w
        | y :: cs' => vCode C n live (vRet C fn.results.toList K) c [] (vTop C n live fn.results.toList K q y cs') e ρ H w) →
        c.wpIn (Wf none) 10 C.P (Exit.then (restWp (Wf none) 10 C.P (bodyPostM (Wf none) 10 C.P fn (fun en w' => ∃ v, en = .returned v ∧ K v w')) cs) (bodyPostM (Wf none) 10 C.P fn (fun en w' => ∃ v, en = .returned v ∧ K v w'))) a w := by
      intro c h
      cases cs with
      | nil => exact vCode_sound (r0 := none) hC (drw_sound hC) c [] _ _ ρ e H w a (goes0 ρ .normal (.inl rfl)) (fun id kc hk => by cases hk) (goes0 ρ .ret (.inr rfl)) ha hH h
      | cons y cs' =>
        refine vCode_sound (r0 := none) hC (drw_sound hC) c [] _ _ ρ e H w a ?_ (fun id kc hk => by cases hk) (goes0 ρ .ret (.inr rfl)) ha hH h
        intro e' l H' a' w' h1 h2 h3
        exact ih y cs' (ρ ++ l) e' H' w' a' h1 h2 h3
    cases c with
    | seq x y =>
      refine wpIn_seq ?_
      refine wpIn_mono (ih x (y :: cs) ρ e H w a ha hH h) ?_
      intro ex a' w' hh
      cases ex <;> exact hh
    | block id b =>
      cases b with
      | rangeFunc g ps asg body =>
        refine wpIn_block ?_
        exact range_sound hC ha hH h
      | _ => exact plain _ (by cases cs <;> exact h)
    | _ => exact plain _ (by cases cs <;> exact h)
/-- A contract of a function that holds a range over a function. -/
theorem Runs.of_vcR {C : Cx} {f : FuncId} {fn : Func} {c : Code} {K : Value → World → Prop} (hC : C.Ok) (q : Nat) (live : List Nat) (vs : List SV) (hf : C.P.funcs[f]? = some fn) (hb : fn.body = some c) (hn : Nat.ble vs.length fn.ntmps = true)
    (hw : wfs ρ.length vs = true) (hH : Holds ρ H w) (h : vTop C fn.ntmps live fn.results.toList K q c [] (argsS 0 vs) ρ H w) : Runs C.P f ⟨concs ρ vs⟩ w K := by
  have hn' : vs.length ≤ fn.ntmps := Nat.le_of_ble_eq_true hn
  have hag : AgS [] ρ fn.ntmps (argsS 0 vs) ⟨(concs ρ vs).toArray ++ Array.replicate (fn.ntmps - (concs ρ vs).toArray.size) undef, []⟩ := by
    refine ⟨rfl, by simp [concs_length]; omega, fun t s hs => ?_⟩
    obtain ⟨_, h2⟩ := look_argsS vs 0 t s hs
    rw [Nat.sub_zero] at h2
    obtain ⟨hlt, _⟩ := List.getElem?_eq_some_iff.1 h2
    refine ⟨wfs_get hw h2, ?_⟩
    rw [Array.getElem?_append_left (by simpa [concs_length] using hlt)]
    simp [concs_get, h2]
  have hwp := vTop_sound hC q c [] ρ _ H w _ hag hH h
  have hc : CallsIn (Wf none) 10 C.P f ⟨concs ρ vs⟩ w (fun en w' => ∃ v, en = .returned v ∧ K v w') := by
    refine callsIn_of_wp_marks hf hb trivial (wpIn_mono hwp ?_) rfl
    intro ex a' w' hh
    cases ex with
    | normal => exact hh
    | _ => exact hh
  exact callsIn_wide.1 hc
theorem KeepsFrom.of_mod {S : Nat → Prop} {B : Nat} {W W' : World} (hm : Mod S W W') (h : ∀ k, B ≤ k → S k → ∃ o : Obj, W.heap[k]? = some o ∧ o.isCells = true) : KeepsFrom B W W' :=
  ⟨hm.size, fun k o hB hk ho => (hm.block k (Array.getElem?_eq_some_iff.1 hk).1 fun hs => by
    obtain ⟨o', h1, h2⟩ := h k hB hs
    rw [hk] at h1; cases h1; rw [ho] at h2; cases h2).trans hk⟩
theorem KeepsFrom.below {S : Nat → Prop} {B : Nat} {W W' : World} (hm : Mod S W W') (h : ∀ k, S k → k < B) : KeepsFrom B W W' := KeepsFrom.of_mod hm fun k hB hs => by have := h k hs; omega
theorem Ext.nc {w W W' : World} {B : Nat} (h : Ext w W) (hB : w.heap.size ≤ B) (hm : Mod (NC B W) W W') : Ext w W' := h.trans' hm fun k hk hs => by have := hs.1; omega
theorem dead_mod {S : Nat → Prop} {W W' : World} {D : Nat} {o : Obj} (h : W.heap[D]? = some o) (hm : Mod S W W') (hS : ¬ S D) : W'.heap[D]? = some o := (hm.block D (Array.getElem?_eq_some_iff.1 h).1 hS).trans h
/-- where what turns the world writes to S alone, in which none of the first m boxes lies -/
theorem vDrwK_mk {C : Cx} {live : List Nat} {ops : List Oper} {K : KC} (m : Nat) (S : Nat → Prop) (hm : m ≤ ρ.length) (hS : ∀ i, i < m → ¬ S (adr ρ i)) (ch : List Nat) (ord : OT) (h : drwB ops ch ord = true) (k : ∀ w', Ext w w' → w.heap.size ≤ w'.heap.size → Holds ρ H w' → vDr C S m n live ops (aheadGo [] ops) ch K ord [] [] e ρ H w') : vDrw C n live ops K e ρ H w :=
  ⟨ch, ord, S, m, .inr ⟨hm, hS⟩, h, fun w' x hh => k w' x x.size hh⟩
end
end Go.Proofs.Bw
