/-
  A region that draws its order, by a program: some operations turn the world, one behind the other; the others only read, and are looked at as early as may be.
-/
import Derived.Test.YtnoghkpofpaeeaaGreatCode
namespace Go.Proofs.Bw
open Go Go.RowKit

def ahB (ah : List Nat) (i j : Nat) : Bool := (ah.getD i 0).testBit j
/-- Are all of some ahead of one? -/
def allAh (ah : List Nat) (k : Nat) (l : List Nat) : Bool := l.all fun i => ahB ah k i
def pairB (ah : List Nat) (i j : Nat) : Bool := ahB ah i j || ahB ah j i
def namesB (ops : List Oper) (ah : List Nat) (i : Nat) (o : Oper) : Bool :=
  (namesOf ops o).all fun t => match writer ops 0 t with
    | some j => !Nat.beq i j && pairB ah i j
    | none => true
def notSel : Op → Bool
  | .select _ _ => false
  | _ => true
/-- The orders in which they are looked at; where two that turn the world may come next, both ways. -/
inductive OT where
  | nil : OT
  | one : Nat → OT → OT
  | alt : Nat → OT → Nat → OT → OT
/-- on each way -/
def OT.mem (k : Nat) : OT → Bool
  | .nil => false
  | .one i r => Nat.beq k i || r.mem k
  | .alt i r j q => (Nat.beq k i || r.mem k) && (Nat.beq k j || q.mem k)
def OT.allT (p : Nat → Bool) : OT → Bool
  | .nil => true
  | .one i r => p i && r.allT p
  | .alt i r j q => (p i && r.allT p) && (p j && q.allT p)
def OT.heads : OT → List Nat
  | .nil => []
  | .one i _ => [i]
  | .alt i _ j _ => [i, j]
def opOk (ops : List Oper) (ah pre : List Nat) (i : Nat) : Bool :=
  (match ops[i]? with
    | some o => namesB ops ah i o && o.after.toList.all (fun e => !Region.binds .any e || nmem pre e.on) && notSel o.op
    | none => false) && !nmem pre i
/-- Of what stands ahead nothing comes later; who turns the world is ahead of all that come later, or one of two is. -/
def ordB (ops : List Oper) (ah : List Nat) (ch : List Nat) : OT → List Nat → Bool
  | .nil, _ => true
  | .one i r, pre => opOk ops ah pre i && (bif nmem ch i then r.allT (fun j => ahB ah j i) else true) && ordB ops ah ch r (i :: pre)
  | .alt i r j q, pre => (opOk ops ah pre i && nmem ch i && ordB ops ah ch r (i :: pre)) && (opOk ops ah pre j && nmem ch j && ordB ops ah ch q (j :: pre)) &&
      (r.allT (fun k => Nat.beq k j || (ahB ah k i || ahB ah k j)) && q.allT (fun k => Nat.beq k i || (ahB ah k i || ahB ah k j)))
def drwB (ops : List Oper) (ch : List Nat) (ord : OT) : Bool := dstsApart ops && edgesBack 0 ops && (List.range ops.length).all (fun k => ord.mem k) && ordB ops (aheadGo [] ops) ch ord []
/-- boxes of number below m -/
def keepN (m : Nat) : Heap → Heap
  | [] => []
  | (k, c) :: r => bif Nat.blt k m then (k, c) :: keepN m r else keepN m r
/-- What turns (S) is none of the first m boxes. -/
def KM (S : Nat → Prop) (m : Nat) (ρ : List Nat) : Prop := (∀ k, ¬ S k) ∨ (m ≤ ρ.length ∧ ∀ i, i < m → ¬ S (adr ρ i))
/-- What only reads yields just one value from now on. -/
def vStill (C : Cx) (S : Nat → Prop) (m : Nat) (o : Oper) (p : List (Nat × Bool)) (R : List RE) (e : SEnv) (ρ : List Nat) (H : Heap) (w : World) (k : SV → Prop) : Prop :=
  match pev C (evR R e p) (evP R e p true o.op) (evP R e p false o.op) (keepN m H) o.op with
  | .ok s => chk (wf ρ.length s) (k s)
  | .side q s => pathImp R p q ∧ chk (wf ρ.length s) (k s)
  | .no => ∃ s : SV, wf ρ.length s = true ∧ (∀ w', Bw.Mod S w w' → Holds ρ (keepN m H) w' → pathImp R p (OpT C.P (opE ρ (evR R e p) (looks o)) w' o fun x w'' => x = conc ρ s ∧ w'' = w')) ∧ k s
/-- One that turns the world; if something that is looked at ahead of it may come behind it, it only adds to it. -/
def vTurn (C : Cx) (S : Nat → Prop) (free : Bool) (o : Oper) (p : List (Nat × Bool)) (R : List RE) (e : SEnv) (ρ : List Nat) (H : Heap) (w : World) (k : SV → List Nat → Heap → World → Prop) : Prop :=
  match free with
  | true => vOp C o p R e ρ H w k
  | false => vOp C o p R e ρ H w fun s ρ' H' w' => Bw.Mod S w w' ∧ k s ρ' H' w'
/-- one of them, then the rest -/
def vDrStep (C : Cx) (S : Nat → Prop) (m : Nat) (n : Nat) (ops : List Oper) (ah ch : List Nat) (i : Nat) (ih : List Nat → List RE → SEnv → List Nat → Heap → World → Prop) (pre : List Nat) (R : List RE) (e : SEnv) (ρ : List Nat) (H : Heap) (w : World) : Prop :=
  match ops[i]? with
    | none => False
    | some o => match dstFree n R o.dst with
      | false => False
      | true => match nmem ch i with
        | true => match o.guard with
          | none => vTurn C S (allAh ah i pre) o [] R e ρ H w fun s ρ' H' w' => ih (i :: pre) (⟨o.dst, [], s⟩ :: R) e ρ' H' w'
          | some (j, q) => match guardOf ops R j q with
            | .go p => vTurn C S (allAh ah i pre) o p R e ρ H w fun s ρ' H' w' => ih (i :: pre) (⟨o.dst, p, s⟩ :: R) e ρ' H' w'
            | .skip p => ih (i :: pre) (⟨o.dst, p, .v undef⟩ :: R) e ρ H w
            | .no => False
        | false => match o.guard with
          | none => vStill C S m o [] R e ρ H w fun s => ih (i :: pre) (⟨o.dst, [], s⟩ :: R) e ρ H w
          | some (j, q) => match guardOf ops R j q with
            | .go p => vStill C S m o p R e ρ H w fun s => ih (i :: pre) (⟨o.dst, p, s⟩ :: R) e ρ H w
            | .skip p => ih (i :: pre) (⟨o.dst, p, .v undef⟩ :: R) e ρ H w
            | .no => False
/-- by the bare recursor, as vOps -/
def vDr (C : Cx) (S : Nat → Prop) (m : Nat) (n : Nat) (live : List Nat) (ops : List Oper) (ah ch : List Nat) (K : KC) (l : OT) : List Nat → List RE → SEnv → List Nat → Heap → World → Prop :=
  @OT.rec (fun _ => List Nat → List RE → SEnv → List Nat → Heap → World → Prop) (fun _ R e ρ H w => fE (endE R e live) fun e' => K e' ρ H w) (fun i _ ih => vDrStep C S m n ops ah ch i ih)
    (fun i _ j _ ih ih' => fun pre R e ρ H w => vDrStep C S m n ops ah ch i ih pre R e ρ H w ∧ vDrStep C S m n ops ah ch j ih' pre R e ρ H w) l
theorem vDr_nil {C : Cx} {S : Nat → Prop} {m : Nat} {n : Nat} {live : List Nat} {ops : List Oper} {ah ch : List Nat} {K : KC} {pre : List Nat} {R : List RE} {e : SEnv} {ρ : List Nat} {H : Heap} {w : World} :
    vDr C S m n live ops ah ch K .nil pre R e ρ H w = fE (endE R e live) fun e' => K e' ρ H w := rfl
theorem vDr_cons {C : Cx} {S : Nat → Prop} {m : Nat} {n : Nat} {live : List Nat} {ops : List Oper} {ah ch : List Nat} {K : KC} {i : Nat} {r : OT} {pre : List Nat} {R : List RE} {e : SEnv} {ρ : List Nat} {H : Heap} {w : World} :
    vDr C S m n live ops ah ch K (.one i r) pre R e ρ H w = vDrStep C S m n ops ah ch i (vDr C S m n live ops ah ch K r) pre R e ρ H w := rfl
def vDrw (C : Cx) (n : Nat) (live : List Nat) (ops : List Oper) (K : KC) (e : SEnv) (ρ : List Nat) (H : Heap) (w : World) : Prop :=
  ∃ ch ord, ∃ (S : Nat → Prop) (m : Nat), KM S m ρ ∧ drwB ops ch ord = true ∧ ∀ w', Ext w w' → Holds ρ H w' → vDr C S m n live ops (aheadGo [] ops) ch K ord [] [] e ρ H w'

/-! ### code -/
def mergeS (b : Bool) (x y : SV) : Option SV :=
  match x, y with
  | .v (.bool p), .v (.bool q) => some (.v (.bool (sel b p q)))
  | .v (.int k p), .v (.int k' q) => bif ikEq k k' then some (.v (.int k (bif b then p else q))) else none
  | _, _ => none
def writes : Code → List Nat
  | .region _ ops _ => ops.toList.filterMap (·.dst)
  | .seq a b => writes a ++ writes b
  | .cond _ a b => writes a ++ writes b
  | _ => []
def mergeE (b : Bool) (ws : List Nat) (e e1 e2 : SEnv) : List Nat → SEnv
  | [] => []
  | t :: l => match nmem ws t with
    | true => match lookS e1 t, lookS e2 t with
      | some x, some y => match mergeS b x y with
        | some s => (t, s) :: mergeE b ws e e1 e2 l
        | none => mergeE b ws e e1 e2 l
      | _, _ => mergeE b ws e e1 e2 l
    | false => match lookS e t with
      | some s => (t, s) :: mergeE b ws e e1 e2 l
      | none => mergeE b ws e e1 e2 l
def pOps (C : Cx) (n : Nat) (live : List Nat) (ops : List Oper) (e : SEnv) (m : Nat) (H : Heap) : List Oper → List RE → Option SEnv
  | [], R => fO (endE R e live)
  | o :: r, R => match dstFree n R o.dst with
    | false => none
    | true => match o.guard with
      | none => match pev C (evR R e []) (evP R e [] true o.op) (evP R e [] false o.op) H o.op with
        | .ok s => match wf m s with
          | true => pOps C n live ops e m H r (⟨o.dst, [], s⟩ :: R)
          | false => none
        | _ => none
      | some (j, q) => match guardOf ops R j q with
        | .go p => match pev C (evR R e p) (evP R e p true o.op) (evP R e p false o.op) H o.op with
          | .ok s => match wf m s with
            | true => pOps C n live ops e m H r (⟨o.dst, p, s⟩ :: R)
            | false => none
          | _ => none
        | .skip p => pOps C n live ops e m H r (⟨o.dst, p, .v undef⟩ :: R)
        | .no => none
def pCode (C : Cx) (n : Nat) (live : List Nat) (m : Nat) (H : Heap) : Code → SEnv → Option SEnv
  | .skip, e => some e
  | .label _, e => some e
  | .seq a b, e => match pCode C n live m H a e with
    | some e' => pCode C n live m H b e'
    | none => none
  | .region _ ops false, e => pOps C n live ops.toList e m H ops.toList []
  | .cond c x y, e => match evR [] e [] c with
    | some (.v (.bool b)) => match pCode C n live m H x e, pCode C n live m H y e with
      | some e1, some e2 => fO (mergeE b (writes x ++ writes y) e e1 e2 live)
      | _, _ => none
    | _ => none
  | _, _ => none
def esub : SEnv → SEnv → Prop
  | [], _ => True
  | (t, s) :: r, e => lookS e t = some s ∧ esub r e
def ewf (n : Nat) : SEnv → Bool
  | [] => true
  | (_, s) :: r => wf n s && ewf n r
def hwf (n : Nat) : Heap → Bool
  | [] => true
  | (k, c) :: r => Nat.blt k n && wfs n c && hwf n r
def kfind : List (Nat × KC) → Nat → Option KC
  | [], _ => none
  | (i, k) :: r, id => bif Nat.beq i id then some k else kfind r id
def vBranch (b : Bool) (X Y : Prop) : Prop := (b = true → X) ∧ (b = false → Y)
def vLoop (body : KC → KC) (e : SEnv) (ρ : List Nat) (H : Heap) (w : World) : Prop :=
  ∃ (σ : Type) (I : σ → SEnv) (G : σ → Heap) (F : σ → World → Prop) (μ : σ → Nat) (s0 : σ), (∀ s, ewf ρ.length (I s) = true ∧ hwf ρ.length (G s) = true) ∧ (esub (I s0) e ∧ hsub (G s0) H ∧ F s0 w) ∧
    ∀ s w', Holds ρ (G s) w' → F s w' → body (fun e' _ H' w'' => ∃ s', μ s' < μ s ∧ esub (I s') e' ∧ hsub (G s') H' ∧ F s' w'') (I s) ρ (G s) w'
/-- where two ways come together: what holds there of some state -/
def vJoin (body : KC → Prop) (k : KC) (ρ : List Nat) : Prop :=
  ∃ (σ : Type) (I : σ → SEnv) (G : σ → Heap) (F : σ → World → Prop), (∀ s, ewf ρ.length (I s) = true ∧ hwf ρ.length (G s) = true) ∧ body (fun e' _ H' w' => ∃ s, esub (I s) e' ∧ hsub (G s) H' ∧ F s w') ∧ ∀ s w', Holds ρ (G s) w' → F s w' → k (I s) ρ (G s) w'
def vCode (C : Cx) (n : Nat) (live : List Nat) (kr : KC) : Code → List (Nat × KC) → KC → KC
  | .skip, _, k => k
  | .label _, _, k => k
  | .seq a b, ks, k => vCode C n live kr a ks (vCode C n live kr b ks k)
  | .region _ ops false, _, k => fun e ρ H w => vOps C n live ops.toList k ops.toList [] e ρ H w
  | .region _ ops true, _, k => fun e ρ H w => vDrw C n live ops.toList k e ρ H w
  | .cond c x y, ks, k => fun e ρ H w => match pCode C n live ρ.length H (.cond c x y) e with
    | some e' => k e' ρ H w
    | none => match evR [] e [] c with
      | some (.v (.bool b)) => vBranch b (vCode C n live kr x ks k e ρ H w) (vCode C n live kr y ks k e ρ H w) ∨ vJoin (fun k' => vBranch b (vCode C n live kr x ks k' e ρ H w) (vCode C n live kr y ks k' e ρ H w)) k ρ
      | _ => False
  | .block id x, ks, k => vCode C n live kr x ((id, k) :: ks) k
  | .exit id, ks, _ => fun e ρ H w => match kfind ks id with
    | some k => k e ρ H w
    | none => False
  | .ret, _, _ => kr
  | .loop x, ks, _ => vLoop fun k => vCode C n live kr x ks k
  | _, _, _ => fun _ _ _ _ => False
def resS (C : Cx) (e : SEnv) (H : Heap) : List ResultVar → Option (List SV)
  | [] => some []
  | .tmp t :: r => match lookS e t, resS C e H r with
    | some s, some l => some (s :: l)
    | _, _ => none
  | .cell t ty :: r => match lookS e t, tget C.tab ty, resS C e H r with
    | some (.p k off), some td, some l => match hget H k with
      | some cs => match pload td off cs with
        | .ok s => some (s :: l)
        | _ => none
      | none => none
    | _, _, _ => none
def oneOf : List SV → SV
  | [s] => s
  | l => .t l
def vRet (C : Cx) (res : List ResultVar) (K : Value → World → Prop) : KC := fun e ρ H w => match resS C e H res with
  | some l => K (conc ρ (oneOf l)) w
  | none => False
end Go.Proofs.Bw
