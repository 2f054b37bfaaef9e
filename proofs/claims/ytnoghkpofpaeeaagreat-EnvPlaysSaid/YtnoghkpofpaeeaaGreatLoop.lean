/-
  Loops of which only what turns is told.
-/
import Derived.Test.YtnoghkpofpaeeaaGreatOwn2
namespace Go.Proofs.Bw
open Go Go.RowKit

def keepE (dr : List Nat) : SEnv → SEnv
  | [] => []
  | (t, s) :: r => bif nmem dr t then keepE dr r else (t, s) :: keepE dr r
def keepH (dr : List Nat) : Heap → Heap
  | [] => []
  | (t, s) :: r => bif nmem dr t then keepH dr r else (t, s) :: keepH dr r
def overE (dr : List Nat) : SEnv → SEnv → SEnv
  | [], e => keepE dr e
  | x :: r, e => x :: overE dr r e
def overH (dr : List Nat) : Heap → Heap → Heap
  | [], e => keepH dr e
  | x :: r, e => x :: overH dr r e
theorem esub_over {dr : List Nat} {e e' : SEnv} : ∀ {c : SEnv}, esub c e' → esub (keepE dr e) e' → esub (overE dr c e) e'
  | [], _, h => h
  | (_, _) :: _, h, h2 => ⟨h.1, esub_over h.2 h2⟩
theorem hsub_over {dr : List Nat} {e e' : Heap} : ∀ {c : Heap}, hsub c e' → hsub (keepH dr e) e' → hsub (overH dr c e) e'
  | [], _, h => h
  | (_, _) :: _, h, h2 => ⟨h.1, hsub_over h.2 h2⟩
section
variable {ρ : List Nat} {e : SEnv} {H : Heap} {w : World}
/-- dr, dh: slots and boxes that are written in the loop; cg, ch: those of them that are told at its head -/
theorem vLoop_upd {σ : Type} {body : KC → KC} (dr : List Nat) (cg : σ → SEnv) (dh : List Nat) (ch : σ → Heap) (F : σ → World → Prop) (μ : σ → Nat) (s0 : σ)
    (hw : ∀ s, ewf ρ.length (overE dr (cg s) e) = true ∧ hwf ρ.length (overH dh (ch s) H) = true) (h0 : esub (cg s0) e ∧ esub (keepE dr e) e ∧ hsub (ch s0) H ∧ hsub (keepH dh H) H ∧ F s0 w)
    (round : ∀ s w', Holds ρ (overH dh (ch s) H) w' → F s w' → fE (overE dr (cg s) e) fun I => fH (overH dh (ch s) H) fun G => body (fun e' _ H' w'' => ∃ s', μ s' < μ s ∧ esub (overE dr (cg s') e) e' ∧ hsub (overH dh (ch s') H) H' ∧ F s' w'') I ρ G w') : vLoop body e ρ H w := by
  refine vLoop_mk (fun s => overE dr (cg s) e) (fun s => overH dh (ch s) H) F μ s0 hw ⟨esub_over h0.1 h0.2.1, hsub_over h0.2.2.1 h0.2.2.2.1, h0.2.2.2.2⟩ ?_
  intro s w' hh hF
  have := round s w' hh hF
  rw [fE_eq, fH_eq] at this
  exact this
/-- the end of a round -/
theorem vNext {σ : Type} {dr dh : List Nat} {cg : σ → SEnv} {ch : σ → Heap} {F : σ → World → Prop} {μ : σ → Nat} {s : σ} {e' : SEnv} {H' : Heap} {w' : World} (s' : σ) (hm : μ s' < μ s) (h1 : esub (cg s') e') (h2 : esub (keepE dr e) e') (h3 : hsub (ch s') H') (h4 : hsub (keepH dh H) H') (hF : F s' w') :
    ∃ s', μ s' < μ s ∧ esub (overE dr (cg s') e) e' ∧ hsub (overH dh (ch s') H) H' ∧ F s' w' := ⟨s', hm, esub_over h1 h2, hsub_over h3 h4, hF⟩
/-- two ways that come together: dr, dh: slots and boxes that one of them writes; cg, ch: those of them that are told behind -/
theorem vJoin_upd {σ : Type} {C : Cx} {n : Nat} {live : List Nat} {kr : KC} {x y : Code} {ks : List (Nat × KC)} {k : KC} {b : Bool} (dr : List Nat) (cg : σ → SEnv) (dh : List Nat) (ch : σ → Heap) (F : σ → World → Prop)
    (hw : ∀ s, ewf ρ.length (overE dr (cg s) e) = true ∧ hwf ρ.length (overH dh (ch s) H) = true)
    (hx : b = true → vCode C n live kr x ks (fun e' _ H' w' => ∃ s, esub (overE dr (cg s) e) e' ∧ hsub (overH dh (ch s) H) H' ∧ F s w') e ρ H w)
    (hy : b = false → vCode C n live kr y ks (fun e' _ H' w' => ∃ s, esub (overE dr (cg s) e) e' ∧ hsub (overH dh (ch s) H) H' ∧ F s w') e ρ H w)
    (hk : ∀ s w', Holds ρ (overH dh (ch s) H) w' → F s w' → fE (overE dr (cg s) e) fun I => fH (overH dh (ch s) H) fun G => k I ρ G w') :
    vBranch b (vCode C n live kr x ks k e ρ H w) (vCode C n live kr y ks k e ρ H w) ∨ vJoin (fun k' => vBranch b (vCode C n live kr x ks k' e ρ H w) (vCode C n live kr y ks k' e ρ H w)) k ρ := by
  refine .inr ⟨σ, fun s => overE dr (cg s) e, fun s => overH dh (ch s) H, F, hw, ⟨hx, hy⟩, fun s w' hh hF => ?_⟩
  have := hk s w' hh hF
  rw [fE_eq, fH_eq] at this
  exact this
theorem vMeet {σ : Type} {dr dh : List Nat} {cg : σ → SEnv} {ch : σ → Heap} {F : σ → World → Prop} {e' : SEnv} {H' : Heap} {w' : World} (s : σ) (h1 : esub (cg s) e') (h2 : esub (keepE dr e) e') (h3 : hsub (ch s) H') (h4 : hsub (keepH dh H) H') (hF : F s w') :
    ∃ s, esub (overE dr (cg s) e) e' ∧ hsub (overH dh (ch s) H) H' ∧ F s w' := ⟨s, esub_over h1 h2, hsub_over h3 h4, hF⟩
end
end Go.Proofs.Bw
