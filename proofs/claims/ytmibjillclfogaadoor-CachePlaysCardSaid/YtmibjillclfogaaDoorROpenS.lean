/-
  Slices of steps and of terms, out of what a call was handed.
-/
import Derived.Test.YtmibjillclfogaaDoorC13
import Derived.Test.YtmibjillclfogaaDoorRLaid
namespace Go.Proofs.YtmibjillclfogaaDoor
open Go Go.ChangeMaps Go.ChangeShapes Go.WideShapes Go.ChangeAt Go.RowKit Go.Proofs.Bw
theorem cellsSt : Tryd.prog.cellsOf 38 = 3 := by kernel_rfl
theorem cellsB8 : Tryd.prog.cellsOf 5 = 1 := by kernel_rfl
theorem cellsBo : Tryd.prog.cellsOf 4 = 1 := by kernel_rfl
theorem three' {α : Type} {cs : List α} (h : cs.length = 3) : ∃ a b c, cs = [a, b, c] := by
  match cs, h with
  | [a, b, c], _ => exact ⟨a, b, c, rfl⟩
section
variable {H : Type} {enc : TypeId × Value → H} {w : World} {spare : Nat → Bool} {held : Bool}
theorem open_St (fuel : Nat) (cs : List Value) (x : DataW H × List MemPlace) (h : DataW.trod enc Tryd.prog w 0 spare held fuel 38 cs = some x) : ∃ s : St, cs = s.cells ∧ s.ok := by
  obtain ⟨xs, n, hf, _, hl, hlen, hx⟩ := DataW.trod_struct Tryd.underlying38 h
  rw [cellsSt] at hl
  obtain ⟨a, b, c, rfl⟩ := three' hl
  match xs, hlen with
  | [y0, y1, y2], _ =>
    have h0 : DataW.trod enc Tryd.prog w 0 spare held n 4 (([a, b, c].drop 0).take (Tryd.prog.cellsOf 4)) = some y0 := hx 0 _ rfl
    rw [cellsBo] at h0
    have h1 : DataW.trod enc Tryd.prog w 0 spare held n 5 (([a, b, c].drop 1).take (Tryd.prog.cellsOf 5)) = some y1 := hx 1 _ rfl
    rw [cellsB8] at h1
    have h2 : DataW.trod enc Tryd.prog w 0 spare held n 5 (([a, b, c].drop 2).take (Tryd.prog.cellsOf 5)) = some y2 := hx 2 _ rfl
    rw [cellsB8] at h2
    obtain ⟨q, e0, _⟩ := DataW.trod_bool Tryd.underlying4 h0
    obtain ⟨k, e1, _, w1⟩ := DataW.trod_int Tryd.underlying5 h1
    obtain ⟨m, e2, _, w2⟩ := DataW.trod_int Tryd.underlying5 h2
    cases e0; cases e1; cases e2
    have a1 := wf8 w1
    have a2 := wf8 w2
    refine ⟨⟨q, k.toNat, m.toNat⟩, ?_, ⟨by simp only; omega, by simp only; omega⟩⟩
    simp only [St.cells, show ((k.toNat : Nat) : Int) = k by omega, show ((m.toNat : Nat) : Int) = m by omega]
/-- A slice of what an opener of its own opens. -/
theorem open_sl {α : Type} {ts te : TypeId} {sz : Nat} (cells : α → List Value) (ok : α → Prop) (a0 : α) (hu : Tryd.prog.underlying ts = some (.slice te)) (hce : Tryd.prog.cellsOf te = sz)
    (he : ∀ n c x, DataW.trod enc Tryd.prog w 0 spare held n te c = some x → ∃ a : α, c = cells a ∧ ok a)
    {fuel : Nat} {cs : List Value} {x : DataW H × List MemPlace} (h : DataW.trod enc Tryd.prog w 0 spare held fuel ts cs = some x) :
    ∃ (A : Option Addr) (ls : List α) (c : Nat), cs = [.slice A ls.length c] ∧ lenOk ls.length c ∧ Rd w (fun _ => True) sz A (ls.map cells) ∧ (∀ a ∈ ls, ok a) ∧ (ls = [] ∨ ∃ es sp, x.1 = .slice es sp ∧ es.length = ls.length) := by
  rcases DataW.trod_slice hu h with ⟨rfl, _⟩ | ⟨a, len, cap, elems, rest, n, _, rfl, rfl, _, hle, hc, hlen, hg, _⟩
  · exact ⟨none, [], 0, rfl, ⟨Nat.le_refl 0, by decide⟩, Rd.nil _ _ _ _, fun _ h => (by cases h), .inl rfl⟩
  have key : ∀ i, i < len → ∃ b : α, RowAt w (a.add (i * sz)) (cells b) ∧ ok b := by
    intro i hi
    have h1 := hg i hi
    rw [hce, List.getElem?_eq_getElem (by omega)] at h1
    obtain ⟨c, h2, h3⟩ := Option.bind_eq_some_iff.1 h1
    obtain ⟨b, rfl, hb⟩ := he _ _ _ h3
    exact ⟨b, (cells_row h2).2, hb⟩
  refine ⟨some a, (List.range len).map (fun i => if hi : i < len then (key i hi).choose else a0), cap, by simp, by simp only [List.length_map, List.length_range]; exact ⟨hle, hc⟩, fun i r hr => ?_, fun b hb => ?_, .inr ⟨_, _, rfl, by simp [hlen]⟩⟩
  · simp only [List.map_map, List.getElem?_map, Option.map_eq_some_iff] at hr
    obtain ⟨j, hj, rfl⟩ := hr
    obtain ⟨hi, hx⟩ := List.getElem?_eq_some_iff.1 hj
    simp only [List.length_range] at hi
    simp only [List.getElem_range] at hx
    subst hx
    refine ⟨a, rfl, trivial, ?_⟩
    simp only [Function.comp, dif_pos hi]
    exact (key i hi).choose_spec.1
  · simp only [List.mem_map, List.mem_range] at hb
    obtain ⟨i, hi, rfl⟩ := hb
    rw [dif_pos hi]
    exact (key i hi).choose_spec.2
theorem open_SSt {fuel : Nat} {cs : List Value} {x : DataW H × List MemPlace} (h : DataW.trod enc Tryd.prog w 0 spare held fuel 23 cs = some x) :
    ∃ (A : Option Addr) (ls : List St) (c : Nat), cs = [.slice A ls.length c] ∧ lenOk ls.length c ∧ Rd w (fun _ => True) 3 A (stR ls) ∧ (∀ a ∈ ls, a.ok) ∧ (ls = [] ∨ ∃ es sp, x.1 = .slice es sp ∧ es.length = ls.length) :=
  open_sl St.cells St.ok ⟨false, 0, 0⟩ Tryd.underlying23 cellsSt open_St h
theorem stR_small {l : List St} {A : Option Addr} (h : Rd w (fun _ => True) 3 A (stR l)) : Rd w (fun k => True ∧ k < w.heap.size) 3 A (stR l) :=
  h.small (fun r hr => by simp only [stR, List.mem_map] at hr; obtain ⟨t, _, rfl⟩ := hr; rfl) (by decide)
end
end Go.Proofs.YtmibjillclfogaaDoor

