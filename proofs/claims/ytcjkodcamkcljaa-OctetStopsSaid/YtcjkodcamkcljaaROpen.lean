/-
  Slices of steps, out of what a call was handed.
-/
import Derived.Test.YtcjkodcamkcljaaOStops
import Derived.Test.YtcjkodcamkcljaaOOpen
namespace Go.Proofs.Ytcjkodcamkcljaa
open Go Go.ChangeMaps Go.ChangeShapes Go.WideShapes Go.ChangeAt Go.RowKit Go.Proofs.Bw
theorem cellsSt : Try.prog.cellsOf 53 = 4 := by kernel_rfl
theorem bytesSt : Try.prog.bytesOf 53 = 32 := by kernel_rfl
theorem cellsU64 : Try.prog.cellsOf 23 = 1 := by kernel_rfl
theorem cellsI : Try.prog.cellsOf 3 = 1 := by kernel_rfl
section
variable {H : Type} {enc : TypeId × Value → H} {w : World} {spare : Nat → Bool} {held : Bool}
theorem open_St (fuel : Nat) (cs : List Value) (x : DataW H × List MemPlace) (h : DataW.trod enc Try.prog w 0 spare held fuel 53 cs = some x) : ∃ s : Stp, cs = s.cells ∧ s.ok := by
  obtain ⟨xs, n, hf, _, hl, hlen, hx⟩ := DataW.trod_struct Try.underlying53 h
  rw [cellsSt] at hl
  obtain ⟨a, b, c, d, rfl⟩ := four' hl
  match xs, hlen with
  | [y0, y1, y2, y3], _ =>
    have h0 : DataW.trod enc Try.prog w 0 spare held n 5 (([a, b, c, d].drop 0).take (Try.prog.cellsOf 5)) = some y0 := hx 0 _ rfl
    rw [cellsU8] at h0
    have h1 : DataW.trod enc Try.prog w 0 spare held n 23 (([a, b, c, d].drop 1).take (Try.prog.cellsOf 23)) = some y1 := hx 1 _ rfl
    rw [cellsU64] at h1
    have h2 : DataW.trod enc Try.prog w 0 spare held n 3 (([a, b, c, d].drop 2).take (Try.prog.cellsOf 3)) = some y2 := hx 2 _ rfl
    rw [cellsI] at h2
    have h3 : DataW.trod enc Try.prog w 0 spare held n 3 (([a, b, c, d].drop 3).take (Try.prog.cellsOf 3)) = some y3 := hx 3 _ rfl
    rw [cellsI] at h3
    obtain ⟨k, e0, _, w0⟩ := DataW.trod_int Try.underlying5 h0
    obtain ⟨m, e1, _, w1⟩ := DataW.trod_int Try.underlying23 h1
    obtain ⟨p, e2, _, _⟩ := DataW.trod_int Try.underlying3 h2
    obtain ⟨q, e3, _, _⟩ := DataW.trod_int Try.underlying3 h3
    cases e0; cases e1; cases e2; cases e3
    have a0 := wfU8 w0
    have a1 := wfU64 w1
    refine ⟨⟨k.toNat, m.toNat, p, q⟩, ?_, by simp only; omega, by simp only; omega⟩
    simp only [Stp.cells, show ((k.toNat : Nat) : Int) = k by omega, show ((m.toNat : Nat) : Int) = m by omega]
theorem open_SSt {fuel : Nat} {cs : List Value} {x : DataW H × List MemPlace} (h : DataW.trod enc Try.prog w 0 spare held fuel 51 cs = some x) :
    ∃ (A : Option Addr) (ls : List Stp) (c : Nat), cs = [.slice A ls.length c] ∧ lenOk ls.length c ∧ Rd w (fun _ => True) 4 A (sR ls) ∧ (∀ a ∈ ls, a.ok) ∧ (ls = [] ∨ ∃ es sp, x.1 = .slice es sp ∧ es.length = ls.length) :=
  open_sl Stp.cells Stp.ok ⟨0, 0, 0, 0⟩ Try.underlying51 cellsSt open_St h
end
end Go.Proofs.Ytcjkodcamkcljaa

