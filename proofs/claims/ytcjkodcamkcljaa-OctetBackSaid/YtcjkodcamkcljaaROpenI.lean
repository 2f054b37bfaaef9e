/-
  Slices of items, out of what a call was handed.
-/
import Derived.Test.YtcjkodcamkcljaaOBack
import Derived.Test.YtcjkodcamkcljaaOOpen
namespace Go.Proofs.Ytcjkodcamkcljaa
open Go Go.ChangeMaps Go.ChangeShapes Go.WideShapes Go.ChangeAt Go.RowKit Go.Proofs.Bw
theorem cellsIt : Try.prog.cellsOf 42 = 2 := by kernel_rfl
theorem cellsU64 : Try.prog.cellsOf 23 = 1 := by kernel_rfl
theorem cellsS : Try.prog.cellsOf 9 = 1 := by kernel_rfl
theorem wfU16 {n : Int} (h : (Lit.int .u16 n).wf = true) : 0 ≤ n ∧ n < 65536 := by
  simp [Lit.wf] at h
  have h1 : IntKind.u16.min = 0 := rfl
  have h2 : IntKind.u16.max = 65535 := rfl
  omega
section
variable {H : Type} {enc : TypeId × Value → H} {w : World} {spare : Nat → Bool} {held : Bool}
theorem open_It (fuel : Nat) (cs : List Value) (x : DataW H × List MemPlace) (h : DataW.trod enc Try.prog w 0 spare held fuel 42 cs = some x) : ∃ s : Itm, cs = s.cells ∧ s.ok := by
  obtain ⟨xs, n, hf, _, hl, hlen, hx⟩ := DataW.trod_struct Try.underlying42 h
  rw [cellsIt] at hl
  obtain ⟨a, b, rfl⟩ := two' hl
  match xs, hlen with
  | [y0, y1], _ =>
    have h0 : DataW.trod enc Try.prog w 0 spare held n 23 (([a, b].drop 0).take (Try.prog.cellsOf 23)) = some y0 := hx 0 _ rfl
    rw [cellsU64] at h0
    have h1 : DataW.trod enc Try.prog w 0 spare held n 9 (([a, b].drop 1).take (Try.prog.cellsOf 9)) = some y1 := hx 1 _ rfl
    rw [cellsS] at h1
    obtain ⟨k, e0, _, w0⟩ := DataW.trod_int Try.underlying23 h0
    obtain ⟨s, e1, _, w1⟩ := DataW.trod_string Try.underlying9 h1
    cases e0; cases e1
    have a0 := wfU64 w0
    refine ⟨⟨k.toNat, s⟩, ?_, by simp only; omega, by have h : maxLen = 9223372036854775807 := rfl; simp only; omega⟩
    simp only [Itm.cells, show ((k.toNat : Nat) : Int) = k by omega]
theorem open_SIt {fuel : Nat} {cs : List Value} {x : DataW H × List MemPlace} (h : DataW.trod enc Try.prog w 0 spare held fuel 39 cs = some x) :
    ∃ (A : Option Addr) (ls : List Itm) (c : Nat), cs = [.slice A ls.length c] ∧ lenOk ls.length c ∧ Rd w (fun _ => True) 2 A (iR ls) ∧ (∀ a ∈ ls, a.ok) ∧ (ls = [] ∨ ∃ es sp, x.1 = .slice es sp ∧ es.length = ls.length) :=
  open_sl Itm.cells Itm.ok ⟨0, ⟨#[]⟩⟩ Try.underlying39 cellsIt open_It h
theorem iR_small {l : List Itm} {A : Option Addr} (h : Rd w (fun _ => True) 2 A (iR l)) : Rd w (fun k => True ∧ k < w.heap.size) 2 A (iR l) :=
  h.small (fun r hr => by simp only [iR, List.mem_map] at hr; obtain ⟨t, _, rfl⟩ := hr; rfl) (by decide)
end
end Go.Proofs.Ytcjkodcamkcljaa

