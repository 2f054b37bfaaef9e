/-
  Bytes, out of what a call was handed.
-/
import Derived.Test.YtcjkodcamkcljaaO9
import Derived.ProofKit
import Derived.SizedLaws
import Derived.ChangeMaps5
namespace Go.Proofs.Ytcjkodcamkcljaa
open Go Go.ChangeShapes Go.WideShapes Go.ChangeAt Go.RowKit Go.Proofs.Bw
theorem Try.own : ownKnob Try.prog.godebug = none := by kernel_rfl
theorem Try.laidOut : laidOutB Try.prog = true := by kernel_rfl
theorem cellsU8 : Try.prog.cellsOf 5 = 1 := by kernel_rfl
theorem bytesU8 : Try.prog.bytesOf 5 = 1 := by kernel_rfl
theorem wfU8 {n : Int} (h : (Lit.int .u8 n).wf = true) : 0 ≤ n ∧ n ≤ 255 := by
  simp [Lit.wf] at h
  have h1 : IntKind.u8.min = 0 := rfl
  have h2 : IntKind.u8.max = 255 := rfl
  omega
theorem wfU64 {n : Int} (h : (Lit.int .u64 n).wf = true) : 0 ≤ n ∧ n < 18446744073709551616 := by
  simp [Lit.wf] at h
  have h1 : IntKind.u64.min = 0 := rfl
  have h2 : IntKind.u64.max = 18446744073709551615 := rfl
  omega
section
variable {H : Type} {enc : TypeId × Value → H} {w : World} {spare : Nat → Bool} {held : Bool}
theorem cells_row {a : Addr} {n : Nat} {cs : List Value} (h : w.cells? 0 a n = some cs) : cs.length = n ∧ RowAt w a cs := by
  obtain ⟨_, h1, h2⟩ := World.cells?_some h
  refine ⟨h1, fun j u hu => ?_⟩
  obtain ⟨hj, _⟩ := List.getElem?_eq_some_iff.1 hu
  rw [h2 j (by omega)]; exact hu
theorem open_B {fuel : Nat} {cs : List Value} {x : DataW H × List MemPlace} (h : DataW.trod enc Try.prog w 0 spare held fuel 22 cs = some x) :
    ∃ (A : Option Addr) (bs : List UInt8) (c : Nat), cs = [.slice A bs.length c] ∧ lenOk bs.length c ∧ Rd w (fun _ => True) 1 A (bR bs) ∧ (bs = [] ∨ ∃ es sp, x.1 = .slice es sp ∧ es.length = bs.length) := by
  rcases DataW.trod_slice Try.underlying22 h with ⟨rfl, _⟩ | ⟨a, len, cap, elems, rest, n, _, rfl, rfl, _, hle, hc, hlen, he, _⟩
  · exact ⟨none, [], 0, rfl, ⟨Nat.le_refl 0, by decide⟩, Rd.nil _ _ _ _, .inl rfl⟩
  have key : ∀ i, i < len → ∃ b : UInt8, RowAt w (a.add (i * 1)) [.int .u8 b.toNat] := by
    intro i hi
    have h1 := he i hi
    rw [cellsU8, List.getElem?_eq_getElem (by omega)] at h1
    obtain ⟨c, h2, h3⟩ := Option.bind_eq_some_iff.1 h1
    obtain ⟨k, rfl, _, wk⟩ := DataW.trod_int Try.underlying5 h3
    have hk := wfU8 wk
    refine ⟨UInt8.ofNat k.toNat, ?_⟩
    rw [u8n (by omega), show ((k.toNat : Nat) : Int) = k by omega]
    exact (cells_row h2).2
  refine ⟨some a, (List.range len).map (fun i => if hi : i < len then (key i hi).choose else 0), cap, by simp, by simp only [List.length_map, List.length_range]; exact ⟨hle, hc⟩, fun i r hr => ?_, .inr ⟨_, _, rfl, by simp [hlen]⟩⟩
  simp only [bR, List.map_map, List.getElem?_map, Option.map_eq_some_iff] at hr
  obtain ⟨j, hj, rfl⟩ := hr
  obtain ⟨hi, hx⟩ := List.getElem?_eq_some_iff.1 hj
  simp only [List.length_range] at hi
  simp only [List.getElem_range] at hx
  subst hx
  refine ⟨a, rfl, trivial, ?_⟩
  simp only [Function.comp, dif_pos hi]
  exact (key i hi).choose_spec
/-- A slice of what an opener of its own opens. -/
theorem open_sl {α : Type} {ts te : TypeId} {sz : Nat} (cells : α → List Value) (ok : α → Prop) (a0 : α) (hu : Try.prog.underlying ts = some (.slice te)) (hce : Try.prog.cellsOf te = sz)
    (he : ∀ n c x, DataW.trod enc Try.prog w 0 spare held n te c = some x → ∃ a : α, c = cells a ∧ ok a)
    {fuel : Nat} {cs : List Value} {x : DataW H × List MemPlace} (h : DataW.trod enc Try.prog w 0 spare held fuel ts cs = some x) :
    ∃ (A : Option Addr) (ls : List α) (c : Nat), cs = [.slice A ls.length c] ∧ lenOk ls.length c ∧ Rd w (fun _ => True) sz A (ls.map cells) ∧ (∀ a ∈ ls, ok a) ∧ (ls = [] ∨ ∃ es sp, x.1 = .slice es sp ∧ es.length = ls.length) := by
  rcases DataW.trod_slice hu h with ⟨rfl, _⟩ | ⟨a, len, cap, elems, rest, n, _, rfl, rfl, _, hle, hc, hlen, hg, _⟩
  · exact ⟨none, [], 0, rfl, ⟨Nat.le_refl 0, by decide⟩, Rd.nil _ _ _ _, fun _ h => (by cases h), .inl rfl⟩
  have key : ∀ i, i < len → ∃ b : α, RowAt w (a.add (i * sz)) (cells b) ∧ ok b := by
    intro i hi
    have h1 := hg i hi
    rw [hce, List.getElem?_eq_getElem (by omega)] at h1
    obtain ⟨c, h2, h3⟩ := Option.bind_eq_some_iff.1 h1
    obtain ⟨b, rfl, hb⟩ := he _ _ _ h3
    exact ⟨b, (cells_row h2).2, hb⟩
  refine ⟨some a, (List.range len).map (fun i => if hi : i < len then (key i hi).choose else a0), cap, by simp, by simp only [List.length_map, List.length_range]; exact ⟨hle, hc⟩, fun i r hr => ?_, fun b hb => ?_, .inr ⟨_, _, rfl, by simp [hlen]⟩⟩
  · simp only [List.map_map, List.getElem?_map, Option.map_eq_some_iff] at hr
    obtain ⟨j, hj, rfl⟩ := hr
    obtain ⟨hi, hx⟩ := List.getElem?_eq_some_iff.1 hj
    simp only [List.length_range] at hi
    simp only [List.getElem_range] at hx
    subst hx
    refine ⟨a, rfl, trivial, ?_⟩
    simp only [Function.comp, dif_pos hi]
    exact (key i hi).choose_spec.1
  · simp only [List.mem_map, List.mem_range] at hb
    obtain ⟨i, hi, rfl⟩ := hb
    rw [dif_pos hi]
    exact (key i hi).choose_spec.2
theorem two' {α : Type} {cs : List α} (h : cs.length = 2) : ∃ a b, cs = [a, b] := by
  match cs, h with
  | [a, b], _ => exact ⟨a, b, rfl⟩
theorem four' {α : Type} {cs : List α} (h : cs.length = 4) : ∃ a b c d, cs = [a, b, c, d] := by
  match cs, h with
  | [a, b, c, d], _ => exact ⟨a, b, c, d, rfl⟩
end
end Go.Proofs.Ytcjkodcamkcljaa

