/-
  Bytes, out of what a call was handed.
-/
import Derived.Test.YtnoghkpofpaeeaaGreatOwn2
import Derived.Test.YtnoghkpofpaeeaaGreatRows
import Derived.ProofKit
import Derived.SizedLaws
import Derived.ChangeMaps5
namespace Go.Proofs.YtnoghkpofpaeeaaGreat
open Go Go.ChangeShapes Go.WideShapes Go.ChangeAt Go.RowKit Go.Proofs.Bw
theorem u8n {k : Nat} (h : k < 256) : ((UInt8.ofNat k).toNat : Int) = k := by
  rw [UInt8.toNat_ofNat', Nat.mod_eq_of_lt h]
theorem cellsU8 : Tryz.prog.cellsOf 5 = 1 := by kernel_rfl
theorem bytesU8 : Tryz.prog.bytesOf 5 = 1 := by kernel_rfl
theorem wfU8 {n : Int} (h : (Lit.int .u8 n).wf = true) : 0 ≤ n ∧ n ≤ 255 := by
  simp [Lit.wf] at h
  have h1 : IntKind.u8.min = 0 := rfl
  have h2 : IntKind.u8.max = 255 := rfl
  omega
section
variable {H : Type} {enc : TypeId × Value → H} {w : World} {spare : Nat → Bool} {held : Bool}
theorem cells_rowB {a : Addr} {n : Nat} {cs : List Value} (h : w.cells? 0 a n = some cs) : cs.length = n ∧ RowAt w a cs := by
  obtain ⟨_, h1, h2⟩ := World.cells?_some h
  refine ⟨h1, fun j u hu => ?_⟩
  obtain ⟨hj, _⟩ := List.getElem?_eq_some_iff.1 hu
  rw [h2 j (by omega)]; exact hu
theorem open_B {fuel : Nat} {cs : List Value} {x : DataW H × List MemPlace} (h : DataW.trod enc Tryz.prog w 0 spare held fuel 23 cs = some x) :
    ∃ (A : Option Addr) (bs : List UInt8) (c : Nat), cs = [.slice A bs.length c] ∧ lenOk bs.length c ∧ Rd w (fun _ => True) 1 A (bR bs) ∧ (bs = [] ∨ ∃ es sp, x.1 = .slice es sp ∧ es.length = bs.length) := by
  rcases DataW.trod_slice Tryz.underlying23 h with ⟨rfl, _⟩ | ⟨a, len, cap, elems, rest, n, _, rfl, rfl, _, hle, hc, hlen, he, _⟩
  · exact ⟨none, [], 0, rfl, ⟨Nat.le_refl 0, by decide⟩, Rd.nil _ _ _ _, .inl rfl⟩
  have key : ∀ i, i < len → ∃ b : UInt8, RowAt w (a.add (i * 1)) [.int .u8 b.toNat] := by
    intro i hi
    have h1 := he i hi
    rw [cellsU8, List.getElem?_eq_getElem (by omega)] at h1
    obtain ⟨c, h2, h3⟩ := Option.bind_eq_some_iff.1 h1
    obtain ⟨k, rfl, _, wk⟩ := DataW.trod_int Tryz.underlying5 h3
    have hk := wfU8 wk
    refine ⟨UInt8.ofNat k.toNat, ?_⟩
    rw [u8n (by omega), show ((k.toNat : Nat) : Int) = k by omega]
    exact (cells_rowB h2).2
  refine ⟨some a, (List.range len).map (fun i => if hi : i < len then (key i hi).choose else 0), cap, by simp, by simp only [List.length_map, List.length_range]; exact ⟨hle, hc⟩, fun i r hr => ?_, .inr ⟨_, _, rfl, by simp [hlen]⟩⟩
  simp only [bR, List.map_map, List.getElem?_map, Option.map_eq_some_iff] at hr
  obtain ⟨j, hj, rfl⟩ := hr
  obtain ⟨hi, hx⟩ := List.getElem?_eq_some_iff.1 hj
  simp only [List.length_range] at hi
  simp only [List.getElem_range] at hx
  subst hx
  refine ⟨a, rfl, trivial, ?_⟩
  simp only [Function.comp, dif_pos hi]
  exact (key i hi).choose_spec
end
end Go.Proofs.YtnoghkpofpaeeaaGreat

