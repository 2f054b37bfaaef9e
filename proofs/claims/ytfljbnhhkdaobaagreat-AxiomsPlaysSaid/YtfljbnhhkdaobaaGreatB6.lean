/-
  Terms, levels and slices of them, out of what a call was handed.
-/
import Derived.Test.YtfljbnhhkdaobaaGreatA4
import Derived.ProofKit
namespace Go.Proofs.YtfljbnhhkdaobaaGreat
open Go Go.ChangeShapes Go.WideShapes Go.ChangeAt Go.RowKit Go.Proofs.Bw
theorem cellsT : Tryz.prog.cellsOf 33 = 5 := by kernel_rfl
theorem cellsL : Tryz.prog.cellsOf 63 = 5 := by kernel_rfl
theorem cellsA : Tryz.prog.cellsOf 61 = 4 := by kernel_rfl
theorem cellsI : Tryz.prog.cellsOf 3 = 1 := by kernel_rfl
theorem cellsU : Tryz.prog.cellsOf 5 = 1 := by kernel_rfl
theorem cellsS : Tryz.prog.cellsOf 9 = 1 := by kernel_rfl
theorem cellsSL : Tryz.prog.cellsOf 30 = 1 := by kernel_rfl
theorem cellsST : Tryz.prog.cellsOf 31 = 1 := by kernel_rfl
theorem wf64 {n : Int} (h : (Lit.int .i64 n).wf = true) : i64ok n := by
  simp [Lit.wf] at h
  have h1 : IntKind.i64.min = -9223372036854775808 := rfl
  have h2 : IntKind.i64.max = 9223372036854775807 := rfl
  unfold i64ok; omega
theorem wf8 {n : Int} (h : (Lit.int .u8 n).wf = true) : 0 ≤ n ∧ n ≤ 255 := by
  simp [Lit.wf] at h
  have h1 : IntKind.u8.min = 0 := rfl
  have h2 : IntKind.u8.max = 255 := rfl
  omega
theorem five {α : Type} {cs : List α} (h : cs.length = 5) : ∃ a b c d e, cs = [a, b, c, d, e] := by
  match cs, h with
  | [a, b, c, d, e], _ => exact ⟨a, b, c, d, e, rfl⟩
section
variable {H : Type} {enc : TypeId × Value → H} {w : World} {spare : Nat → Bool} {held : Bool}
theorem cells_row {a : Addr} {n : Nat} {cs : List Value} (h : w.cells? 0 a n = some cs) : cs.length = n ∧ RowAt w a cs := by
  obtain ⟨_, h1, h2⟩ := World.cells?_some h
  refine ⟨h1, fun j u hu => ?_⟩
  obtain ⟨hj, _⟩ := List.getElem?_eq_some_iff.1 hu
  rw [h2 j (by omega)]; exact hu
theorem open_L {fuel : Nat} {cs : List Value} {x : DataW H × List MemPlace} (h : DataW.trod enc Tryz.prog w 0 spare held fuel 63 cs = some x) : ∃ l : L, cs = l.cells ∧ l.wf := by
  obtain ⟨y0, y1, n, _, hl, h0, h1⟩ := trod_struct2 Tryz.underlying63 h
  rw [cellsL] at hl
  obtain ⟨a, b, c, d, e, rfl⟩ := five hl
  simp only [cellsI, cellsA] at h0 h1
  obtain ⟨n0, e0, _, w0⟩ := DataW.trod_int Tryz.underlying3 h0
  obtain ⟨z0, z1, z2, z3, m, _, k0, k1, k2, k3⟩ := trod_array4 (c0 := b) (c1 := c) (c2 := d) (c3 := e) Tryz.underlying61 cellsI h1
  obtain ⟨p0, q0, _, v0⟩ := DataW.trod_int Tryz.underlying3 k0
  obtain ⟨p1, q1, _, v1⟩ := DataW.trod_int Tryz.underlying3 k1
  obtain ⟨p2, q2, _, v2⟩ := DataW.trod_int Tryz.underlying3 k2
  obtain ⟨p3, q3, _, v3⟩ := DataW.trod_int Tryz.underlying3 k3
  cases e0; cases q0; cases q1; cases q2; cases q3
  exact ⟨⟨n0, p0, p1, p2, p3⟩, rfl, wf64 w0, wf64 v0, wf64 v1, wf64 v2, wf64 v3⟩
theorem open_SL {fuel : Nat} {cs : List Value} {x : DataW H × List MemPlace} (h : DataW.trod enc Tryz.prog w 0 spare held fuel 30 cs = some x) : ∃ (A : Option Addr) (ls : List L) (c : Nat), cs = [.slice A ls.length c] ∧ lenOk ls.length c ∧ SlL w (fun _ => True) A ls := by
  rcases DataW.trod_slice Tryz.underlying30 h with ⟨rfl, _⟩ | ⟨a, len, cap, elems, rest, n, _, rfl, _, _, hle, hc, hlen, he, _⟩
  · exact ⟨none, [], 0, rfl, ⟨Nat.le_refl 0, by decide⟩, SlL.nil _ _ _⟩
  have key : ∀ i, i < len → ∃ l : L, RowAt w (a.add (i * 5)) l.cells ∧ l.wf := by
    intro i hi
    have h1 := he i hi
    rw [cellsL, List.getElem?_eq_getElem (by omega)] at h1
    obtain ⟨c, h2, h3⟩ := Option.bind_eq_some_iff.1 h1
    obtain ⟨l, rfl, hw⟩ := open_L h3
    exact ⟨l, (cells_row h2).2, hw⟩
  refine ⟨some a, (List.range len).map (fun i => if hi : i < len then (key i hi).choose else ⟨0, 0, 0, 0, 0⟩), cap, by simp, by simp only [List.length_map, List.length_range]; exact ⟨hle, hc⟩, fun i l hl => ?_⟩
  obtain ⟨hi, hx⟩ := List.getElem?_eq_some_iff.1 hl
  simp only [List.length_map, List.length_range] at hi
  simp only [List.getElem_map, List.getElem_range, dif_pos hi] at hx
  subst hx
  exact ⟨a, rfl, trivial, (key i hi).choose_spec.1, (key i hi).choose_spec.2⟩
theorem open_ST' {fuel : Nat} (ih : ∀ n, n < fuel → ∀ (cs : List Value) (x : DataW H × List MemPlace), DataW.trod enc Tryz.prog w 0 spare held n 33 cs = some x → ∃ t, VT w (fun _ => True) cs t) {cs : List Value} {x : DataW H × List MemPlace}
    (h : DataW.trod enc Tryz.prog w 0 spare held fuel 31 cs = some x) : ∃ (A : Option Addr) (ts : List T) (c : Nat), cs = [.slice A ts.length c] ∧ lenOk ts.length c ∧ SlT w (fun _ => True) A ts := by
  rcases DataW.trod_slice Tryz.underlying31 h with ⟨rfl, _⟩ | ⟨a, len, cap, elems, rest, n, hf, rfl, _, _, hle, hc, hlen, he, _⟩
  · exact ⟨none, [], 0, rfl, ⟨Nat.le_refl 0, by decide⟩, SlT.nil _ _ _⟩
  have key : ∀ i, i < len → ∃ tc : T × List Value, RowAt w (a.add (i * 5)) tc.2 ∧ VT w (fun _ => True) tc.2 tc.1 := by
    intro i hi
    have h1 := he i hi
    rw [cellsT, List.getElem?_eq_getElem (by omega)] at h1
    obtain ⟨c, h2, h3⟩ := Option.bind_eq_some_iff.1 h1
    obtain ⟨t, ht⟩ := ih n (by omega) c _ h3
    exact ⟨(t, c), (cells_row h2).2, ht⟩
  refine ⟨some a, (List.range len).map (fun i => if hi : i < len then (key i hi).choose.1 else tZ), cap, by simp, by simp only [List.length_map, List.length_range]; exact ⟨hle, hc⟩, fun i => if hi : i < len then (key i hi).choose.2 else [], fun i t hl => ?_, fun i t hl => ?_⟩
  all_goals
    obtain ⟨hi, hx⟩ := List.getElem?_eq_some_iff.1 hl
    simp only [List.length_map, List.length_range] at hi
    simp only [List.getElem_map, List.getElem_range, dif_pos hi] at hx
    subst hx
    simp only [dif_pos hi]
  · exact (key i hi).choose_spec.2
  · exact ⟨a, rfl, trivial, (key i hi).choose_spec.1⟩
theorem open_T (fuel : Nat) : ∀ (cs : List Value) (x : DataW H × List MemPlace), DataW.trod enc Tryz.prog w 0 spare held fuel 33 cs = some x → ∃ t, VT w (fun _ => True) cs t := by
  induction fuel using Nat.strongRecOn with
  | ind fuel ih =>
    intro cs x h
    obtain ⟨xs, n, hf, _, hl, hlen, hx⟩ := DataW.trod_struct Tryz.underlying33 h
    rw [cellsT] at hl
    obtain ⟨a, b, c, d, e, rfl⟩ := five hl
    match xs, hlen with
    | [y0, y1, y2, y3, y4], _ =>
      have h0 : DataW.trod enc Tryz.prog w 0 spare held n 5 (([a, b, c, d, e].drop 0).take (Tryz.prog.cellsOf 5)) = some y0 := hx 0 _ rfl
      rw [cellsU] at h0
      have h1 : DataW.trod enc Tryz.prog w 0 spare held n 3 (([a, b, c, d, e].drop 1).take (Tryz.prog.cellsOf 3)) = some y1 := hx 1 _ rfl
      rw [cellsI] at h1
      have h2 : DataW.trod enc Tryz.prog w 0 spare held n 9 (([a, b, c, d, e].drop 2).take (Tryz.prog.cellsOf 9)) = some y2 := hx 2 _ rfl
      rw [cellsS] at h2
      have h3 : DataW.trod enc Tryz.prog w 0 spare held n 30 (([a, b, c, d, e].drop 3).take (Tryz.prog.cellsOf 30)) = some y3 := hx 3 _ rfl
      rw [cellsSL] at h3
      have h4 : DataW.trod enc Tryz.prog w 0 spare held n 31 (([a, b, c, d, e].drop 4).take (Tryz.prog.cellsOf 31)) = some y4 := hx 4 _ rfl
      rw [cellsST] at h4
      obtain ⟨k, e0, _, w0⟩ := DataW.trod_int Tryz.underlying5 h0
      obtain ⟨m, e1, _, w1⟩ := DataW.trod_int Tryz.underlying3 h1
      obtain ⟨s, e2, _, w2⟩ := DataW.trod_string Tryz.underlying9 h2
      obtain ⟨la, ls, lc, e3, w3, hL⟩ := open_SL h3
      obtain ⟨ta, ts, tc, e4, w4, hT⟩ := open_ST' (fun k hk => ih k (by omega)) h4
      cases e0; cases e1; cases e2; cases e3; cases e4
      exact ⟨_, VT.intro (wf8 w0) (wf64 w1) (by have h : maxLen = 9223372036854775807 := rfl; omega) w3 w4 hL hT⟩
end
end Go.Proofs.YtfljbnhhkdaobaaGreat
