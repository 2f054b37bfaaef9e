/-
  Infos and slices of them, out of what a call was handed.
-/
import Derived.Test.YtfljbnhhkdaobaaGreatA4
import Derived.Test.YtfljbnhhkdaobaaGreatB6
namespace Go.Proofs.YtfljbnhhkdaobaaGreat
open Go Go.ChangeShapes Go.WideShapes Go.ChangeAt Go.RowKit Go.Proofs.Bw
theorem cellsB : Tryz.prog.cellsOf 4 = 1 := by kernel_rfl
theorem cellsR : Tryz.prog.cellsOf 84 = 7 := by kernel_rfl
theorem cellsSR : Tryz.prog.cellsOf 34 = 1 := by kernel_rfl
theorem cellsInf : Tryz.prog.cellsOf 36 = 25 := by kernel_rfl
theorem str63 {s : ByteArray} (h : s.size ≤ maxLen) : s.size ≤ 9223372036854775807 := by have h1 : maxLen = 9223372036854775807 := rfl; omega
section
variable {H : Type} {enc : TypeId × Value → H} {w : World} {spare : Nat → Bool} {held : Bool}
theorem many {α : Type} : ∀ {n : Nat} {cs : List α}, cs.length = n + 1 → ∃ a r, cs = a :: r ∧ r.length = n
  | n, a :: r, h => ⟨a, r, rfl, by simpa using h⟩
theorem open_R {fuel : Nat} {cs : List Value} {x : DataW H × List MemPlace} (h : DataW.trod enc Tryz.prog w 0 spare held fuel 84 cs = some x) : ∃ y : Rl, VR w (fun _ => True) cs y := by
  obtain ⟨xs, n, hf, _, hl, hlen, hx⟩ := DataW.trod_struct Tryz.underlying84 h
  rw [cellsR] at hl
  obtain ⟨a0, r0, rfl, hl0⟩ := many hl
  obtain ⟨a1, r1, rfl, hl1⟩ := many hl0
  obtain ⟨a2, r2, rfl, hl2⟩ := many hl1
  obtain ⟨a3, r3, rfl, hl3⟩ := many hl2
  obtain ⟨a4, r4, rfl, hl4⟩ := many hl3
  obtain ⟨a5, r5, rfl, hl5⟩ := many hl4
  obtain ⟨a6, r6, rfl, hl6⟩ := many hl5
  obtain rfl : r6 = [] := List.eq_nil_of_length_eq_zero hl6
  match xs, hlen with
  | [y0, y1, y2], _ =>
    have h0 : DataW.trod enc Tryz.prog w 0 spare held n 9 (([a0, a1, a2, a3, a4, a5, a6].drop 0).take (Tryz.prog.cellsOf 9)) = some y0 := hx 0 _ rfl
    rw [cellsS] at h0
    obtain ⟨v0, e0, _, w0⟩ := DataW.trod_string Tryz.underlying9 h0
    have h1 : DataW.trod enc Tryz.prog w 0 spare held n 3 (([a0, a1, a2, a3, a4, a5, a6].drop 1).take (Tryz.prog.cellsOf 3)) = some y1 := hx 1 _ rfl
    rw [cellsI] at h1
    obtain ⟨v1, e1, _, w1⟩ := DataW.trod_int Tryz.underlying3 h1
    have h2 : DataW.trod enc Tryz.prog w 0 spare held n 33 (([a0, a1, a2, a3, a4, a5, a6].drop 2).take (Tryz.prog.cellsOf 33)) = some y2 := hx 2 _ rfl
    rw [cellsT] at h2
    obtain ⟨v2, w2⟩ := open_T n _ _ h2
    cases e0; cases e1
    exact ⟨⟨v0, v1, v2⟩, _, rfl, w2, wf64 w1, str63 w0⟩
theorem open_SR {fuel : Nat} {cs : List Value} {x : DataW H × List MemPlace} (h : DataW.trod enc Tryz.prog w 0 spare held fuel 34 cs = some x) : ∃ (A : Option Addr) (l : List Rl) (c : Nat), cs = [.slice A l.length c] ∧ lenOk l.length c ∧ Sl encR w (fun _ => True) A l := by
  rcases DataW.trod_slice Tryz.underlying34 h with ⟨rfl, _⟩ | ⟨a, len, cap, elems, rest, n, hf, rfl, _, _, hle, hc, hlen, he, _⟩
  · exact ⟨none, [], 0, rfl, ⟨Nat.le_refl 0, by decide⟩, Sl.nil _ _ _ _⟩
  have key : ∀ i, i < len → ∃ tc : Rl × List Value, RowAt w (a.add (i * 7)) tc.2 ∧ VR w (fun _ => True) tc.2 tc.1 := by
    intro i hi
    have h1 := he i hi
    rw [cellsR, List.getElem?_eq_getElem (by omega)] at h1
    obtain ⟨c, h2, h3⟩ := Option.bind_eq_some_iff.1 h1
    obtain ⟨t, ht⟩ := open_R h3
    exact ⟨(t, c), (cells_row h2).2, ht⟩
  have hL : (List.ofFn fun i : Fin len => (key i.1 i.2).choose.1).length = len := by simp
  refine ⟨some a, List.ofFn fun i : Fin len => (key i.1 i.2).choose.1, cap, by rw [hL], by rw [hL]; exact ⟨hle, hc⟩, fun i t hl => ?_⟩
  obtain ⟨hi, rfl⟩ := List.getElem?_eq_some_iff.1 hl
  rw [hL] at hi
  rw [List.getElem_ofFn]
  exact ⟨a, _, rfl, trivial, (key i hi).choose_spec.1, (key i hi).choose_spec.2⟩
theorem open_I {fuel : Nat} {cs : List Value} {x : DataW H × List MemPlace} (h : DataW.trod enc Tryz.prog w 0 spare held fuel 36 cs = some x) : ∃ y : Inf, VI w (fun _ => True) cs y := by
  obtain ⟨xs, n, hf, _, hl, hlen, hx⟩ := DataW.trod_struct Tryz.underlying36 h
  rw [cellsInf] at hl
  obtain ⟨a0, r0, rfl, hl0⟩ := many hl
  obtain ⟨a1, r1, rfl, hl1⟩ := many hl0
  obtain ⟨a2, r2, rfl, hl2⟩ := many hl1
  obtain ⟨a3, r3, rfl, hl3⟩ := many hl2
  obtain ⟨a4, r4, rfl, hl4⟩ := many hl3
  obtain ⟨a5, r5, rfl, hl5⟩ := many hl4
  obtain ⟨a6, r6, rfl, hl6⟩ := many hl5
  obtain ⟨a7, r7, rfl, hl7⟩ := many hl6
  obtain ⟨a8, r8, rfl, hl8⟩ := many hl7
  obtain ⟨a9, r9, rfl, hl9⟩ := many hl8
  obtain ⟨a10, r10, rfl, hl10⟩ := many hl9
  obtain ⟨a11, r11, rfl, hl11⟩ := many hl10
  obtain ⟨a12, r12, rfl, hl12⟩ := many hl11
  obtain ⟨a13, r13, rfl, hl13⟩ := many hl12
  obtain ⟨a14, r14, rfl, hl14⟩ := many hl13
  obtain ⟨a15, r15, rfl, hl15⟩ := many hl14
  obtain ⟨a16, r16, rfl, hl16⟩ := many hl15
  obtain ⟨a17, r17, rfl, hl17⟩ := many hl16
  obtain ⟨a18, r18, rfl, hl18⟩ := many hl17
  obtain ⟨a19, r19, rfl, hl19⟩ := many hl18
  obtain ⟨a20, r20, rfl, hl20⟩ := many hl19
  obtain ⟨a21, r21, rfl, hl21⟩ := many hl20
  obtain ⟨a22, r22, rfl, hl22⟩ := many hl21
  obtain ⟨a23, r23, rfl, hl23⟩ := many hl22
  obtain ⟨a24, r24, rfl, hl24⟩ := many hl23
  obtain rfl : r24 = [] := List.eq_nil_of_length_eq_zero hl24
  match xs, hlen with
  | [y0, y1, y2, y3, y4, y5, y6, y7, y8, y9, y10, y11, y12, y13, y14, y15, y16], _ =>
    have h0 : DataW.trod enc Tryz.prog w 0 spare held n 5 (([a0, a1, a2, a3, a4, a5, a6, a7, a8, a9, a10, a11, a12, a13, a14, a15, a16, a17, a18, a19, a20, a21, a22, a23, a24].drop 0).take (Tryz.prog.cellsOf 5)) = some y0 := hx 0 _ rfl
    rw [cellsU] at h0
    obtain ⟨v0, e0, _, w0⟩ := DataW.trod_int Tryz.underlying5 h0
    have h1 : DataW.trod enc Tryz.prog w 0 spare held n 9 (([a0, a1, a2, a3, a4, a5, a6, a7, a8, a9, a10, a11, a12, a13, a14, a15, a16, a17, a18, a19, a20, a21, a22, a23, a24].drop 1).take (Tryz.prog.cellsOf 9)) = some y1 := hx 1 _ rfl
    rw [cellsS] at h1
    obtain ⟨v1, e1, _, w1⟩ := DataW.trod_string Tryz.underlying9 h1
    have h2 : DataW.trod enc Tryz.prog w 0 spare held n 3 (([a0, a1, a2, a3, a4, a5, a6, a7, a8, a9, a10, a11, a12, a13, a14, a15, a16, a17, a18, a19, a20, a21, a22, a23, a24].drop 2).take (Tryz.prog.cellsOf 3)) = some y2 := hx 2 _ rfl
    rw [cellsI] at h2
    obtain ⟨v2, e2, _, w2⟩ := DataW.trod_int Tryz.underlying3 h2
    have h3 : DataW.trod enc Tryz.prog w 0 spare held n 33 (([a0, a1, a2, a3, a4, a5, a6, a7, a8, a9, a10, a11, a12, a13, a14, a15, a16, a17, a18, a19, a20, a21, a22, a23, a24].drop 3).take (Tryz.prog.cellsOf 33)) = some y3 := hx 3 _ rfl
    rw [cellsT] at h3
    obtain ⟨v3, w3⟩ := open_T n _ _ h3
    have h4 : DataW.trod enc Tryz.prog w 0 spare held n 33 (([a0, a1, a2, a3, a4, a5, a6, a7, a8, a9, a10, a11, a12, a13, a14, a15, a16, a17, a18, a19, a20, a21, a22, a23, a24].drop 8).take (Tryz.prog.cellsOf 33)) = some y4 := hx 4 _ rfl
    rw [cellsT] at h4
    obtain ⟨v4, w4⟩ := open_T n _ _ h4
    have h5 : DataW.trod enc Tryz.prog w 0 spare held n 3 (([a0, a1, a2, a3, a4, a5, a6, a7, a8, a9, a10, a11, a12, a13, a14, a15, a16, a17, a18, a19, a20, a21, a22, a23, a24].drop 13).take (Tryz.prog.cellsOf 3)) = some y5 := hx 5 _ rfl
    rw [cellsI] at h5
    obtain ⟨v5, e5, _, w5⟩ := DataW.trod_int Tryz.underlying3 h5
    have h6 : DataW.trod enc Tryz.prog w 0 spare held n 9 (([a0, a1, a2, a3, a4, a5, a6, a7, a8, a9, a10, a11, a12, a13, a14, a15, a16, a17, a18, a19, a20, a21, a22, a23, a24].drop 14).take (Tryz.prog.cellsOf 9)) = some y6 := hx 6 _ rfl
    rw [cellsS] at h6
    obtain ⟨v6, e6, _, w6⟩ := DataW.trod_string Tryz.underlying9 h6
    have h7 : DataW.trod enc Tryz.prog w 0 spare held n 9 (([a0, a1, a2, a3, a4, a5, a6, a7, a8, a9, a10, a11, a12, a13, a14, a15, a16, a17, a18, a19, a20, a21, a22, a23, a24].drop 15).take (Tryz.prog.cellsOf 9)) = some y7 := hx 7 _ rfl
    rw [cellsS] at h7
    obtain ⟨v7, e7, _, w7⟩ := DataW.trod_string Tryz.underlying9 h7
    have h8 : DataW.trod enc Tryz.prog w 0 spare held n 3 (([a0, a1, a2, a3, a4, a5, a6, a7, a8, a9, a10, a11, a12, a13, a14, a15, a16, a17, a18, a19, a20, a21, a22, a23, a24].drop 16).take (Tryz.prog.cellsOf 3)) = some y8 := hx 8 _ rfl
    rw [cellsI] at h8
    obtain ⟨v8, e8, _, w8⟩ := DataW.trod_int Tryz.underlying3 h8
    have h9 : DataW.trod enc Tryz.prog w 0 spare held n 3 (([a0, a1, a2, a3, a4, a5, a6, a7, a8, a9, a10, a11, a12, a13, a14, a15, a16, a17, a18, a19, a20, a21, a22, a23, a24].drop 17).take (Tryz.prog.cellsOf 3)) = some y9 := hx 9 _ rfl
    rw [cellsI] at h9
    obtain ⟨v9, e9, _, w9⟩ := DataW.trod_int Tryz.underlying3 h9
    have h10 : DataW.trod enc Tryz.prog w 0 spare held n 3 (([a0, a1, a2, a3, a4, a5, a6, a7, a8, a9, a10, a11, a12, a13, a14, a15, a16, a17, a18, a19, a20, a21, a22, a23, a24].drop 18).take (Tryz.prog.cellsOf 3)) = some y10 := hx 10 _ rfl
    rw [cellsI] at h10
    obtain ⟨v10, e10, _, w10⟩ := DataW.trod_int Tryz.underlying3 h10
    have h11 : DataW.trod enc Tryz.prog w 0 spare held n 3 (([a0, a1, a2, a3, a4, a5, a6, a7, a8, a9, a10, a11, a12, a13, a14, a15, a16, a17, a18, a19, a20, a21, a22, a23, a24].drop 19).take (Tryz.prog.cellsOf 3)) = some y11 := hx 11 _ rfl
    rw [cellsI] at h11
    obtain ⟨v11, e11, _, w11⟩ := DataW.trod_int Tryz.underlying3 h11
    have h12 : DataW.trod enc Tryz.prog w 0 spare held n 3 (([a0, a1, a2, a3, a4, a5, a6, a7, a8, a9, a10, a11, a12, a13, a14, a15, a16, a17, a18, a19, a20, a21, a22, a23, a24].drop 20).take (Tryz.prog.cellsOf 3)) = some y12 := hx 12 _ rfl
    rw [cellsI] at h12
    obtain ⟨v12, e12, _, w12⟩ := DataW.trod_int Tryz.underlying3 h12
    have h13 : DataW.trod enc Tryz.prog w 0 spare held n 3 (([a0, a1, a2, a3, a4, a5, a6, a7, a8, a9, a10, a11, a12, a13, a14, a15, a16, a17, a18, a19, a20, a21, a22, a23, a24].drop 21).take (Tryz.prog.cellsOf 3)) = some y13 := hx 13 _ rfl
    rw [cellsI] at h13
    obtain ⟨v13, e13, _, w13⟩ := DataW.trod_int Tryz.underlying3 h13
    have h14 : DataW.trod enc Tryz.prog w 0 spare held n 34 (([a0, a1, a2, a3, a4, a5, a6, a7, a8, a9, a10, a11, a12, a13, a14, a15, a16, a17, a18, a19, a20, a21, a22, a23, a24].drop 22).take (Tryz.prog.cellsOf 34)) = some y14 := hx 14 _ rfl
    rw [cellsSR] at h14
    obtain ⟨A14, v14, c14, e14, w14, s14⟩ := open_SR h14
    have h15 : DataW.trod enc Tryz.prog w 0 spare held n 3 (([a0, a1, a2, a3, a4, a5, a6, a7, a8, a9, a10, a11, a12, a13, a14, a15, a16, a17, a18, a19, a20, a21, a22, a23, a24].drop 23).take (Tryz.prog.cellsOf 3)) = some y15 := hx 15 _ rfl
    rw [cellsI] at h15
    obtain ⟨v15, e15, _, w15⟩ := DataW.trod_int Tryz.underlying3 h15
    have h16 : DataW.trod enc Tryz.prog w 0 spare held n 4 (([a0, a1, a2, a3, a4, a5, a6, a7, a8, a9, a10, a11, a12, a13, a14, a15, a16, a17, a18, a19, a20, a21, a22, a23, a24].drop 24).take (Tryz.prog.cellsOf 4)) = some y16 := hx 16 _ rfl
    rw [cellsB] at h16
    obtain ⟨v16, e16, _⟩ := DataW.trod_bool Tryz.underlying4 h16
    cases e0; cases e1; cases e2; cases e5; cases e6; cases e7; cases e8; cases e9; cases e10; cases e11; cases e12; cases e13; cases e14; cases e15; cases e16
    exact ⟨⟨v0, v1, v2, v3, v4, v5, v6, v7, v8, v9, v10, v11, v12, v13, v14, v15, v16⟩, [a3, a4, a5, a6, a7], [a8, a9, a10, a11, a12], A14, c14, rfl, w3, w4, s14, w14, wf8 w0, str63 w1, wf64 w2, wf64 w5, str63 w6, str63 w7, wf64 w8, wf64 w9, wf64 w10, wf64 w11, wf64 w12, wf64 w13, wf64 w15⟩
theorem open_SI {fuel : Nat} {cs : List Value} {x : DataW H × List MemPlace} (h : DataW.trod enc Tryz.prog w 0 spare held fuel 22 cs = some x) : ∃ (A : Option Addr) (l : List Inf) (c : Nat), cs = [.slice A l.length c] ∧ lenOk l.length c ∧ Sl encInf w (fun _ => True) A l := by
  rcases DataW.trod_slice Tryz.underlying22 h with ⟨rfl, _⟩ | ⟨a, len, cap, elems, rest, n, hf, rfl, _, _, hle, hc, hlen, he, _⟩
  · exact ⟨none, [], 0, rfl, ⟨Nat.le_refl 0, by decide⟩, Sl.nil _ _ _ _⟩
  have key : ∀ i, i < len → ∃ tc : Inf × List Value, RowAt w (a.add (i * 25)) tc.2 ∧ VI w (fun _ => True) tc.2 tc.1 := by
    intro i hi
    have h1 := he i hi
    rw [cellsInf, List.getElem?_eq_getElem (by omega)] at h1
    obtain ⟨c, h2, h3⟩ := Option.bind_eq_some_iff.1 h1
    obtain ⟨t, ht⟩ := open_I h3
    exact ⟨(t, c), (cells_row h2).2, ht⟩
  have hL : (List.ofFn fun i : Fin len => (key i.1 i.2).choose.1).length = len := by simp
  refine ⟨some a, List.ofFn fun i : Fin len => (key i.1 i.2).choose.1, cap, by rw [hL], by rw [hL]; exact ⟨hle, hc⟩, fun i t hl => ?_⟩
  obtain ⟨hi, rfl⟩ := List.getElem?_eq_some_iff.1 hl
  rw [hL] at hi
  rw [List.getElem_ofFn]
  exact ⟨a, _, rfl, trivial, (key i hi).choose_spec.1, (key i hi).choose_spec.2⟩
end
end Go.Proofs.YtfljbnhhkdaobaaGreat

/-
  Slices of what an opener opens, out of what a call was handed; slices of strings.
-/
namespace Go.Proofs.YtfljbnhhkdaobaaGreat
open Go Go.ChangeShapes Go.WideShapes Go.ChangeAt Go.RowKit Go.Proofs.Bw
theorem str63E {s : ByteArray} (h : s.size ≤ maxLen) : s.size ≤ 9223372036854775807 := by have h1 : maxLen = 9223372036854775807 := rfl; omega
section
variable {H : Type} {enc : TypeId × Value → H} {w : World} {spare : Nat → Bool} {held : Bool}
theorem open_E {α : Type} (E : Enc α) {ts te : TypeId} (hu : Tryz.prog.underlying ts = some (.slice te)) (hce : Tryz.prog.cellsOf te = E.sz) {fuel : Nat}
    (he : ∀ n, n < fuel → ∀ (c : List Value) (x : DataW H × List MemPlace), DataW.trod enc Tryz.prog w 0 spare held n te c = some x → ∃ a : α, E.rep w (fun _ => True) c a)
    {cs : List Value} {x : DataW H × List MemPlace} (h : DataW.trod enc Tryz.prog w 0 spare held fuel ts cs = some x) :
    ∃ (A : Option Addr) (l : List α) (c : Nat), cs = [.slice A l.length c] ∧ lenOk l.length c ∧ Sl E w (fun _ => True) A l := by
  rcases DataW.trod_slice hu h with ⟨rfl, _⟩ | ⟨a, len, cap, elems, rest, n, hf, rfl, _, _, hle, hc, hlen, hg, _⟩
  · exact ⟨none, [], 0, rfl, ⟨Nat.le_refl 0, by decide⟩, Sl.nil _ _ _ _⟩
  have key : ∀ i, i < len → ∃ tc : α × List Value, RowAt w (a.add (i * E.sz)) tc.2 ∧ E.rep w (fun _ => True) tc.2 tc.1 := by
    intro i hi
    have h1 := hg i hi
    rw [hce, List.getElem?_eq_getElem (by omega)] at h1
    obtain ⟨c, h2, h3⟩ := Option.bind_eq_some_iff.1 h1
    obtain ⟨t, ht⟩ := he n (by omega) c _ h3
    exact ⟨(t, c), (cells_row h2).2, ht⟩
  have hL : (List.ofFn fun i : Fin len => (key i.1 i.2).choose.1).length = len := by simp
  refine ⟨some a, List.ofFn fun i : Fin len => (key i.1 i.2).choose.1, cap, by rw [hL], by rw [hL]; exact ⟨hle, hc⟩, fun i t hl => ?_⟩
  obtain ⟨hi, rfl⟩ := List.getElem?_eq_some_iff.1 hl
  rw [hL] at hi
  rw [List.getElem_ofFn]
  exact ⟨a, _, rfl, trivial, (key i hi).choose_spec.1, (key i hi).choose_spec.2⟩
theorem open_SS {fuel : Nat} {cs : List Value} {x : DataW H × List MemPlace} (h : DataW.trod enc Tryz.prog w 0 spare held fuel 28 cs = some x) :
    ∃ (A : Option Addr) (l : List ByteArray) (c : Nat), cs = [.slice A l.length c] ∧ lenOk l.length c ∧ Sl encS w (fun _ => True) A l :=
  open_E encS Tryz.underlying28 cellsS (fun n _ c x hx => by
    obtain ⟨v, e, _, hw⟩ := DataW.trod_string Tryz.underlying9 hx
    exact ⟨v, e, str63E hw⟩) h
end
end Go.Proofs.YtfljbnhhkdaobaaGreat
