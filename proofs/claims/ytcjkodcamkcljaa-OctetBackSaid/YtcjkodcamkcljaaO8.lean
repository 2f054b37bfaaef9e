/-
  The anchor of layer 1.
-/
import Derived.Test.YtcjkodcamkcljaaO7
namespace Go.Proofs.Ytcjkodcamkcljaa
open Go Go.RowKit Go.Proofs.Bw
set_option linter.unusedVariables false
set_option linter.unusedSimpArgs false

theorem num7_0 : num7 0 = [0] := by rw [num7_lt (by omega)]; rfl
theorem num7_7 : num7 7 = [7] := by rw [num7_lt (by omega)]; rfl
theorem num7_300 : num7 300 = [172, 2] := by rw [num7_ge (by omega), num7_lt (by omega)]; rfl
theorem rbNil (w : World) (R : Nat → Prop) : RB w R (.slice none 0 0) [] := ⟨none, 0, rfl, ⟨Nat.le_refl _, by omega⟩, Rd.nil _ _ _ _⟩
theorem OwnR.rb' {w : World} {lo el c : Nat} {A : Option Addr} {bs : List UInt8} (h : OwnR w lo el 1 A c (bR bs)) : RB w (fun k => lo ≤ k ∧ k < w.heap.size) (.slice A bs.length c) bs := by
  have := h.le
  rw [bR_length] at this
  exact ⟨A, c, rfl, this, h.rd⟩
theorem Put_lit (l : List UInt8) (n : Nat) (h : num7 n = l) (hn : n < 2 ^ 64) (w : World) :
    Runs Try.prog 10 #[.slice none 0 0, .int .u64 n] w fun v w' => Ext w w' ∧ OB w' w.heap.size v l := by
  have := Put_runs (.slice none 0 0) [] n hn w (rbNil _ fun _ => True) (by decide)
  rwa [h] at this
theorem PutName_ok (s : ByteArray) (l : List UInt8) (h : nameB s = true) (hl : [] ++ num7 s.size ++ s.data.toList = l) (hsz : s.size ≤ 1000000) (w : World) :
    Runs Try.prog 11 #[.slice none 0 0, .string s] w fun v w' => Ext w w' ∧ ∃ A c, v = .tuple #[.slice A l.length c, .int .i64 0] ∧ OwnR w' w.heap.size 5 1 A c (bR l) := by
  refine (PutName_runs (.slice none 0 0) [] s hsz w (rbNil _ fun _ => True) (by decide)).mono ?_
  rintro v w' ⟨x, v1, rfl, p, _⟩
  obtain ⟨A, c, rfl, o⟩ := p h
  rw [hl] at o
  exact ⟨x, A, c, by rw [h, hl]; rfl, o⟩
theorem PutName_no (s : ByteArray) (h : nameB s = false) (hsz : s.size ≤ 1000000) (w : World) :
    Runs Try.prog 11 #[.slice none 0 0, .string s] w fun v w' => v = .tuple #[.slice none 0 0, .int .i64 5] ∧ Ext w w' := by
  refine (PutName_runs (.slice none 0 0) [] s hsz w (rbNil _ fun _ => True) (by decide)).mono ?_
  rintro v w' ⟨x, v1, rfl, _, p⟩
  rw [p h, h]
  exact ⟨rfl, x⟩
theorem Number_lit {R : Nat → Prop} (g most : Nat) (r r' : Rdr) (x : Nat) (e : (r.read 0 fun bs => numR bs most 0) = (r', x)) (w : World) (h : RdrAt w R g r) (hR : ¬ R g) (hRl : ∀ k, R k → k < w.heap.size) (hr : r.ok) :
    Runs Try.prog 18 #[.pointer (some ⟨g, 0, none⟩), .int .u64 most] w fun v w' => v = .int .u64 x ∧ Upd g w w' ∧ RdrAt w' R g r' := by
  have := Number_runs g most r w h hR hRl hr
  rwa [e] at this
theorem works_runs (w : World) : Runs Try.prog 8 #[] w fun v w' => v = .bool true ∧ Ext w w' := by
  refine Runs.of_vc cx_ok [0, 1, 2, 3, 4, 5, 6, 7, 9, 10, 11, 13, 23] [] Try.func8 rfl rfl rfl (Holds.nil _) ?_
  refine OpT.buildOwn (cs := #[.int .u8 172, .int .u8 2, .int .u8 128, .int .u8 0]) (css := bR [172, 2, 128, 0]) (.cons rfl (.cons rfl (.cons rfl (.cons rfl .nil)))) Try.underlying22 Try.sizeOf5 Try.zeroValue5 rfl (by kernel_rfl) rfl (bR_len _) rfl rfl fun w1 g1 e1 x1 z1 o1 => ?_
  refine Lands.v (Holds.nil _) ?_
  refine vcE (New_runs _ [172, 2, 128, 0] w1 (OwnR.rb' o1) (by decide)) (Holds.nil _) ?_
  rintro _ w2 x2 hh2 ⟨ga, rfl, ha, ra⟩
  refine OpT.buildOwn (cs := #[.int .u8 172, .int .u8 2]) (css := bR [172, 2]) (.cons rfl (.cons rfl .nil)) Try.underlying22 Try.sizeOf5 Try.zeroValue5 rfl (by kernel_rfl) rfl (bR_len _) rfl rfl fun w3 g3 e3 x3 z3 o3 => ?_
  refine Lands.v (Holds.nil _) ?_
  refine vcE (New_runs _ [172, 2] w3 (OwnR.rb' o3) (by decide)) (Holds.nil _) ?_
  rintro _ w4 x4 hh4 ⟨gb, rfl, hb, rb⟩
  have ra4 := ra.ext (x3.trans x4)
  have sa : ga < w2.heap.size := ra.choose_spec.choose_spec.1.lt
  have sb : gb < w4.heap.size := rb.choose_spec.choose_spec.1.lt
  have z12 := x1.size
  have z34 := x3.size
  refine And.intro (fun h => by simp [sel] at h) (fun _ => ?_)
  refine (Number_lit ga 300 ⟨[172, 2, 128, 0], 0, 0, 0⟩ ⟨[172, 2, 128, 0], 2, 0, 0⟩ 300 rfl w4 ra4 (by omega) (fun k hk => by have := x3.size; have := x4.size; omega) ⟨by decide, by decide⟩).mono ?_
  rintro _ w5 ⟨rfl, m5, ra5⟩
  refine Lands.v (Holds.nil _) ?_
  have rb5 := rb.upd m5 (by omega) (by omega)
  refine vcS (At_runs ga _ _ ra5) (Holds.nil _) fun w6 x6 hh6 => ?_
  refine (Number_lit ga 300 ⟨[172, 2, 128, 0], 2, 0, 0⟩ ⟨[172, 2, 128, 0], 2, 3, 2⟩ 0 rfl w6 (ra5.ext x6) (by omega) (fun k hk => by have := x3.size; have := x4.size; have := m5.size; have := x6.size; omega) ⟨by decide, by decide⟩).mono ?_
  rintro _ w7 ⟨rfl, m7, ra7⟩
  refine Lands.v (Holds.nil _) ?_
  have rb7 := (rb5.ext x6).upd m7 (by omega) (by omega)
  refine vcS (Bad_runs ga _ _ ra7) (Holds.nil _) fun w8 x8 hh8 => ?_
  refine (Number_lit gb 299 ⟨[172, 2], 0, 0, 0⟩ ⟨[172, 2], 0, 4, 0⟩ 0 rfl w8 (rb7.ext x8) (by omega) (fun k hk => by have := m5.size; have := x6.size; have := m7.size; have := x8.size; omega) ⟨by decide, by decide⟩).mono ?_
  rintro _ w9 ⟨rfl, m9, rb9⟩
  refine Lands.v (Holds.nil _) ?_
  refine vcS (Bad_runs gb _ _ rb9) (Holds.nil _) fun w10 x10 hh10 => ?_
  have y10 : Ext w w10 := (((((((x1.trans x2).trans (x3.trans x4)).upd m5 (by omega)).trans x6).upd m7 (by omega)).trans x8).upd m9 (by have := x2.size; omega)).trans x10
  refine vcE (PutName_ok ⟨#[78, 97, 116, 46, 114, 101, 99]⟩ [7, 78, 97, 116, 46, 114, 101, 99] (by decide +kernel) (by decide +kernel) (by decide) _) (Holds.nil _) ?_
  rintro _ w11 x11 hh11 ⟨A11, c11, rfl, o11⟩
  refine vcS (PutName_no ⟨#[97, 45, 98]⟩ (by decide +kernel) (by decide) _) (Holds.nil _) fun w12 x12 hh12 => ?_
  refine vcE (Put_lit [0] 0 num7_0 (by decide) _) (Holds.nil _) ?_
  rintro _ w13 x13 hh13 ⟨A13, c13, rfl, o13⟩
  refine OpT.bytesStr Try.underlying22 Try.underlying5 Try.underlying9 rfl o13.rd rfl ?_
  refine Lands.v (Holds.nil _) ?_
  refine vyes rfl ?_
  refine vcE (Put_lit [172, 2] 300 num7_300 (by decide) _) (Holds.nil _) ?_
  rintro _ w14 x14 hh14 ⟨A14, c14, rfl, o14⟩
  refine vyes rfl ?_
  refine OpT.bytesStr Try.underlying22 Try.underlying5 Try.underlying9 rfl o14.rd rfl ?_
  refine Lands.v (Holds.nil _) ?_
  refine vyes rfl ?_
  refine OpT.bytesStr Try.underlying22 Try.underlying5 Try.underlying9 rfl (((o11.ext x12).ext x13).ext x14).rd rfl ?_
  refine Lands.v (Holds.nil _) ?_
  refine vyes rfl ?_
  refine vcS (Name_runs ⟨#[97, 49]⟩ (by decide) _) (Holds.nil _) fun w15 x15 hh15 => ?_
  refine vyes rfl ?_
  refine vcS (Name_runs ⟨#[]⟩ (by decide) _) (Holds.nil _) fun w16 x16 hh16 => ?_
  have e1 : nameB ⟨#[97, 49]⟩ = true := by decide +kernel
  have e2 : nameB ⟨#[]⟩ = false := by decide +kernel
  have y16 := y10.trans (x11.trans (x12.trans (x13.trans (x14.trans (x15.trans x16)))))
  exact ⟨rfl, y16⟩
end Go.Proofs.Ytcjkodcamkcljaa

