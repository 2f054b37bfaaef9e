/-
  Put where there is no cache; terms that are numbers or names; the chapter's example.
-/
import Derived.Test.YtmibjillclfogaaDoorC9
import Derived.Test.YtmibjillclfogaaDoorFns2
namespace Go.Proofs.YtmibjillclfogaaDoor
open Go Go.RowKit Go.Proofs.Bw
set_option linter.unusedVariables false
set_option linter.unusedSimpArgs false

set_option maxRecDepth 20000 in
theorem PutN_runs {B : Nat} (a b : T) (ca cb : List Value) (w : World) (R : Nat → Prop) (hva : VT w R ca a) (hvb : VT w R cb b) (hT : Tb B w) (hB : B ≤ w.heap.size) :
    Runs Tryd.prog 12 #[.pointer none, .agg ca.toArray, .agg cb.toArray] w fun v w' => v = .tuple #[] ∧ Ext w w' := by
  obtain ⟨k, n, s, ls, ts, la, lc, ta, tc, ea, rfl, -⟩ := hva.inv
  obtain ⟨k', n', s', ls', ts', la', lc', ta', tc', eb, rfl, -⟩ := hvb.inv
  refine Runs.of_vc (ρ := []) cx_ok [0, 1, 2, 4, 5, 6, 7, 19, 25, 59] [.v (.pointer none), .a [.v (.int .u8 k), .v (.int .i64 n), .v (.string s), .v (.slice la ls.length lc), .v (.slice ta ts.length tc)], .a [.v (.int .u8 k'), .v (.int .i64 n'), .v (.string s'), .v (.slice la' ls'.length lc'), .v (.slice ta' ts'.length tc')]] Tryd.func12 rfl rfl rfl (Holds.nil w) ?_
  intro g1 w1 e1 x1 z1 hh1
  intro g2 w2 e2 x2 z2 hh2
  have y2 := x1.trans x2
  refine vcS (of_runs a b _ _ w2 R (hva.ext y2) (hvb.ext y2) (hT.ext y2 hB) (by have := y2.size; omega)) hh2 fun w3 x3 hh3 => ?_
  intro g3 w4 e4 x4 z4 hh4
  intro w5 m5 z5 hh5
  replace m5 : Upd g3 w4 w5 := m5
  have y5 : Ext w w5 := ((y2.trans x3).trans x4).upd m5 (by have := (y2.trans x3).size; omega)
  refine And.intro (fun h => ?_) (fun h => ?_)
  · exact ⟨rfl, y5⟩
  · simp [sel] at h
def Vt (n : Int) : T := .mk 2 n ⟨#[]⟩ [] []
def Ct (s : ByteArray) : T := .mk 3 0 s [] []
def cVt (n : Int) : List Value := [.int .u8 2, .int .i64 n, .string ⟨#[]⟩, .slice none 0 0, .slice none 0 0]
def cCt (s : ByteArray) : List Value := [.int .u8 3, .int .i64 0, .string s, .slice none 0 0, .slice none 0 0]
theorem VT_V (w : World) (R : Nat → Prop) (n : Int) (hn : i64ok n) : VT w R (cVt n) (Vt n) :=
  VT.intro (ls := []) (ts := []) (lc := 0) (tc := 0) (by omega) hn (by decide) (by unfold lenOk; simp) (by unfold lenOk; simp) (SlL.nil _ _ _) (SlT.nil _ _ _)
theorem VT_C (w : World) (R : Nat → Prop) (s : ByteArray) (hs : s.size ≤ 9223372036854775807) : VT w R (cCt s) (Ct s) :=
  VT.intro (ls := []) (ts := []) (lc := 0) (tc := 0) (by omega) (by unfold i64ok; omega) hs (by unfold lenOk; simp) (by unfold lenOk; simp) (SlL.nil _ _ _) (SlT.nil _ _ _)
theorem mayV {n : Int} (h : 0 ≤ n ∧ n ≤ 1048576) : mayT (Vt n) = true := by
  simp [mayT, mayB, Vt, nodes, nodeB, nodess, size, sizes, depth, depths, kidsI, h]
  rfl
theorem mayC {s : ByteArray} (h : nameB s = true) : mayT (Ct s) = true := by
  simp [mayT, mayB, Ct, nodes, nodeB, nodess, size, sizes, depth, depths, kidsI, h]
/-- the pair of two numbers -/
def pv (a b : Int) : SP := prT (Vt a) (Vt b)
theorem pv_iff {a b c d : Int} (ha : 0 ≤ a ∧ a ≤ 1048576) (hb : 0 ≤ b ∧ b ≤ 1048576) (hc : 0 ≤ c ∧ c ≤ 1048576) (hd : 0 ≤ d ∧ d ≤ 1048576) : pv a b = pv c d ↔ (a = c ∧ b = d) ∨ (a = d ∧ b = c) := by
  unfold pv
  rw [prT_iff (mayV ha) (mayV hb) (mayV hc) (mayV hd)]
  simp [Vt]
theorem pc_iff {a b c d : ByteArray} (ha : nameB a = true) (hb : nameB b = true) (hc : nameB c = true) (hd : nameB d = true) : prT (Ct a) (Ct b) = prT (Ct c) (Ct d) ↔ (a = c ∧ b = d) ∨ (a = d ∧ b = c) := by
  rw [prT_iff (mayC ha) (mayC hb) (mayC hc) (mayC hd)]
  simp [Ct]
theorem Ch.put_may {q : Ch} {a b : T} (ha : mayT a = true) (hb : mayT b = true) : q.put a b = ⟨q.most, putL q.most (prT a b) q.l⟩ := by
  unfold Ch.put; rw [if_pos ⟨ha, hb⟩]
theorem ChAt.size {w : World} {lo g : Nat} {q : Ch} {own : Nat → Prop} (h : ChAt w lo g q own) : lo ≤ w.heap.size := by
  obtain ⟨A, c, m, ents, b, o, hm, kt, _, _, _, hg, _⟩ := h
  have := b.lt; omega
theorem Tb.own {B lo g : Nat} {w w' : World} {own : Nat → Prop} (h : Tb B w) (hm : Bw.Mod own w w') (hl : ∀ k, own k → lo ≤ k) (hB : B ≤ lo) (hlo : lo ≤ w.heap.size) : Tb B w' := h.mod hm (fun k hk => by have := hl k hk; omega) (by omega)
theorem Ext.own {S : Nat → Prop} {a b c : World} (h : Ext a b) (k : Bw.Mod S b c) (hs : ∀ i, S i → a.heap.size ≤ i) : Ext a c := h.trans' k fun i hi h => by have := hs i h; omega
theorem putL_nil (m : Nat) (p : SP) (h : 1 ≤ m) : putL m p [] = [p] := by simp [putL]; omega
theorem putL_one {p q : SP} (h : p ≠ q) : putL 1 p [q] = [p] := by simp [putL, h]
theorem putL_ok {m : Nat} {p : SP} {l : List SP} (h : l.length ≤ m) (hm : 1 ≤ m) : (putL m p l).length ≤ m := by
  have hl : (flt p l).length ≤ l.length := List.length_filter_le _ _
  simp only [putL, flt_if]
  split
  · rw [List.length_drop, List.length_append, List.length_cons, List.length_nil]; omega
  · omega
abbrev nA : ByteArray := ⟨#[97]⟩
abbrev nB : ByteArray := ⟨#[98]⟩
abbrev nC : ByteArray := ⟨#[99]⟩
theorem nm3 : nameB nA = true ∧ nameB nB = true ∧ nameB nC = true := ⟨by decide +kernel, by decide +kernel, by decide +kernel⟩
set_option maxRecDepth 20000 in
set_option maxHeartbeats 1000000 in
theorem works_runs {B : Nat} (w : World) (hT : Tb B w) (hB : B ≤ w.heap.size) : Runs Tryd.prog 8 #[] w fun v w' => v = .bool true ∧ Ext w w' := by
  have ma := mayC nm3.1
  have mb := mayC nm3.2.1
  have mc := mayC nm3.2.2
  refine Runs.of_vc cx_ok [0, 1, 2, 3, 5, 15] [] Tryd.func8 rfl rfl rfl (Holds.nil _) ?_
  refine vcE (New_runs 1 w) (Holds.nil _) ?_
  rintro _ w1 x1 hh1 ⟨hy, -⟩
  obtain ⟨g, own, rfl, hg, h1, ho⟩ := hy (by omega)
  refine And.intro (fun h => by simp [sel] at h) (fun _ => ?_)
  refine vcS (lC_runs nA w1) (Holds.nil _) fun w2 x2 hh2 => ?_
  refine vcS (lC_runs nB w2) (Holds.nil _) fun w3 x3 hh3 => ?_
  have y3 := x1.trans (x2.trans x3)
  refine (Put_runs g ⟨1, []⟩ own (Ct nA) (Ct nB) (cCt nA) (cCt nB) w3 (fun _ => False) (h1.ext (x2.trans x3)) ⟨by decide, by decide, by decide, List.nodup_nil⟩ (VT_C _ _ _ (by decide)) (VT_C _ _ _ (by decide)) (hT.ext y3 hB) (by have := y3.size; omega) (by have := y3.size; omega)).mono ?_
  rintro _ w4 ⟨rfl, own4, h4, m4, f4⟩
  rw [Ch.put_may ma mb] at h4
  refine Lands.v (Holds.nil _) ?_
  rw [putL_nil 1 _ (by omega)] at h4
  have o4 : ∀ k, own4 k → w.heap.size ≤ k := fun k hk => by rcases f4 k hk with h | h; exact ho k h; have := y3.size; omega
  have y4 : Ext w w4 := Ext.own y3 m4 ho
  have n1 : prT (Ct nB) (Ct nA) = prT (Ct nA) (Ct nB) := (pc_iff nm3.2.1 nm3.1 nm3.1 nm3.2.1).2 (.inr ⟨rfl, rfl⟩)
  have n2 : prT (Ct nA) (Ct nC) ≠ prT (Ct nA) (Ct nB) := fun h => by
    rcases (pc_iff nm3.1 nm3.2.2 nm3.1 nm3.2.1).1 h with ⟨_, h⟩ | ⟨h, _⟩
    · revert h; decide
    · revert h; decide
  refine vcS (lC_runs nB w4) (Holds.nil _) fun w5 x5 hh5 => ?_
  refine vcS (lC_runs nA w5) (Holds.nil _) fun w6 x6 hh6 => ?_
  have y6 := y4.trans (x5.trans x6)
  have c6 := Has_runs g _ own4 (Ct nB) (Ct nA) (cCt nB) (cCt nA) w6 (fun _ => False) (h4.ext (x5.trans x6)) (VT_C _ _ _ (by decide)) (VT_C _ _ _ (by decide)) (hT.ext y6 hB) (by have := y6.size; omega)
  rw [ma, mb, n1, show (true && true && decide (prT (Ct nA) (Ct nB) ∈ [prT (Ct nA) (Ct nB)])) = true by simp] at c6
  refine vcS c6 (Holds.nil _) fun w7 x7 hh7 => ?_
  refine vcS (lC_runs nA w7) (Holds.nil _) fun w8 x8 hh8 => ?_
  refine vcS (lC_runs nC w8) (Holds.nil _) fun w9 x9 hh9 => ?_
  have x79 := x5.trans (x6.trans (x7.trans (x8.trans x9)))
  have y9 := y4.trans x79
  refine (Put_runs g ⟨1, [prT (Ct nA) (Ct nB)]⟩ own4 (Ct nA) (Ct nC) (cCt nA) (cCt nC) w9 (fun _ => False) (h4.ext x79) ⟨by decide, by decide, by simp, by simp⟩ (VT_C _ _ _ (by decide)) (VT_C _ _ _ (by decide)) (hT.ext y9 hB) (by have := y9.size; omega) (by have := y9.size; omega)).mono ?_
  rintro _ w10 ⟨rfl, own10, h10, m10, f10⟩
  rw [Ch.put_may ma mc] at h10
  refine Lands.v (Holds.nil _) ?_
  rw [putL_one n2] at h10
  have o10 : ∀ k, own10 k → w.heap.size ≤ k := fun k hk => by rcases f10 k hk with h | h; exact o4 k h; have := y9.size; omega
  have y10 : Ext w w10 := Ext.own y9 m10 o4
  refine vcE (New_runs 0 w10) (Holds.nil _) ?_
  rintro _ w11 x11 hh11 ⟨-, hn⟩
  obtain rfl := hn (by omega)
  refine vyes rfl ?_
  refine vcS (lC_runs nA w11) (Holds.nil _) fun w12 x12 hh12 => ?_
  refine vyes rfl ?_
  refine vcS (lC_runs nB w12) (Holds.nil _) fun w13 x13 hh13 => ?_
  have x1013 := x11.trans (x12.trans x13)
  have y13 := y10.trans x1013
  have c13 := Has_runs g _ own10 (Ct nA) (Ct nB) (cCt nA) (cCt nB) w13 (fun _ => False) (h10.ext x1013) (VT_C _ _ _ (by decide)) (VT_C _ _ _ (by decide)) (hT.ext y13 hB) (by have := y13.size; omega)
  rw [ma, mb, show (true && true && decide (prT (Ct nA) (Ct nB) ∈ [prT (Ct nA) (Ct nC)])) = false by simp [n2.symm]] at c13
  refine vyes rfl ?_
  refine vcS c13 (Holds.nil _) fun w14 x14 hh14 => ?_
  refine vyes rfl ?_
  refine vcS (lC_runs nA w14) (Holds.nil _) fun w15 x15 hh15 => ?_
  refine vyes rfl ?_
  refine vcS (lC_runs nC w15) (Holds.nil _) fun w16 x16 hh16 => ?_
  have x1016 := x1013.trans (x14.trans (x15.trans x16))
  have y16 := y10.trans x1016
  have c16 := Has_runs g _ own10 (Ct nA) (Ct nC) (cCt nA) (cCt nC) w16 (fun _ => False) (h10.ext x1016) (VT_C _ _ _ (by decide)) (VT_C _ _ _ (by decide)) (hT.ext y16 hB) (by have := y16.size; omega)
  rw [ma, mc, show (true && true && decide (prT (Ct nA) (Ct nC) ∈ [prT (Ct nA) (Ct nC)])) = true by simp] at c16
  refine vyes rfl ?_
  refine vcS c16 (Holds.nil _) fun w17 x17 hh17 => ?_
  refine vyes rfl ?_
  refine vcS (Len_runs g _ own10 w17 (h10.ext (x1016.trans x17))) (Holds.nil _) fun w18 x18 hh18 => ?_
  exact ⟨rfl, y16.trans (x17.trans x18)⟩
end Go.Proofs.YtmibjillclfogaaDoor

