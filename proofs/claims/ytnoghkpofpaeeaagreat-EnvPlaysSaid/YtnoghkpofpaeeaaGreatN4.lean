/-
  The names of a term.
-/
import Derived.Test.YtnoghkpofpaeeaaGreatN3
namespace Go.Proofs.YtnoghkpofpaeeaaGreat
open Go Go.RowKit Go.Proofs.Bw
set_option linter.unusedVariables false
set_option linter.unusedSimpArgs false

def nmsT (t : T) : List (List UInt8) := if mayT t = true then Lib.compact (srt (names t)) else []
theorem Names_runs (t : T) (cs : List Value) (w : World) (R : Nat → Prop) (hv : VT w R cs t) :
    Runs Tryz.prog 37 #[.agg cs.toArray] w fun v w' => Ext w w' ∧ ∃ A c, v = .slice A (nmsT t).length c ∧ OwnR w' w.heap.size 9 1 A c (zR (nmsT t)) := by
  have hvs := hv.small
  obtain ⟨k, n, s, ls, ts, la, lc, ta, tc, et, rfl, -⟩ := hv.inv
  refine Runs.of_vc (ρ := []) cx_ok [0, 1, 2, 5] [.a [.v (.int .u8 k), .v (.int .i64 n), .v (.string s), .v (.slice la ls.length lc), .v (.slice ta ts.length tc)]] Tryz.func37 rfl rfl rfl (Holds.nil w) ?_
  intro g1 w1 e1 x1 z1 hh1
  intro g2 w2 e2 x2 z2 hh2
  refine vcS (may_runs t _ w2 R (hv.ext (x1.trans x2))) hh2 fun w3 x3 hh3 => ?_
  have y3 := (x1.trans x2).trans x3
  have s3 := x3.size
  refine Or.inl (And.intro (fun h => ?_) (fun h => ?_))
  · have hm : mayT t = false := by simpa using h
    have en : nmsT t = [] := by unfold nmsT; rw [hm]; rfl
    intro w4 m4 z4 hh4
    replace m4 : Upd g2 w3 w4 := m4
    rw [en]
    exact ⟨y3.upd m4 (by omega), none, 0, rfl, OwnR.nil _ _ _ _⟩
  · have hm : mayT t = true := by simpa using h
    have en : nmsT t = Lib.compact (srt (names t)) := by unfold nmsT; rw [if_pos hm]
    have hms := may_size hm
    have hmd := may_depth hm
    have hnl := names_len t
    refine (each_names (lo := w2.heap.size) t _ 0 g2 none 0 [] w3 _ (hvs.ext y3) (fun k hk => by have := hk.2; omega) (by omega) s3 (by omega) (by simp only [List.length_nil]; omega) ⟨hh3.box 1 _ rfl, OwnR.nil _ _ _ _⟩).mono ?_
    rintro _ w4 ⟨rfl, A, c, g4, m4, f4⟩
    rw [List.nil_append] at g4
    have b1 : Box w4 g1 [.int .u8 k, .int .i64 n, .string s, .slice la ls.length lc, .slice ta ts.length tc] := (hh3.box 0 _ rfl).mod m4 (by
      rintro (h1 | ⟨a, ha, _⟩)
      · have h2 : g1 = g2 := h1; omega
      · cases ha)
    refine Lands.to (H' := [(0, [.v (.int .u8 k), .v (.int .i64 n), .v (.string s), .v (.slice la ls.length lc), .v (.slice ta ts.length tc)]), (1, [.v (.slice A (names t).length c)])]) (s := .v _) rfl rfl hh3 m4.size ⟨b1, g4.1, trivial⟩ rfl fun hh4 => ?_
    have hA : ∀ k, ownOf A k → w3.heap.size ≤ k := fun k hk => by
      rcases f4 k hk with ⟨a, ha, _⟩ | h1
      · cases ha
      · exact h1
    have y4 : Ext w w4 := y3.trans' m4 fun i hi hS => by
      rcases hS with h1 | ⟨a, ha, _⟩
      · omega
      · cases ha
    refine (Sort_runs A c (names t) w4 g4.2 (by omega)).mono ?_
    rintro _ w5 ⟨rfl, o5, m5⟩
    have keep : ∀ {w5 w6 : World} {H : Heap}, Holds [g1, g2] H w5 → Bw.Mod (ownOf A) w5 w6 → Holds [g1, g2] H w6 := fun hh m => hh.mod m (fun i hi h1 => by
      have h2 := hA _ h1
      match i, hi with
      | 0, _ => have h3 : w3.heap.size ≤ g1 := h2; omega
      | 1, _ => have h3 : w3.heap.size ≤ g2 := h2; omega)
    have ownx : ∀ {w5 w6 : World}, Ext w w5 → Bw.Mod (ownOf A) w5 w6 → Ext w w6 := fun hx m => hx.trans' m fun i hi h1 => by
      have h2 := hA _ h1; have := y3.size; omega
    have hh5 := keep hh4 m5
    have y5 := ownx y4 m5
    refine Lands.v hh5 ?_
    have hC := Compact_runs A c (srt (names t)) w5 o5 (by rw [srt_len]; omega)
    rw [srt_len] at hC
    refine hC.mono ?_
    rintro _ w6 ⟨rfl, o6, m6⟩
    have hh6 := keep hh5 m6
    have y6 := ownx y5 m6
    refine Lands.v hh6 ?_
    intro w7 m7 z7 hh7
    replace m7 : Upd g2 w6 w7 := m7
    rw [en]
    exact ⟨y6.upd m7 (by have := x1.size; omega), A, c, rfl, (o6.upd m7 (by omega)).lower (by have := (x1.trans x2).size; omega)⟩
end Go.Proofs.YtnoghkpofpaeeaaGreat

