/-
  OctetPuts of layer 1: any number, any text as a name; what is handed in stays.
-/
import Derived.Test.YtcjkodcamkcljaaO9
namespace Go.Proofs.Ytcjkodcamkcljaa
open Go Go.RowKit Go.Proofs.Bw
set_option linter.unusedVariables false
set_option linter.unusedSimpArgs false

def pnL (bs : List UInt8) (s : ByteArray) : List UInt8 := bif nameB s then bs ++ num7 s.size ++ s.data.toList else []
def pnE (s : ByteArray) : Int := bif nameB s then 0 else 5
theorem PN.rd {w : World} {lo : Nat} {v : Value} {bs : List UInt8} {s : ByteArray} (h : PN w lo v bs s) : ∃ A c, v = .tuple #[.slice A (pnL bs s).length c, .int .i64 (pnE s)] ∧ Rd w (fun k => lo ≤ k ∧ k < w.heap.size) 1 A (bR (pnL bs s)) := by
  obtain ⟨v1, rfl, ht, hf⟩ := h
  unfold pnL pnE
  cases hn : nameB s with
  | true =>
    obtain ⟨A, c, e, o⟩ := ht hn
    exact ⟨A, c, by rw [e]; rfl, o.rd⟩
  | false => exact ⟨none, 0, by rw [hf hn]; rfl, Rd.nil _ _ _ _⟩
theorem OctetPuts_runs {R : Nat → Prop} (b : Value) (bs : List UInt8) (n : Nat) (hn : n < 2 ^ 64) (s : ByteArray) (w : World) (hb : RB w R b bs) (hs : bs.length ≤ 140737488355328) (hss : s.size ≤ 140737488355328) :
    Runs Try.prog 3 #[b, .int .u64 n, .string s] w fun v w' => v = .bool true ∧ Ext w w' := by
  have hb0 := hb
  obtain ⟨A0, c0, rfl, hl0, hb1⟩ := hb
  refine Runs.of_vc cx_ok [0, 1, 2, 6, 7, 8, 9, 10, 11, 12, 18] [.v _, .v _, .v _] Try.func3 rfl rfl rfl (Holds.nil _) ?_
  refine vsd (by simp only [inKind]; omega) ?_
  refine And.intro (fun h => ?_) (fun h => ?_)
  · refine vcS (works_runs _) (Holds.nil _) fun w1 x1 hh1 => ?_
    exact ⟨rfl, x1⟩
  have hle := of_decide_eq_false h
  refine vcE (roomy_runs _ bs w hb0 (by omega)) (Holds.nil _) ?_
  rintro _ w1 x1 hh1 ⟨rfl, r1⟩
  refine vcE (Put_runs _ bs n hn w1 (r1.rb (by omega)) (by omega)) (Holds.nil _) ?_
  rintro _ w2 x2 hh2 ⟨A2, c2, rfl, o2⟩
  refine vcE (PutName_runs _ bs s (by omega) w2 ((r1.ext x2).rb (by omega)) (by omega)) (Holds.nil _) ?_
  rintro _ w3 x3 hh3 p3
  obtain ⟨A3, c3, rfl, d3⟩ := p3.rd
  refine vcE (rPutName_runs _ bs s (by omega) w3 (hb0.ext (x1.trans (x2.trans x3))) (by omega)) (Holds.nil _) ?_
  rintro _ w4 x4 hh4 p4
  obtain ⟨A4, c4, rfl, d4⟩ := p4.rd
  refine vDrw_mk [4, 21, 23, 29, 32] [0, 1, 2, 3, 4, 5, 6, 7, 8, 9, 10, 11, 12, 13, 14, 15, 16, 17, 18, 19, 20, 22, 21, 23, 24, 25, 26, 27, 28, 29, 30, 31, 32, 33, 34] rfl fun w5 x5 hh5 => ?_
  refine Exists.intro (.string (strOf (bs ++ num7 n))) (And.intro (fun w' x hh => OpT.bytesStr Try.underlying22 Try.underlying5 Try.underlying9 rfl (o2.ext (x3.trans (x4.trans (x5.trans x)))).rd rfl ⟨rfl, rfl⟩) ?_)
  refine vcE (rPut_runs _ bs n hn w5 (hb0.ext (x1.trans (x2.trans (x3.trans (x4.trans x5))))) (by omega)) (Holds.nil _) ?_
  rintro _ w6 x6 hh6 ⟨A6, c6, rfl, o6⟩
  refine And.intro x6 ?_
  refine Exists.intro (.string (strOf (bs ++ num7 n))) (And.intro (fun w' x hh => OpT.bytesStr Try.underlying22 Try.underlying5 Try.underlying9 rfl (o6.ext x).rd rfl ⟨rfl, rfl⟩) ?_)
  refine Exists.intro (.string (strOf (pnL bs s))) (And.intro (fun w' x hh _ => OpT.bytesStr Try.underlying22 Try.underlying5 Try.underlying9 rfl (d3.ext (x4.trans (x5.trans (x6.trans x)))) rfl ⟨rfl, rfl⟩) ?_)
  refine Exists.intro (.string (strOf (pnL bs s))) (And.intro (fun w' x hh _ => OpT.bytesStr Try.underlying22 Try.underlying5 Try.underlying9 rfl (d4.ext (x5.trans (x6.trans x))) rfl ⟨rfl, rfl⟩) ?_)
  refine vyes (by simp [sel]; rfl) ?_
  refine vcS (Name_runs s (by omega) _) (Holds.nil _) fun w7 x7 hh7 => ?_
  refine And.intro x7 ?_
  refine vyes (by simp [sel]; rfl) ?_
  refine vcS (Is_runs s (by omega) _) (Holds.nil _) fun w8 x8 hh8 => ?_
  refine vyes (by simp [sel]; rfl) ?_
  refine vcS (kept_runs _ bs _ _ w8 (r1.ext (x2.trans (x3.trans (x4.trans (x5.trans (x6.trans (x7.trans x8))))))) (hb0.ext (x1.trans (x2.trans (x3.trans (x4.trans (x5.trans (x6.trans (x7.trans x8)))))))) (by omega)) (Holds.nil _) fun w9 x9 hh9 => ?_
  refine vyes (by simp [sel]; rfl) ?_
  refine vcS (works_runs _) (Holds.nil _) fun w10 x10 hh10 => ?_
  exact ⟨by simp [sel]; rfl, x1.trans (x2.trans (x3.trans (x4.trans (x5.trans (x6.trans (x7.trans (x8.trans (x9.trans x10))))))))⟩
end Go.Proofs.Ytcjkodcamkcljaa

