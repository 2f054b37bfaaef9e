/-
  The iterator over the parameters of a level.
-/
import Derived.RangeFuncNested
import Derived.RangeFuncBound
import Derived.RangeFuncCalls
import Derived.RangeFuncLeaves
import Derived.Shelf.Abstract
import Derived.Shelf.RegionOpen
import Derived.WalkKit
import Derived.OwnWalkIn
import Derived.TacticsInMore
import Derived.LoopNIn
import Derived.LoopIn
import Derived.Test.YtnoghkpofpaeeaaGreatForm
import Derived.Test.YtnoghkpofpaeeaaGreatRng
import Derived.Test.YtnoghkpofpaeeaaGreatCx
namespace Go.Proofs.YtnoghkpofpaeeaaGreat
open Go Go.RowKit Go.Shelf Go.Proofs.Bw
attribute [local go_sem] Oper.semAt_some
/-- the places of a level's parameters that are there, of the first k -/
def upF (l : L) : Nat → List (Fin 4)
  | 0 => []
  | k + 1 => if h : k < 4 then if 0 ≤ l.p k then upF l k ++ [⟨k, h⟩] else upF l k else upF l k
theorem upF_yes {l : L} {k : Nat} (h4 : k < 4) (h : 0 ≤ l.p k) : upF l (k + 1) = upF l k ++ [⟨k, h4⟩] := by rw [upF, dif_pos h4, if_pos h]
theorem upF_no {l : L} {k : Nat} (h : ¬ 0 ≤ l.p k) : upF l (k + 1) = upF l k := by
  rw [upF]; split <;> first | rfl | rw [if_neg h]
theorem upF_len (l : L) : ∀ k, (upF l k).length ≤ k
  | 0 => Nat.le_refl _
  | k + 1 => by
    have := upF_len l k
    rw [upF]; split
    · split
      · rw [List.length_append]; simp; omega
      · omega
    · omega
theorem upF_pre (l : L) : ∀ d k, k + d = 4 → ∃ suf, upF l 4 = upF l k ++ suf
  | 0, k, h => ⟨[], by rw [show k = 4 by omega, List.append_nil]⟩
  | d + 1, k, h => by
    obtain ⟨suf, hs⟩ := upF_pre l d (k + 1) (by omega)
    rw [hs]
    by_cases hp : 0 ≤ l.p k
    · rw [upF_yes (by omega) hp, List.append_assoc]; exact ⟨_, rfl⟩
    · rw [upF_no hp]; exact ⟨_, rfl⟩
def encF (l : L) (i : Fin 4) : List Value := [.int .i64 (i.val : Int), .int .i64 (l.p i.val)]
set_option maxHeartbeats 2000000 in
set_option maxRecDepth 100000 in
theorem parF_stops (F : Fence) (n : Nat) (h76 : F.fn 117) (hro : F.round = none) (hn : 1 ≤ n) (B : Nat) (l : L) (w : World) (hb : Box w B l.cells) :
    SeqStopsK F n Tryz.prog 117 #[.pointer (some ⟨B, 0, none⟩)] (fun i => ⟨encF l i⟩) (fun _ _ => True) (fun xs => xs = upF l 4) (fun pre => ∃ suf, upF l 4 = pre ++ suf) 5 w := by
  intro lp J Jx W hW hJ hJx hY h0
  refine callsIn_of_wp Tryz.func117 rfl h76 ?_ hro
  simp only [Tryz.ntmps117, List.size_toArray, List.length_cons, List.length_nil, Nat.reduceAdd, Nat.reduceSub, Array.replicate_succ, Array.replicate_zero, List.push_toArray, List.append_toArray, List.nil_append, List.cons_append]
  have hbW : Box W B l.cells := ⟨hb.choose, (hW.block B hb.lt).trans hb.choose_spec⟩
  have c1 : W.cell? ⟨B, 1, none⟩ = some (.int .i64 l.p0) := by rw [hbW.cell]; rfl
  have c2 : W.cell? ⟨B, 2, none⟩ = some (.int .i64 l.p1) := by rw [hbW.cell]; rfl
  have c3 : W.cell? ⟨B, 3, none⟩ = some (.int .i64 l.p2) := by rw [hbW.cell]; rfl
  have c4 : W.cell? ⟨B, 4, none⟩ = some (.int .i64 l.p3) := by rw [hbW.cell]; rfl
  have ix0 : ∀ w1 : World, (Instr.index 67 (.agg #[.int .i64 l.p0, .int .i64 l.p1, .int .i64 l.p2, .int .i64 l.p3]) (.int .i64 0)).run Tryz.prog w1 = .ok (.int .i64 l.p0) w1 := by
    intro w1
    simp [Instr.index, asIntOf, run_underlying Tryz.underlying67, Tryz.sizeOf3 w1, part]
  have ix1 : ∀ w1 : World, (Instr.index 67 (.agg #[.int .i64 l.p0, .int .i64 l.p1, .int .i64 l.p2, .int .i64 l.p3]) (.int .i64 1)).run Tryz.prog w1 = .ok (.int .i64 l.p1) w1 := by
    intro w1
    simp [Instr.index, asIntOf, run_underlying Tryz.underlying67, Tryz.sizeOf3 w1, part]
  have ix2 : ∀ w1 : World, (Instr.index 67 (.agg #[.int .i64 l.p0, .int .i64 l.p1, .int .i64 l.p2, .int .i64 l.p3]) (.int .i64 2)).run Tryz.prog w1 = .ok (.int .i64 l.p2) w1 := by
    intro w1
    simp [Instr.index, asIntOf, run_underlying Tryz.underlying67, Tryz.sizeOf3 w1, part]
  have ix3 : ∀ w1 : World, (Instr.index 67 (.agg #[.int .i64 l.p0, .int .i64 l.p1, .int .i64 l.p2, .int .i64 l.p3]) (.int .i64 3)).run Tryz.prog w1 = .ok (.int .i64 l.p3) w1 := by
    intro w1
    simp [Instr.index, asIntOf, run_underlying Tryz.underlying67, Tryz.sizeOf3 w1, part]
  gi_wp2
  gi_loopw [7, 3, 4] (fun i _ _ wr => ∃ k : Nat, k ≤ 4 ∧ i = .int .i64 k ∧ J (upF l k) wr)
    (fun i _ _ _ => 4 - (intOf i).toNat)
  case atStart => exact ⟨0, by omega, rfl, h0⟩
  case round =>
    obtain ⟨k, hk, rfl, hJs⟩ := hrel
    have hk5 : k = 0 ∨ k = 1 ∨ k = 2 ∨ k = 3 ∨ k = 4 := by omega
    rcases hk5 with rfl | rfl | rfl | rfl | rfl
    · by_cases hp : 0 ≤ l.p0
      · obtain ⟨fn, tmps, assign, body, hy, hR⟩ := hY _ (0 : Fin 4) wr hJs (by have := upF_len l 0; omega)
        have hy' : (Instr.yield lp #[.int .i64 0, .int .i64 l.p0]).run Tryz.prog wr = .ok (.round lp fn tmps assign body) wr := hy
        clear hy
        gi_wp2
        refine hR.mono ?_
        rintro e W3 (⟨rfl, hJ3, hk3⟩ | ⟨rfl, hJx3⟩)
        · gi_wp2
          go_roundw
          case rel => exact ⟨1, by omega, by simp, by rw [upF_yes (k := 0) (by omega) hp]; exact hJ3⟩
          case measure => simp [intOf]
        · gi_wp2
          refine bodyPost_ret (results_none rfl _ _ _) rfl ?_
          exact ⟨⟨_, rfl⟩, .inr ⟨_, (by have h := upF_pre l 3 1 rfl; rw [upF_yes (k := 0) (by omega) hp] at h; exact h), hJx3⟩⟩
      · gi_wp2
        refine ⟨fun _ h => (by cases h), ?_⟩
        gi_wp2
        go_roundw
        case rel => exact ⟨1, by omega, by simp, by rw [upF_no (k := 0) (by show ¬ 0 ≤ l.p0; omega)]; exact hJs⟩
        case measure => simp [intOf]
    · by_cases hp : 0 ≤ l.p1
      · obtain ⟨fn, tmps, assign, body, hy, hR⟩ := hY _ (1 : Fin 4) wr hJs (by have := upF_len l 1; omega)
        have hy' : (Instr.yield lp #[.int .i64 1, .int .i64 l.p1]).run Tryz.prog wr = .ok (.round lp fn tmps assign body) wr := hy
        clear hy
        gi_wp2
        refine hR.mono ?_
        rintro e W3 (⟨rfl, hJ3, hk3⟩ | ⟨rfl, hJx3⟩)
        · gi_wp2
          go_roundw
          case rel => exact ⟨2, by omega, by simp, by rw [upF_yes (k := 1) (by omega) hp]; exact hJ3⟩
          case measure => simp [intOf]
        · gi_wp2
          refine bodyPost_ret (results_none rfl _ _ _) rfl ?_
          exact ⟨⟨_, rfl⟩, .inr ⟨_, (by have h := upF_pre l 2 2 rfl; rw [upF_yes (k := 1) (by omega) hp] at h; exact h), hJx3⟩⟩
      · gi_wp2
        refine ⟨fun _ h => (by cases h), ?_⟩
        gi_wp2
        go_roundw
        case rel => exact ⟨2, by omega, by simp, by rw [upF_no (k := 1) (by show ¬ 0 ≤ l.p1; omega)]; exact hJs⟩
        case measure => simp [intOf]
    · by_cases hp : 0 ≤ l.p2
      · obtain ⟨fn, tmps, assign, body, hy, hR⟩ := hY _ (2 : Fin 4) wr hJs (by have := upF_len l 2; omega)
        have hy' : (Instr.yield lp #[.int .i64 2, .int .i64 l.p2]).run Tryz.prog wr = .ok (.round lp fn tmps assign body) wr := hy
        clear hy
        gi_wp2
        refine hR.mono ?_
        rintro e W3 (⟨rfl, hJ3, hk3⟩ | ⟨rfl, hJx3⟩)
        · gi_wp2
          go_roundw
          case rel => exact ⟨3, by omega, by simp, by rw [upF_yes (k := 2) (by omega) hp]; exact hJ3⟩
          case measure => simp [intOf]
        · gi_wp2
          refine bodyPost_ret (results_none rfl _ _ _) rfl ?_
          exact ⟨⟨_, rfl⟩, .inr ⟨_, (by have h := upF_pre l 1 3 rfl; rw [upF_yes (k := 2) (by omega) hp] at h; exact h), hJx3⟩⟩
      · gi_wp2
        refine ⟨fun _ h => (by cases h), ?_⟩
        gi_wp2
        go_roundw
        case rel => exact ⟨3, by omega, by simp, by rw [upF_no (k := 2) (by show ¬ 0 ≤ l.p2; omega)]; exact hJs⟩
        case measure => simp [intOf]
    · by_cases hp : 0 ≤ l.p3
      · obtain ⟨fn, tmps, assign, body, hy, hR⟩ := hY _ (3 : Fin 4) wr hJs (by have := upF_len l 3; omega)
        have hy' : (Instr.yield lp #[.int .i64 3, .int .i64 l.p3]).run Tryz.prog wr = .ok (.round lp fn tmps assign body) wr := hy
        clear hy
        gi_wp2
        refine hR.mono ?_
        rintro e W3 (⟨rfl, hJ3, hk3⟩ | ⟨rfl, hJx3⟩)
        · gi_wp2
          go_roundw
          case rel => exact ⟨4, by omega, by simp, by rw [upF_yes (k := 3) (by omega) hp]; exact hJ3⟩
          case measure => simp [intOf]
        · gi_wp2
          refine bodyPost_ret (results_none rfl _ _ _) rfl ?_
          exact ⟨⟨_, rfl⟩, .inr ⟨_, ⟨[], (upF_yes (k := 3) (by omega) hp).trans (List.append_nil _).symm⟩, hJx3⟩⟩
      · gi_wp2
        refine ⟨fun _ h => (by cases h), ?_⟩
        gi_wp2
        go_roundw
        case rel => exact ⟨4, by omega, by simp, by rw [upF_no (k := 3) (by show ¬ 0 ≤ l.p3; omega)]; exact hJs⟩
        case measure => simp [intOf]
    · gi_wp2
      go_end0
      exact ⟨⟨_, rfl⟩, .inl ⟨_, rfl, hJs⟩⟩

theorem parF_in (F : Fence) (n : Nat) (h69 : F.fn 96) (hro : F.round = none) (l : L) (w : World) :
    CallsIn F n Tryz.prog 96 #[.agg l.cells.toArray] w fun e w' => e = .returned (.func (.func 117) #[] #[.pointer (some ⟨w.heap.size, 0, none⟩)]) ∧ w' = w.alloc (.cells l.cells.toArray 69) := by
  refine callsIn_of_wp Tryz.func96 rfl h69 ?_ hro
  simp only [L.cells, Tryz.ntmps96, List.size_toArray, List.length_cons, List.length_nil, Nat.reduceAdd, Nat.reduceSub, Array.replicate_succ, Array.replicate_zero, List.push_toArray, List.append_toArray, List.nil_append, List.cons_append]
  gi_wp2
  go_ret
  exact ⟨rfl, rfl⟩

end Go.Proofs.YtnoghkpofpaeeaaGreat

