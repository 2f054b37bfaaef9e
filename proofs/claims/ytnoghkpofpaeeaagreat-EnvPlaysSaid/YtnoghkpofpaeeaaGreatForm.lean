import Derived.RangeFuncNested
import Derived.RangeFuncBound
import Derived.RangeFuncCalls
import Derived.RangeFuncLeaves
import Derived.Shelf.Abstract
import Derived.Shelf.RegionOpen
import Derived.WalkKit
import Derived.OwnWalkIn
import Derived.TacticsInMore
import Derived.LoopNIn
import Derived.LoopIn
import Derived.Test.YtnoghkpofpaeeaaGreatTypes
namespace Go.Proofs.YtnoghkpofpaeeaaGreat
open Go Go.RowKit Go.Shelf Go.Proofs.Bw
attribute [local go_sem] Oper.semAt_some
abbrev PX := Nat × Int
def encP (x : PX) : Array Value := #[.int .i64 x.1, .int .i64 x.2]
/-- what has come when k rounds are over -/
def upP (l : L) (k : Nat) : List PX := ((List.range k).filter (fun i => decide (0 ≤ l.p i))).map fun i => (i, l.p i)
theorem upP_yes {l : L} {k : Nat} (h : 0 ≤ l.p k) : upP l (k + 1) = upP l k ++ [(k, l.p k)] := by
  unfold upP; rw [List.range_succ, List.filter_append, List.map_append]; simp [h]
theorem upP_no {l : L} {k : Nat} (h : ¬ 0 ≤ l.p k) : upP l (k + 1) = upP l k := by
  unfold upP; rw [List.range_succ, List.filter_append, List.map_append]; simp [h]
theorem upP_len (l : L) (k : Nat) : (upP l k).length ≤ k := by
  unfold upP; rw [List.length_map]; exact Nat.le_trans (List.length_filter_le _ _) (by simp)
set_option maxHeartbeats 2000000 in
set_option maxRecDepth 100000 in
theorem params1_stops (F : Fence) (n : Nat) (h76 : F.fn 117) (hro : F.round = none) (hn : 1 ≤ n) (B : Nat) (l : L) (w : World) (hb : Box w B l.cells) :
    SeqStopsK F n Tryz.prog 117 #[.pointer (some ⟨B, 0, none⟩)] encP (fun _ _ => True) (fun xs => xs = upP l 4) (fun _ => True) 5 w := by
  intro lp J Jx W hW hJ hJx hY h0
  refine callsIn_of_wp Tryz.func117 rfl h76 ?_ hro
  simp only [Tryz.ntmps117, List.size_toArray, List.length_cons, List.length_nil, Nat.reduceAdd, Nat.reduceSub, Array.replicate_succ, Array.replicate_zero, List.push_toArray, List.append_toArray, List.nil_append, List.cons_append]
  have hbW : Box W B l.cells := ⟨hb.choose, (hW.block B hb.lt).trans hb.choose_spec⟩
  have c1 : W.cell? ⟨B, 1, none⟩ = some (.int .i64 l.p0) := by rw [hbW.cell]; rfl
  have c2 : W.cell? ⟨B, 2, none⟩ = some (.int .i64 l.p1) := by rw [hbW.cell]; rfl
  have c3 : W.cell? ⟨B, 3, none⟩ = some (.int .i64 l.p2) := by rw [hbW.cell]; rfl
  have c4 : W.cell? ⟨B, 4, none⟩ = some (.int .i64 l.p3) := by rw [hbW.cell]; rfl
  have ix0 : ∀ w1 : World, (Instr.index 67 (.agg #[.int .i64 l.p0, .int .i64 l.p1, .int .i64 l.p2, .int .i64 l.p3]) (.int .i64 0)).run Tryz.prog w1 = .ok (.int .i64 l.p0) w1 := by
    intro w1
    simp [Instr.index, asIntOf, run_underlying Tryz.underlying67, Tryz.sizeOf3 w1, part]
  have ix1 : ∀ w1 : World, (Instr.index 67 (.agg #[.int .i64 l.p0, .int .i64 l.p1, .int .i64 l.p2, .int .i64 l.p3]) (.int .i64 1)).run Tryz.prog w1 = .ok (.int .i64 l.p1) w1 := by
    intro w1
    simp [Instr.index, asIntOf, run_underlying Tryz.underlying67, Tryz.sizeOf3 w1, part]
  have ix2 : ∀ w1 : World, (Instr.index 67 (.agg #[.int .i64 l.p0, .int .i64 l.p1, .int .i64 l.p2, .int .i64 l.p3]) (.int .i64 2)).run Tryz.prog w1 = .ok (.int .i64 l.p2) w1 := by
    intro w1
    simp [Instr.index, asIntOf, run_underlying Tryz.underlying67, Tryz.sizeOf3 w1, part]
  have ix3 : ∀ w1 : World, (Instr.index 67 (.agg #[.int .i64 l.p0, .int .i64 l.p1, .int .i64 l.p2, .int .i64 l.p3]) (.int .i64 3)).run Tryz.prog w1 = .ok (.int .i64 l.p3) w1 := by
    intro w1
    simp [Instr.index, asIntOf, run_underlying Tryz.underlying67, Tryz.sizeOf3 w1, part]
  gi_wp2
  gi_loopw [7, 3, 4] (fun i _ _ wr => ∃ k : Nat, k ≤ 4 ∧ i = .int .i64 k ∧ J (upP l k) wr)
    (fun i _ _ _ => 4 - (intOf i).toNat)
  case atStart => exact ⟨0, by omega, rfl, h0⟩
  case round =>
    obtain ⟨k, hk, rfl, hJs⟩ := hrel
    have hk5 : k = 0 ∨ k = 1 ∨ k = 2 ∨ k = 3 ∨ k = 4 := by omega
    rcases hk5 with rfl | rfl | rfl | rfl | rfl
    · by_cases hp : 0 ≤ l.p0
      · obtain ⟨fn, tmps, assign, body, hy, hR⟩ := hY _ (0, l.p0) wr hJs (by have := upP_len l 0; omega)
        have hy' : (Instr.yield lp #[.int .i64 0, .int .i64 l.p0]).run Tryz.prog wr = .ok (.round lp fn tmps assign body) wr := hy
        clear hy
        gi_wp2
        refine hR.mono ?_
        rintro e W3 (⟨rfl, hJ3, hk3⟩ | ⟨rfl, hJx3⟩)
        · gi_wp2
          go_roundw
          case rel => exact ⟨1, by omega, by simp, by rw [upP_yes (k := 0) hp]; exact hJ3⟩
          case measure => simp [intOf]
        · gi_wp2
          refine bodyPost_ret (results_none rfl _ _ _) rfl ?_
          exact ⟨⟨_, rfl⟩, .inr ⟨_, trivial, hJx3⟩⟩
      · gi_wp2
        refine ⟨fun _ h => (by cases h), ?_⟩
        gi_wp2
        go_roundw
        case rel => exact ⟨1, by omega, by simp, by rw [upP_no (k := 0) (by show ¬ 0 ≤ l.p0; omega)]; exact hJs⟩
        case measure => simp [intOf]
    · by_cases hp : 0 ≤ l.p1
      · obtain ⟨fn, tmps, assign, body, hy, hR⟩ := hY _ (1, l.p1) wr hJs (by have := upP_len l 1; omega)
        have hy' : (Instr.yield lp #[.int .i64 1, .int .i64 l.p1]).run Tryz.prog wr = .ok (.round lp fn tmps assign body) wr := hy
        clear hy
        gi_wp2
        refine hR.mono ?_
        rintro e W3 (⟨rfl, hJ3, hk3⟩ | ⟨rfl, hJx3⟩)
        · gi_wp2
          go_roundw
          case rel => exact ⟨2, by omega, by simp, by rw [upP_yes (k := 1) hp]; exact hJ3⟩
          case measure => simp [intOf]
        · gi_wp2
          refine bodyPost_ret (results_none rfl _ _ _) rfl ?_
          exact ⟨⟨_, rfl⟩, .inr ⟨_, trivial, hJx3⟩⟩
      · gi_wp2
        refine ⟨fun _ h => (by cases h), ?_⟩
        gi_wp2
        go_roundw
        case rel => exact ⟨2, by omega, by simp, by rw [upP_no (k := 1) (by show ¬ 0 ≤ l.p1; omega)]; exact hJs⟩
        case measure => simp [intOf]
    · by_cases hp : 0 ≤ l.p2
      · obtain ⟨fn, tmps, assign, body, hy, hR⟩ := hY _ (2, l.p2) wr hJs (by have := upP_len l 2; omega)
        have hy' : (Instr.yield lp #[.int .i64 2, .int .i64 l.p2]).run Tryz.prog wr = .ok (.round lp fn tmps assign body) wr := hy
        clear hy
        gi_wp2
        refine hR.mono ?_
        rintro e W3 (⟨rfl, hJ3, hk3⟩ | ⟨rfl, hJx3⟩)
        · gi_wp2
          go_roundw
          case rel => exact ⟨3, by omega, by simp, by rw [upP_yes (k := 2) hp]; exact hJ3⟩
          case measure => simp [intOf]
        · gi_wp2
          refine bodyPost_ret (results_none rfl _ _ _) rfl ?_
          exact ⟨⟨_, rfl⟩, .inr ⟨_, trivial, hJx3⟩⟩
      · gi_wp2
        refine ⟨fun _ h => (by cases h), ?_⟩
        gi_wp2
        go_roundw
        case rel => exact ⟨3, by omega, by simp, by rw [upP_no (k := 2) (by show ¬ 0 ≤ l.p2; omega)]; exact hJs⟩
        case measure => simp [intOf]
    · by_cases hp : 0 ≤ l.p3
      · obtain ⟨fn, tmps, assign, body, hy, hR⟩ := hY _ (3, l.p3) wr hJs (by have := upP_len l 3; omega)
        have hy' : (Instr.yield lp #[.int .i64 3, .int .i64 l.p3]).run Tryz.prog wr = .ok (.round lp fn tmps assign body) wr := hy
        clear hy
        gi_wp2
        refine hR.mono ?_
        rintro e W3 (⟨rfl, hJ3, hk3⟩ | ⟨rfl, hJx3⟩)
        · gi_wp2
          go_roundw
          case rel => exact ⟨4, by omega, by simp, by rw [upP_yes (k := 3) hp]; exact hJ3⟩
          case measure => simp [intOf]
        · gi_wp2
          refine bodyPost_ret (results_none rfl _ _ _) rfl ?_
          exact ⟨⟨_, rfl⟩, .inr ⟨_, trivial, hJx3⟩⟩
      · gi_wp2
        refine ⟨fun _ h => (by cases h), ?_⟩
        gi_wp2
        go_roundw
        case rel => exact ⟨4, by omega, by simp, by rw [upP_no (k := 3) (by show ¬ 0 ≤ l.p3; omega)]; exact hJs⟩
        case measure => simp [intOf]
    · gi_wp2
      go_end0
      exact ⟨⟨_, rfl⟩, .inl ⟨_, rfl, hJs⟩⟩

theorem params_in (F : Fence) (n : Nat) (h69 : F.fn 96) (hro : F.round = none) (l : L) (w : World) :
    CallsIn F n Tryz.prog 96 #[.agg l.cells.toArray] w fun e w' => e = .returned (.func (.func 117) #[] #[.pointer (some ⟨w.heap.size, 0, none⟩)]) ∧ w' = w.alloc (.cells l.cells.toArray 69) := by
  refine callsIn_of_wp Tryz.func96 rfl h69 ?_ hro
  simp only [L.cells, Tryz.ntmps96, List.size_toArray, List.length_cons, List.length_nil, Nat.reduceAdd, Nat.reduceSub, Array.replicate_succ, Array.replicate_zero, List.push_toArray, List.append_toArray, List.nil_append, List.cons_append]
  gi_wp2
  go_ret
  exact ⟨rfl, rfl⟩

def fc (c : Int) (xs : List PX) : Int := xs.foldl (fun c x => if c ≤ x.2 then 0 else c) c
theorem fc_snoc (c : Int) (xs : List PX) (x : PX) : fc c (xs ++ [x]) = if fc c xs ≤ x.2 then 0 else fc c xs := by
  unfold fc; rw [List.foldl_append]; rfl
theorem fc_up (l : L) : fc l.c (upP l 4) = l.form.c := by
  have step : ∀ k, fc l.c (upP l (k + 1)) = if 0 ≤ l.p k ∧ fc l.c (upP l k) ≤ l.p k then 0 else fc l.c (upP l k) := by
    intro k
    by_cases h : 0 ≤ l.p k
    · rw [upP_yes h, fc_snoc]; simp [h]
    · rw [upP_no h]; simp [h]
  have e0 : fc l.c (upP l 0) = l.c := rfl
  rw [step 3, step 2, step 1, step 0, e0]
  simp only [L.p]
  unfold L.form
  grind
def lc (l : L) (c : Int) : L := ⟨c, l.p0, l.p1, l.p2, l.p3⟩
set_option maxHeartbeats 2000000 in
set_option maxRecDepth 100000 in
theorem form_in (F : Fence) (n : Nat) (h52 : F.fn 116) (h69 : F.fn 96) (h76 : F.fn 117) (hro : F.round = none) (hn : 3 ≤ n) (l : L) (w : World) :
    CallsIn F n Tryz.prog 116 #[.agg l.cells.toArray] w fun e w' => e = .returned (.agg l.form.cells.toArray) ∧ Below w.heap.size w w' := by
  have h1 : 1 ≤ n := by omega
  refine callsIn_of_wp_marks Tryz.func116 rfl h52 ?_ hro
  simp only [L.cells, Tryz.ntmps116, List.size_toArray, List.length_cons, List.length_nil, Nat.reduceAdd, Nat.reduceSub, Array.replicate_succ, Array.replicate_zero, List.push_toArray, List.append_toArray, List.nil_append, List.cons_append]
  gi_wp2_with (gi_at_call 96; refine (params_in F (n - 1) h69 hro l _).mono ?_; rintro e w' ⟨rfl, rfl⟩)
  obtain ⟨W0, hW0⟩ : ∃ W0, ((w.alloc (.cells #[.int .i64 l.c, .int .i64 l.p0, .int .i64 l.p1, .int .i64 l.p2, .int .i64 l.p3] 69)).alloc (.cells #[.int .i64 0, .int .i64 0, .int .i64 0, .int .i64 0, .int .i64 0] 69)).alloc (.cells l.cells.toArray 69) = W0 := ⟨_, rfl⟩
  rw [hW0]
  have hsz : W0.heap.size = w.heap.size + 3 := by rw [← hW0]; simp
  have hx0 : Ext w W0 := by rw [← hW0]; exact ((Ext.alloc _ _).trans (Ext.alloc _ _)).trans (Ext.alloc _ _)
  have b1 : Box W0 w.heap.size l.cells := by
    rw [← hW0]
    exact ((Box.new w 69 l.cells).ext (Ext.alloc _ _)).ext (Ext.alloc _ _)
  have b2 : Box W0 (w.heap.size + 1) [.int .i64 0, .int .i64 0, .int .i64 0, .int .i64 0, .int .i64 0] := by
    rw [← hW0]
    have := Box.new (w.alloc (.cells l.cells.toArray 69)) 69 [.int .i64 0, .int .i64 0, .int .i64 0, .int .i64 0, .int .i64 0]
    rw [World.size_alloc] at this
    exact this.ext (Ext.alloc _ _)
  have b3 : Box W0 (w.heap.size + 1 + 1) l.cells := by
    rw [← hW0]
    have := Box.new ((w.alloc (.cells l.cells.toArray 69)).alloc (.cells [.int .i64 0, .int .i64 0, .int .i64 0, .int .i64 0, .int .i64 0].toArray 69)) 69 l.cells
    rw [World.size_alloc, World.size_alloc] at this
    exact this
  refine wpIn_rangeFunc_ownF hro h1 (gf := 117) (lb := #[.pointer (some ⟨w.heap.size + 1 + 1, 0, none⟩)]) rfl h76 (enters_of Tryz.func117 (by kernel_rfl) rfl)
    (params1_stops F (n - 1) h76 hro (by omega) (w.heap.size + 1 + 1) l W0 b3) (fun _ _ => trivial) (fun _ _ _ _ _ _ _ _ => trivial) (Below.refl _ _) (fun _ => rfl)
    (fun pre W => Box W w.heap.size (lc l (fc l.c pre)).cells ∧ Box W (w.heap.size + 1) [.int .i64 0, .int .i64 0, .int .i64 0, .int .i64 0, .int .i64 0] ∧ Below w.heap.size w W)
    (fun _ _ _ => False) ?hI (fun _ _ _ _ _ hs _ _ => hs) ⟨b1, b2, hx0.below⟩
    (fun x => { tmps := #[.agg l.cells.toArray, .pointer (some ⟨w.heap.size, 0, none⟩), .pointer (some ⟨w.heap.size + 1, 0, none⟩), undef, .int .i64 x.2, .agg l.cells.toArray, .func (.func 117) #[] #[.pointer (some ⟨w.heap.size + 1 + 1, 0, none⟩)], .int .i64 x.1, .int .i64 x.2, undef, undef, undef, undef, undef, undef], defers := [] }) ?assign ?body ?done ?stop
  case hI =>
    rintro pre W W' row ⟨h1, h2, h3⟩ hg hr
    have keep : ∀ b vs, Box W b vs → b < W0.heap.size → Box W' b vs := fun b vs hb hlt => ⟨hb.choose, (hg.block b hb.lt (fun e => by have := (hr b e.symm).1; omega)).trans hb.choose_spec⟩
    exact ⟨keep _ _ h1 (by omega), keep _ _ h2 (by omega), h3.grown hg h3.size (fun k e => by have := (hr k e).1; omega)⟩
  case assign =>
    intro lp x W K hK
    dsimp only [encP]
    gi_wp2
    exact hK
  case body =>
    rintro lp pre x W ⟨h1, h2, h3⟩ _
    have c0 : W.cell? ⟨w.heap.size, 0, none⟩ = some (.int .i64 (fc l.c pre)) := by rw [h1.cell]; rfl
    have f0 := h1.frozen 0
    by_cases hx : fc l.c pre ≤ x.2
    · gi_wp2
      refine ⟨KeepsOthers.setCell _ _ _, trivial, ?_, h2.upd (Upd.setCell W ⟨w.heap.size, 0, none⟩ _) (by show w.heap.size + 1 ≠ w.heap.size; omega), h3.setCell (p := ⟨w.heap.size, 0, none⟩) (Nat.le_refl _) _⟩
      have hb := h1.set 0 (.int .i64 0)
      rw [fc_snoc, if_pos hx]
      exact hb
    · gi_wp2
      refine ⟨KeepsOthers.refl _, trivial, ?_, h2, h3⟩
      rw [fc_snoc, if_neg (by omega)]
      exact h1
  case done =>
    rintro D ys W hD rfl ⟨h1, h2, h3⟩ hK
    rw [fc_up] at h1
    have e : lc l l.form.c = l.form := by unfold lc L.form; split <;> rfl
    rw [e] at h1
    have c0 : W.cell? ⟨w.heap.size, 0, none⟩ = some (.int .i64 l.form.c) := by rw [h1.cell]; rfl
    have c1 : W.cell? ⟨w.heap.size, 1, none⟩ = some (.int .i64 l.form.p0) := by rw [h1.cell]; rfl
    have c2 : W.cell? ⟨w.heap.size, 2, none⟩ = some (.int .i64 l.form.p1) := by rw [h1.cell]; rfl
    have c3 : W.cell? ⟨w.heap.size, 3, none⟩ = some (.int .i64 l.form.p2) := by rw [h1.cell]; rfl
    have c4 : W.cell? ⟨w.heap.size, 4, none⟩ = some (.int .i64 l.form.p3) := by rw [h1.cell]; rfl
    have d0 : W.cell? ⟨w.heap.size + 1, 0, none⟩ = some (.int .i64 0) := by rw [h2.cell]; rfl
    have d1 : W.cell? ⟨w.heap.size + 1, 1, none⟩ = some (.int .i64 0) := by rw [h2.cell]; rfl
    have d2 : W.cell? ⟨w.heap.size + 1, 2, none⟩ = some (.int .i64 0) := by rw [h2.cell]; rfl
    have d3 : W.cell? ⟨w.heap.size + 1, 3, none⟩ = some (.int .i64 0) := by rw [h2.cell]; rfl
    have d4 : W.cell? ⟨w.heap.size + 1, 4, none⟩ = some (.int .i64 0) := by rw [h2.cell]; rfl
    have f0 := h2.frozen 0
    have f1 := h2.frozen 1
    have f2 := h2.frozen 2
    have f3 := h2.frozen 3
    have f4 := h2.frozen 4
    gi_wp2
    have s0 := (((((h2.set 0 (.int .i64 l.form.c)).set 1 (.int .i64 l.form.p0)).set 2 (.int .i64 l.form.p1)).set 3 (.int .i64 l.form.p2)).set 4 (.int .i64 l.form.p3))
    have k0 := ((((KeepsOthers.setCell W ⟨w.heap.size + 1, 0, none⟩ (.int .i64 l.form.c)).trans (KeepsOthers.setCell _ ⟨w.heap.size + 1, 1, none⟩ (.int .i64 l.form.p0))).trans (KeepsOthers.setCell _ ⟨w.heap.size + 1, 2, none⟩ (.int .i64 l.form.p1))).trans (KeepsOthers.setCell _ ⟨w.heap.size + 1, 3, none⟩ (.int .i64 l.form.p2))).trans (KeepsOthers.setCell _ ⟨w.heap.size + 1, 4, none⟩ (.int .i64 l.form.p3))
    have e0 := ((((h3.setCell (p := ⟨w.heap.size + 1, 0, none⟩) (by show w.heap.size ≤ w.heap.size + 1; omega) (.int .i64 l.form.c)).setCell (p := ⟨w.heap.size + 1, 1, none⟩) (by show w.heap.size ≤ w.heap.size + 1; omega) (.int .i64 l.form.p0)).setCell (p := ⟨w.heap.size + 1, 2, none⟩) (by show w.heap.size ≤ w.heap.size + 1; omega) (.int .i64 l.form.p1)).setCell (p := ⟨w.heap.size + 1, 3, none⟩) (by show w.heap.size ≤ w.heap.size + 1; omega) (.int .i64 l.form.p2)).setCell (p := ⟨w.heap.size + 1, 4, none⟩) (by show w.heap.size ≤ w.heap.size + 1; omega) (.int .i64 l.form.p3)
    generalize hW5 : ((((W.setCell ⟨w.heap.size + 1, 0, none⟩ (.int .i64 l.form.c)).setCell ⟨w.heap.size + 1, 1, none⟩ (.int .i64 l.form.p0)).setCell ⟨w.heap.size + 1, 2, none⟩ (.int .i64 l.form.p1)).setCell ⟨w.heap.size + 1, 3, none⟩ (.int .i64 l.form.p2)).setCell ⟨w.heap.size + 1, 4, none⟩ (.int .i64 l.form.p3) = W5 at s0 k0 e0 ⊢
    have hK5 := k0.same D _ hK rfl
    have s5 : Box W5 (w.heap.size + 1) l.form.cells := s0
    refine ⟨by simp, .inl ⟨_, _, rfl, run_takeDeferred hK5, ?_⟩⟩
    have hb6 : Below w.heap.size W5 (W5.putObj D (.deferred none)) := belowK_b (w := w) (Nat.le_refl _) W5 D _ _ (by omega) hK5 rfl rfl
    have s6 : Box (W5.putObj D (.deferred none)) (w.heap.size + 1) l.form.cells := ⟨s5.choose, (World.putObj_heap_other (by omega)).trans s5.choose_spec⟩
    have hres : ∀ tmps : Array Value, tmps[2]? = some (.pointer (some ⟨w.heap.size + 1, 0, none⟩)) → (results Tryz.f116 tmps).run Tryz.prog (W5.putObj D (.deferred none)) = .ok (.agg l.form.cells.toArray) (W5.putObj D (.deferred none)) := by
      intro tmps ht
      refine Res.cellA (P := Tryz.prog) (fn := Tryz.f116) (e := [(2, .pointer (some ⟨w.heap.size + 1, 0, none⟩))]) rfl rfl Tryz.isAgg69 Tryz.sizeOf69 rfl s6 tmps.size ⟨tmps, []⟩ ⟨rfl, rfl, fun t v h => ?_⟩
      rw [look_cons] at h
      by_cases h2 : 2 = t
      · subst h2; rw [if_pos rfl] at h; cases h; exact ht
      · rw [if_neg h2] at h; cases h
    exact ⟨_, hres _ rfl, rfl, e0.trans hb6⟩
  case stop =>
    rintro D c pre W _ _ h _
    exact h.elim
theorem form_runs (l : L) (w0 : World) : Runs Tryz.prog 116 #[.agg l.cells.toArray] w0 fun v w' => v = .agg (L.form l).cells.toArray ∧ Ext w0 w' := by
  have h := callsIn_wide.1 (form_in _ 3 trivial trivial trivial rfl (by omega) l w0)
  refine Calls.mono h ?_
  rintro e w' ⟨rfl, hb⟩
  exact ⟨_, rfl, rfl, Ext.of_below hb⟩
end Go.Proofs.YtnoghkpofpaeeaaGreat

