/-
  The law CacheKeeps.
-/
import Derived.Test.YtmibjillclfogaaDoorC13
namespace Go.Proofs.YtmibjillclfogaaDoor
open Go Go.RowKit Go.Proofs.Bw
set_option linter.unusedVariables false
set_option linter.unusedSimpArgs false

theorem elSt : ElOk Tryd.prog 38 3 3 := ⟨⟨Tryd.t38, Tryd.t38.zero.get rfl, by kernel_rfl, rfl, rfl, rfl, rfl⟩, by omega⟩
set_option maxRecDepth 20000 in
theorem CacheKeeps_runs {R : Nat → Prop} (m : Nat) (hm : m < 256) (B : Option Addr) (l : List St) (cl : Nat) (w : World) (hR : ∀ k, R k → k < w.heap.size) (hl : Rd w R 3 B (stR l)) (hok : ∀ s ∈ l, s.ok) (hcl : lenOk l.length cl) (hT : Tb w.heap.size w) :
    Runs Tryd.prog 4 #[.int .u8 m, .slice B l.length cl] w fun v w' => v = .bool true ∧ Ext w w' := by
  refine Runs.of_vc cx_ok [0, 1, 4, 5, 6, 7, 8, 9, 10, 11, 12, 15, 31, 35, 81, 92, 98, 154, 178] [.v _, .v _] Tryd.func4 rfl rfl rfl (Holds.nil _) ?_
  refine And.intro (fun h => ?_) (fun h => ?_)
  · refine vcS (works_CS hT (Ext.refl _)) (Holds.nil _) fun w1 x1 hh1 => ?_
    exact ⟨rfl, x1⟩
  have hlen : l.length ≤ 200 := by have := of_decide_eq_false h; omega
  clear h
  obtain ⟨sz, hs⟩ : ∃ sz : Nat, (1 + (m : Int) % 60) = sz := ⟨1 + m % 60, by omega⟩
  have hs1 : 1 ≤ sz ∧ sz ≤ 60 := by omega
  refine vsd (by simp only [inKind]; omega) ?_
  refine vsd (by omega) ?_
  refine vsd (by simp only [inKind]; omega) ?_
  refine vcE (New_CS (w0 := w) (1 + (m : Int) % 60) (by omega) (Ext.refl w)) (Holds.nil _) ?_
  rintro _ w1 x1 hh1 ⟨g, rfl, c1, hg⟩
  rw [show (1 + (m : Int) % 60).toNat = sz by omega] at c1
  refine And.intro (fun h => by simp [sel] at h) (fun _ => ?_)
  refine vLoop_mk (σ := Nat) (fun i => [(1, .v (.slice B l.length cl)), (5, .v (.int .i64 sz)), (6, .v (.pointer (some ⟨g, 0, none⟩))), (8, .v (.int .i64 i))]) (fun _ => [])
    (fun i w' => CS w g ⟨sz, Kp sz l i⟩ w' ∧ i ≤ l.length) (fun i => l.length - i) 0 (fun _ => ⟨rfl, rfl⟩)
    ⟨⟨rfl, by rw [← hs]; rfl, rfl, rfl, trivial⟩, trivial, by simpa [Kp, Qs, Hl, Dl] using c1, Nat.zero_le _⟩ ?_
  rintro i w2 hh2 ⟨c2, hi⟩
  refine And.intro (fun h => ?_) (fun h => ?_)
  · have hil : i < l.length := by have := of_decide_eq_true h; omega
    obtain ⟨hwa, hwb⟩ := hok _ (List.getElem_mem hil)
    have hwf := hok _ (List.getElem_mem hil)
    obtain ⟨a1, ha1, hR1, hrow⟩ := (hl.ext c2.ex).at (stR_get hil)
    refine vDrw_mk [7, 14, 15] [0, 1, 2, 3, 4, 5, 6, 8, 9, 10, 11, 12, 13, 7, 14, 15] rfl fun w3 x3 hh3 => ?_
    have hrow3 := hrow.ext x3
    refine Exists.intro (.pointer (some (a1.add (i * 3)))) (And.intro (fun w' x hh => OpT.indexAddr Tryd.underlying23 Tryd.sizeOf38 rfl rfl ha1 (by omega) ⟨rfl, rfl⟩) ?_)
    refine Exists.intro (.int .u8 l[i].a) (And.intro (fun w' x hh => OpT.load Tryd.isAgg5 rfl ((hrow3.ext x).cell 1 rfl) ⟨rfl, rfl⟩) ?_)
    refine vsd (by simp only [inKind]; omega) ?_
    refine Exists.intro (.pointer (some (a1.add (i * 3)))) (And.intro (fun w' x hh => OpT.indexAddr Tryd.underlying23 Tryd.sizeOf38 rfl rfl ha1 (by omega) ⟨rfl, rfl⟩) ?_)
    refine Exists.intro (.int .u8 l[i].b) (And.intro (fun w' x hh => OpT.load Tryd.isAgg5 rfl ((hrow3.ext x).cell 2 rfl) ⟨rfl, rfl⟩) ?_)
    refine vsd (by simp only [inKind]; omega) ?_
    refine vcS (lV_runs _ w3) (Holds.nil _) fun w4 x4 hh4 => ?_
    refine And.intro x4 ?_
    refine vcS (lV_runs _ w4) (Holds.nil _) fun w5 x5 hh5 => ?_
    refine And.intro x5 ?_
    refine (Put_CS hT (c2.ext (x3.trans (x4.trans x5))) l[i].a l[i].b (by omega) (by omega)).mono ?_
    rintro _ w6 ⟨rfl, c6⟩
    refine Lands.v (Holds.nil _) ?_
    simp only at c6
    rw [show pv (l[i].a : Int) (l[i].b : Int) = Qp l[i] from rfl, Kp_put hs1.1 hil] at c6
    obtain ⟨a1, ha1, hR1, hrow⟩ := (hl.ext c6.ex).at (stR_get hil)
    refine vDrw_mk [7, 14, 15, 19, 25] [0, 1, 2, 3, 4, 5, 6, 8, 9, 10, 11, 12, 13, 7, 14, 15, 16, 17, 18, 20, 19, 21, 22, 23, 24, 25, 26, 27] rfl fun w7 x7 hh7 => ?_
    have hrow7 := hrow.ext x7
    refine Exists.intro (.pointer (some (a1.add (i * 3)))) (And.intro (fun w' x hh => OpT.indexAddr Tryd.underlying23 Tryd.sizeOf38 rfl rfl ha1 (by omega) ⟨rfl, rfl⟩) ?_)
    refine Exists.intro (.int .u8 l[i].b) (And.intro (fun w' x hh => OpT.load Tryd.isAgg5 rfl ((hrow7.ext x).cell 2 rfl) ⟨rfl, rfl⟩) ?_)
    refine vsd (by simp only [inKind]; omega) ?_
    refine Exists.intro (.pointer (some (a1.add (i * 3)))) (And.intro (fun w' x hh => OpT.indexAddr Tryd.underlying23 Tryd.sizeOf38 rfl rfl ha1 (by omega) ⟨rfl, rfl⟩) ?_)
    refine Exists.intro (.int .u8 l[i].a) (And.intro (fun w' x hh => OpT.load Tryd.isAgg5 rfl ((hrow7.ext x).cell 1 rfl) ⟨rfl, rfl⟩) ?_)
    refine vsd (by simp only [inKind]; omega) ?_
    refine vcS (lV_runs _ w7) (Holds.nil _) fun w8 x8 hh8 => ?_
    refine And.intro x8 ?_
    refine vcS (lV_runs _ w8) (Holds.nil _) fun w9 x9 hh9 => ?_
    refine And.intro x9 ?_
    have c9 := c6.ext (x7.trans (x8.trans x9))
    have cH := Has_CS hT c9 (l[i].b : Int) (l[i].a : Int) (by omega) (by omega)
    simp only [Qp_swap hwf] at cH
    rw [decide_eq_true (Kp_new hs1.1 hil)] at cH
    refine vcS cH (Holds.nil _) fun w10 x10 hh10 => ?_
    have c10 := c9.ext x10
    have hkl := Kp_len hs1.1 hil
    have cL := Len_CS c10
    simp only at cL
    refine vyes rfl ?_
    refine vcS cL (Holds.nil _) fun w11 x11 hh11 => ?_
    refine And.intro x11 ?_
    have c11 := c10.ext x11
    have cL := Len_CS c11
    simp only at cL
    have hgt : decide ((sz : Int) < ((Kp sz l (i + 1)).length : Nat)) = false := decide_eq_false (by omega)
    have hgt2 : (!decide ((sz : Int) < ((Kp sz l (i + 1)).length : Nat))) = true := by rw [hgt]; rfl
    refine vyes hgt2 ?_
    refine vcS cL (Holds.nil _) fun w12 x12 hh12 => ?_
    have c12 := c11.ext x12
    refine And.intro (fun h => ?_) (fun _ => ?_)
    · exfalso
      have hlt : decide (((Kp sz l (i + 1)).length : Int) < 1) = false := decide_eq_false (by omega)
      rw [hgt, hlt] at h
      simp [sel] at h
    · refine vsd (by simp only [inKind]; omega) ?_
      exact Exists.intro (i + 1) ⟨by omega, ⟨rfl, rfl, rfl, rfl, trivial⟩, trivial, c12, by omega⟩
  obtain rfl : i = l.length := by have := of_decide_eq_false h; omega
  clear h hi
  refine vsd (by simp only [inKind]; omega) ?_
  refine vLoop_mk (σ := Nat × List St × Option Addr × Nat) (fun q => [(1, .v (.slice B l.length cl)), (5, .v (.int .i64 sz)), (6, .v (.pointer (some ⟨g, 0, none⟩))), (9, .v (.slice q.2.2.1 q.2.1.length q.2.2.2)), (10, .v (.int .i64 ((q.1 : Int) - 1)))]) (fun _ => [])
    (fun q w' => Ext w2 w' ∧ OwnR w' w2.heap.size 38 3 q.2.2.1 q.2.2.2 (stR q.2.1) ∧ Lst l q.1 q.2.1 ∧ q.2.1.length ≤ sz ∧ q.1 ≤ l.length ∧ ∀ s ∈ q.2.1, s ∈ l) (fun q => q.1) (l.length, [], none, 0) (fun _ => ⟨rfl, rfl⟩)
    ⟨⟨rfl, rfl, rfl, rfl, rfl, trivial⟩, trivial, Ext.refl _, OwnR.nil _ _ _ _, Lst_nil l, Nat.zero_le _, Nat.le_refl _, fun s h => (by cases h)⟩ ?_
  rintro ⟨r1, la, A, c⟩ w3 hh3 ⟨x3, o3, hls, hla, hr1, hin⟩
  simp only at x3 o3 hls hla hr1 hin
  have c3 := c2.ext x3
  refine And.intro (fun h => ?_) (fun h => ?_)
  · have hh : 0 < r1 ∧ la.length < sz := by simp only [sel, Bool.or_eq_true, Bool.and_eq_true, Bool.not_eq_true', Bool.not_eq_false', decide_eq_true_eq, decide_eq_false_iff_not, Bool.or_eq_false_iff, Bool.and_eq_false_iff, Bool.and_false, Bool.or_false, Bool.and_true, Bool.or_true, Bool.true_and, Bool.false_or, Bool.true_or, Bool.false_and, Bool.false_eq_true, Bool.true_eq_false, or_false, false_or, and_true, true_and, Bool.not_true, Bool.not_false, sel] at h; omega
    obtain ⟨r, rfl⟩ : ∃ r, r1 = r + 1 := ⟨r1 - 1, by omega⟩
    clear h
    have hrl : r < l.length := by omega
    have hri : (((r + 1 : Nat) : Int) - 1) = r := by omega
    obtain ⟨hwa, hwb⟩ := hok _ (List.getElem_mem hrl)
    have hwf := hok _ (List.getElem_mem hrl)
    refine vLoop_mk (σ := Nat × Bool) (fun q => [(1, .v (.slice B l.length cl)), (5, .v (.int .i64 sz)), (6, .v (.pointer (some ⟨g, 0, none⟩))), (9, .v (.slice A la.length c)), (10, .v (.int .i64 (r : Int))), (11, .v (.bool q.2)), (12, .v (.int .i64 q.1))]) (fun _ => [])
      (fun q w' => Ext w3 w' ∧ (q.2 = true ↔ Qp l[r] ∈ (la.take q.1).map Qp) ∧ q.1 ≤ la.length) (fun q => la.length - q.1) (0, false) (fun _ => ⟨rfl, rfl⟩)
      ⟨⟨rfl, rfl, rfl, rfl, congrArg (fun z => some (SV.v (Value.int .i64 z))) hri, rfl, rfl, trivial⟩, trivial, Ext.refl _, by simp, Nat.zero_le _⟩ ?_
    rintro ⟨j, b⟩ w4 hh4 ⟨x4, hb, hj⟩
    simp only at x4 hb hj
    refine And.intro (fun h => ?_) (fun h => ?_)
    · have hjl : j < la.length := by have := of_decide_eq_true h; omega
      clear h
      have hwj := hok _ (hin _ (List.getElem_mem hjl))
      refine vDrw_mk [] [0, 1, 2, 3, 4, 5, 6, 7, 8, 9, 10, 11, 12, 13, 14, 15, 16, 17, 18, 19, 20, 21, 22, 23, 24, 25, 26, 27, 28, 29, 30, 31, 32, 33, 34, 35, 36, 37, 38, 39, 40, 41, 42, 43, 44, 45, 46, 47, 48, 49, 50, 51, 52, 53] rfl fun w5 x5 hh5 => ?_
      obtain ⟨a1, ha1, hR1, hrowl⟩ := (hl.ext ((c3.ext x4).ext x5).ex).at (stR_get hrl)
      obtain ⟨a2, ha2, hR2, hrowa⟩ := ((o3.ext x4).ext x5).rd.at (stR_get hjl)
      refine Exists.intro (.pointer (some (a2.add (j * 3)))) (And.intro (fun w' x hh _ => OpT.indexAddr Tryd.underlying23 Tryd.sizeOf38 rfl rfl ha2 (by omega) ⟨rfl, rfl⟩) ?_)
      refine Exists.intro (.int .u8 la[j].a) (And.intro (fun w' x hh _ => OpT.load Tryd.isAgg5 rfl ((hrowa.ext x).cell 1 rfl) ⟨rfl, rfl⟩) ?_)
      refine Exists.intro (.pointer (some (a1.add (r * 3)))) (And.intro (fun w' x hh _ => OpT.indexAddr Tryd.underlying23 Tryd.sizeOf38 rfl rfl ha1 (by omega) ⟨rfl, rfl⟩) ?_)
      refine Exists.intro (.int .u8 l[r].a) (And.intro (fun w' x hh _ => OpT.load Tryd.isAgg5 rfl ((hrowl.ext x).cell 1 rfl) ⟨rfl, rfl⟩) ?_)
      refine Exists.intro (.pointer (some (a2.add (j * 3)))) (And.intro (fun w' x hh _ _ => OpT.indexAddr Tryd.underlying23 Tryd.sizeOf38 rfl rfl ha2 (by omega) ⟨rfl, rfl⟩) ?_)
      refine Exists.intro (.int .u8 la[j].b) (And.intro (fun w' x hh _ _ => OpT.load Tryd.isAgg5 rfl ((hrowa.ext x).cell 2 rfl) ⟨rfl, rfl⟩) ?_)
      refine Exists.intro (.pointer (some (a1.add (r * 3)))) (And.intro (fun w' x hh _ _ => OpT.indexAddr Tryd.underlying23 Tryd.sizeOf38 rfl rfl ha1 (by omega) ⟨rfl, rfl⟩) ?_)
      refine Exists.intro (.int .u8 l[r].b) (And.intro (fun w' x hh _ _ => OpT.load Tryd.isAgg5 rfl ((hrowl.ext x).cell 2 rfl) ⟨rfl, rfl⟩) ?_)
      refine Exists.intro (.pointer (some (a2.add (j * 3)))) (And.intro (fun w' x hh _ => OpT.indexAddr Tryd.underlying23 Tryd.sizeOf38 rfl rfl ha2 (by omega) ⟨rfl, rfl⟩) ?_)
      refine Exists.intro (.int .u8 la[j].a) (And.intro (fun w' x hh _ => OpT.load Tryd.isAgg5 rfl ((hrowa.ext x).cell 1 rfl) ⟨rfl, rfl⟩) ?_)
      refine Exists.intro (.pointer (some (a1.add (r * 3)))) (And.intro (fun w' x hh _ => OpT.indexAddr Tryd.underlying23 Tryd.sizeOf38 rfl rfl ha1 (by omega) ⟨rfl, rfl⟩) ?_)
      refine Exists.intro (.int .u8 l[r].b) (And.intro (fun w' x hh _ => OpT.load Tryd.isAgg5 rfl ((hrowl.ext x).cell 2 rfl) ⟨rfl, rfl⟩) ?_)
      refine Exists.intro (.pointer (some (a2.add (j * 3)))) (And.intro (fun w' x hh _ _ => OpT.indexAddr Tryd.underlying23 Tryd.sizeOf38 rfl rfl ha2 (by omega) ⟨rfl, rfl⟩) ?_)
      refine Exists.intro (.int .u8 la[j].b) (And.intro (fun w' x hh _ _ => OpT.load Tryd.isAgg5 rfl ((hrowa.ext x).cell 2 rfl) ⟨rfl, rfl⟩) ?_)
      refine Exists.intro (.pointer (some (a1.add (r * 3)))) (And.intro (fun w' x hh _ _ => OpT.indexAddr Tryd.underlying23 Tryd.sizeOf38 rfl rfl ha1 (by omega) ⟨rfl, rfl⟩) ?_)
      refine Exists.intro (.int .u8 l[r].a) (And.intro (fun w' x hh _ _ => OpT.load Tryd.isAgg5 rfl ((hrowl.ext x).cell 1 rfl) ⟨rfl, rfl⟩) ?_)
      refine vsd (by simp only [inKind]; omega) ?_
      refine Exists.intro (j + 1, _) ⟨by show la.length - (j + 1) < la.length - j; omega, ⟨rfl, rfl, rfl, rfl, rfl, rfl, rfl, trivial⟩, trivial, x4.trans x5, ?_, by show j + 1 ≤ la.length; omega⟩
      show _ ↔ Qp l[r] ∈ (la.take (j + 1)).map Qp
      rw [take_snoc la j hjl, List.map_append, List.mem_append, List.map_cons, List.map_nil, List.mem_singleton]
      exact is_step hwf hwj hb
    have hjl : j = la.length := by have := of_decide_eq_false h; omega
    subst hjl
    clear h hj
    rw [List.take_length] at hb
    have c4 := c3.ext x4
    refine And.intro (fun h => ?_) (fun h => ?_)
    · refine vsd (by simp only [inKind]; omega) ?_
      exact Exists.intro (r, la, A, c) ⟨by show r < r + 1; omega, ⟨rfl, rfl, rfl, rfl, rfl, trivial⟩, trivial, x3.trans x4, o3.ext x4, Lst_old hrl hls (hb.1 h), hla, by show r ≤ l.length; omega, hin⟩
    have hnew : Qp l[r] ∉ la.map Qp := fun hm => by rw [hb.2 hm] at h; cases h
    clear h
    obtain ⟨a1, ha1, hR1, hrowl⟩ := (hl.ext c4.ex).at (stR_get hrl)
    refine OpT.indexAddr Tryd.underlying23 Tryd.sizeOf38 rfl rfl ha1 (by omega) ?_
    refine Lands.v (Holds.nil _) ?_
    refine OpT.loadA (cs := l[r].cells) Tryd.isAgg38 Tryd.sizeOf38 rfl hrowl ?_
    refine Lands.v (Holds.nil _) ?_
    refine OpT.buildSlice (cs := l[r].cells.toArray) (.cons rfl .nil) Tryd.underlying23 Tryd.sizeOf38 Tryd.zeroValue38 rfl (by kernel_rfl) fun w5 g5 e5 x5 z5 b5 => ?_
    refine Lands.v (Holds.nil _) ?_
    have o5 := (o3.ext x4).ext x5
    refine OpT.append1' elSt Tryd.underlying23 rfl rfl o5 b5 (by rw [stR_length]) rfl rfl (css' := stR (la ++ [l[r]])) (by simp [stR]) (n' := (la ++ [l[r]]).length) (stR_length _) (by rw [stR_length, List.length_append, List.length_cons, List.length_nil]; omega) (by have := x3.size; have := x4.size; have := x5.size; omega) fun w6 A6 c6 m6 o6 f6 => ?_
    refine Lands.v (Holds.nil _) ?_
    have x26 : Ext w2 w6 := Ext.own (x3.trans (x4.trans x5)) m6 fun k ⟨a, ha, hk⟩ => by rw [hk]; exact (o5.block ha).1
    have c6' := c2.ext x26
    have hls6 := Lst_new hrl hls hnew
    have hla6 : (la ++ [l[r]]).length ≤ sz := by rw [List.length_append, List.length_cons, List.length_nil]; omega
    obtain ⟨a1, ha1, hR1, hrow⟩ := (hl.ext c6'.ex).at (stR_get hrl)
    refine vDrw_mk [7, 14, 15] [0, 1, 2, 3, 4, 5, 6, 8, 9, 10, 11, 12, 13, 7, 14, 15, 16] rfl fun w7 x7 hh7 => ?_
    have hrow7 := hrow.ext x7
    refine Exists.intro (.pointer (some (a1.add (r * 3)))) (And.intro (fun w' x hh => OpT.indexAddr Tryd.underlying23 Tryd.sizeOf38 rfl rfl ha1 (by omega) ⟨rfl, rfl⟩) ?_)
    refine Exists.intro (.int .u8 l[r].a) (And.intro (fun w' x hh => OpT.load Tryd.isAgg5 rfl ((hrow7.ext x).cell 1 rfl) ⟨rfl, rfl⟩) ?_)
    refine vsd (by simp only [inKind]; omega) ?_
    refine Exists.intro (.pointer (some (a1.add (r * 3)))) (And.intro (fun w' x hh => OpT.indexAddr Tryd.underlying23 Tryd.sizeOf38 rfl rfl ha1 (by omega) ⟨rfl, rfl⟩) ?_)
    refine Exists.intro (.int .u8 l[r].b) (And.intro (fun w' x hh => OpT.load Tryd.isAgg5 rfl ((hrow7.ext x).cell 2 rfl) ⟨rfl, rfl⟩) ?_)
    refine vsd (by simp only [inKind]; omega) ?_
    refine vcS (lV_runs _ w7) (Holds.nil _) fun w8 x8 hh8 => ?_
    refine And.intro x8 ?_
    refine vcS (lV_runs _ w8) (Holds.nil _) fun w9 x9 hh9 => ?_
    refine And.intro x9 ?_
    have x29 := x26.trans (x7.trans (x8.trans x9))
    have cH := Has_CS hT (c2.ext x29) (l[r].a : Int) (l[r].b : Int) (by omega) (by omega)
    simp only at cH
    rw [show pv (l[r].a : Int) (l[r].b : Int) = Qp l[r] from rfl, decide_eq_true (Lst_in hls6 hla6 (by simp))] at cH
    refine vcS cH (Holds.nil _) fun w10 x10 hh10 => ?_
    refine And.intro (fun h => by cases h) (fun _ => ?_)
    refine vsd (by simp only [inKind]; omega) ?_
    refine Exists.intro (r, la ++ [l[r]], A6, c6) ⟨by show r < r + 1; omega, ⟨rfl, rfl, rfl, rfl, rfl, trivial⟩, trivial, x29.trans x10, o6.ext (x7.trans (x8.trans (x9.trans x10))), hls6, hla6, by show r ≤ l.length; omega, fun s hs => ?_⟩
    rcases List.mem_append.1 hs with h | h
    · exact hin s h
    · rw [List.mem_singleton.1 h]; exact List.getElem_mem hrl
  have he : r1 = 0 ∨ la.length = sz := by simp only [sel, Bool.or_eq_true, Bool.and_eq_true, Bool.not_eq_true', Bool.not_eq_false', decide_eq_true_eq, decide_eq_false_iff_not, Bool.or_eq_false_iff, Bool.and_eq_false_iff, Bool.and_false, Bool.or_false, Bool.and_true, Bool.or_true, Bool.true_and, Bool.false_or, Bool.true_or, Bool.false_and, Bool.false_eq_true, Bool.true_eq_false, or_false, false_or, and_true, true_and, Bool.not_true, Bool.not_false, sel] at h; omega
  clear h
  have hend := Lst_end hls hla he
  have cL := Len_CS c3
  simp only [hend] at cL
  refine vcS cL (Holds.nil _) fun w4 x4 hh4 => ?_
  have hc : decide ((la.length : Int) = la.length) = true := decide_eq_true rfl
  refine vyes hc ?_
  refine vcS (lV_runs _ w4) (Holds.nil _) fun w5 x5 hh5 => ?_
  refine vyes hc ?_
  refine vcS (lV_runs _ w5) (Holds.nil _) fun w6 x6 hh6 => ?_
  have c6 := c3.ext (x4.trans (x5.trans x6))
  have cH := Has_CS hT c6 1000 0 (by omega) (by omega)
  simp only at cH
  rw [decide_eq_false (Kp_not hok)] at cH
  refine vyes hc ?_
  refine vcS cH (Holds.nil _) fun w7 x7 hh7 => ?_
  have c7 := c6.ext x7
  have hc2 : sel (decide ((la.length : Int) = la.length)) true false = true := by rw [hc]; rfl
  refine vyes hc2 ?_
  refine vcS (works_CS hT c7.ex) (Holds.nil _) fun w8 x8 hh8 => ?_
  refine ⟨?_, (c7.ext x8).ex⟩
  simp [sel]
  rfl
end Go.Proofs.YtmibjillclfogaaDoor

