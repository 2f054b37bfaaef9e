/-
  TermNames of layer 3: the names of an application are those of both; they rise, each once.
-/
import Derived.Test.YtmmhamabkiffaaaN6
namespace Go.Proofs.Ytmmhamabkiffaaa
open Go Go.RowKit Go.Proofs.Bw
set_option linter.unusedVariables false
set_option linter.unusedSimpArgs false

theorem tA_arg {f x : T} (h : mayT (tA f x) = true) : mayT x = true := by
  have h1 := may_nodes h; have h2 := may_size h; have h3 := may_depth h
  rw [tA] at h1 h2 h3
  simp only [nodes, nodess, Bool.and_eq_true] at h1
  simp only [size, sizes] at h2
  simp only [depth, depths] at h3
  exact (mayT_iff x).2 ⟨h1.2.2.1, by omega, by omega⟩
theorem nms_small (t : T) : (nmsT t).length ≤ 100000 := by
  unfold nmsT
  split
  · rename_i h
    have h1 := compact_len (srt (names t))
    have h2 := srt_len (names t)
    have h3 := names_len t
    have h4 := may_size h
    omega
  · simp
theorem nm1_nil : nm1 ⟨#[]⟩ = [] := if_pos rfl
theorem mem_take_succ (X : List (List UInt8)) (m : Nat) (h : m < X.length) (x : List UInt8) : decide (x ∈ X.take (m + 1)) = (decide (x ∈ X.take m) || decide (X[m] = x)) := by
  rw [take_snoc X m h, Bool.eq_iff_iff]
  simp only [decide_eq_true_eq, Bool.or_eq_true, List.mem_append, List.mem_singleton]
  exact or_congr Iff.rfl eq_comm
theorem nameB_le {s : ByteArray} (h : nameB s = true) : s.size ≤ 32 := by
  unfold nameB at h
  simp only [Bool.and_eq_true, decide_eq_true_eq] at h
  exact h.2.2
theorem cnt1_le (a : List UInt8) (y : List (List UInt8)) : cnt1 a y ≤ y.length := List.length_filter_le _ _
theorem cnt_le (x y : List (List UInt8)) : cnt x y ≤ x.length * y.length := by
  induction x with
  | nil => simp [cnt]
  | cons a r ih =>
    have := cnt1_le a y
    unfold cnt at ih ⊢
    simp only [List.map_cons, List.sum_cons, List.length_cons, Nat.add_mul]
    omega
theorem cnt1_take (Y : List (List UInt8)) (j : Nat) (h : j < Y.length) (a : List UInt8) : cnt1 a (Y.take (j + 1)) = cnt1 a (Y.take j) + if a = Y[j] then 1 else 0 := by
  rw [take_snoc Y j h]
  unfold cnt1
  rw [List.filter_append, List.length_append]
  by_cases e : a = Y[j] <;> simp [e]
theorem cnt_take (X : List (List UInt8)) (i : Nat) (h : i < X.length) (Y : List (List UInt8)) : cnt (X.take (i + 1)) Y = cnt (X.take i) Y + cnt1 X[i] Y := by
  rw [take_snoc X i h]
  unfold cnt
  simp only [List.map_append, List.sum_append, List.map_cons, List.map_nil, List.sum_cons, List.sum_nil, Nat.add_zero]
theorem exE {P : Program} {f : FuncId} {args : Array Value} {w : World} {R : Nat → Prop} {t : T} (h : Runs P f args w fun v w' => ∃ cs, v = .agg cs.toArray ∧ VT w' R cs t ∧ Ext w w') : Runs P f args w fun v w' => Ext w w' ∧ ∃ cs, v = .agg cs.toArray ∧ VT w' R cs t :=
  h.mono fun v w' ⟨cs, h1, h2, h3⟩ => ⟨h3, cs, h1, h2⟩
set_option maxHeartbeats 4000000 in
theorem TermNames_runs (a b : T) (ca cb : List Value) (w : World) (hva : VT w (fun _ => True) ca a) (hvb : VT w (fun _ => True) cb b) :
    Runs Try.prog 5 #[.agg ca.toArray, .agg cb.toArray] w fun v w' => v = .bool true ∧ Ext w w' := by
  have tr : ∀ {w : World} (k : Nat), w.heap.size ≤ k → (fun _ => True : Nat → Prop) k := fun _ _ => trivial
  obtain ⟨k, n, s, ls, ts, la, lc, ta, tc, ea, rfl, -⟩ := hva.inv
  obtain ⟨k', n', s', ls', ts', la', lc', ta', tc', eb, rfl, -⟩ := hvb.inv
  refine Runs.of_vc (ρ := []) cx_ok [0, 1, 2, 3, 4, 5, 6, 7, 8, 9, 10, 11, 12, 13, 14, 15, 28, 47, 53, 71, 111, 123, 127, 133, 144] [.a [.v (.int .u8 k), .v (.int .i64 n), .v (.string s), .v (.slice la ls.length lc), .v (.slice ta ts.length tc)], .a [.v (.int .u8 k'), .v (.int .i64 n'), .v (.string s'), .v (.slice la' ls'.length lc'), .v (.slice ta' ts'.length tc')]] Try.func5 rfl rfl rfl (Holds.nil w) ?_
  intro g1 w1 e1 x1 z1 hh1
  intro g2 w2 e2 x2 z2 hh2
  have y2 := x1.trans x2
  have hDa := rDeep_runs a _ w2 _ (hva.ext y2)
  cases hda : isDeep a with
  | true =>
    rw [hda] at hDa
    refine vcS hDa hh2 fun w3 x3 hh3 => ?_
    refine vskip rfl ?_
    refine OpT.pickT rfl rfl rfl ?_
    refine Lands.v hh3 ?_
    refine vskip rfl ?_
    refine vskip rfl ?_
    refine vskip rfl ?_
    refine OpT.pickT rfl rfl rfl ?_
    refine Lands.v hh3 ?_
    refine And.intro (fun h => ?_) (fun h => ?_)
    · refine vcS (works_runs _) hh3 fun w4 x4 hh4 => ?_
      exact ⟨rfl, y2.trans (x3.trans x4)⟩
    · cases h
  | false =>
    rw [hda] at hDa
    refine vcS hDa hh2 fun w3 x3 hh3 => ?_
    have y3 := y2.trans x3
    have hDb := rDeep_runs b _ w3 _ (hvb.ext y3)
    refine vyes rfl ?_
    cases hdb : isDeep b with
    | true =>
      rw [hdb] at hDb
      refine vcS hDb hh3 fun w4 x4 hh4 => ?_
      refine vskip rfl ?_
      refine vskip rfl ?_
      refine vskip rfl ?_
      refine OpT.pickT rfl rfl rfl ?_
      refine Lands.v hh4 ?_
      refine And.intro (fun h => ?_) (fun h => ?_)
      · refine vcS (works_runs _) hh4 fun w5 x5 hh5 => ?_
        exact ⟨rfl, y3.trans (x4.trans x5)⟩
      · cases h
    | false =>
      rw [hdb] at hDb
      refine vcS hDb hh3 fun w4 x4 hh4 => ?_
      have y4 := y3.trans x4
      refine vyes rfl ?_
      refine vcE (exE (lA_runs a b _ _ w4 (fun _ => True) tr (hva.ext y4) (hvb.ext y4))) hh4 ?_
      rintro _ w5 x5 hh5 ⟨cA, rfl, hvA⟩
      refine vyes rfl ?_
      refine vcS (rMay_runs _ _ w5 _ hvA) hh5 fun w6 x6 hh6 => ?_
      have y6 := y4.trans (x5.trans x6)
      refine And.intro (fun h => ?_) (fun h => ?_)
      · refine vcS (works_runs _) hh6 fun w7 x7 hh7 => ?_
        exact ⟨rfl, y6.trans x7⟩
      have hmA : mayT (tA a b) = true := by simpa [sel] using h
      refine vcE (Names_runs a _ w6 _ (hva.ext y6)) hh6 ?_
      rintro _ w7 x7 hh7 ⟨Ax, cx, rfl, ox⟩
      refine vcE (Names_runs b _ w7 _ (hvb.ext (y6.trans x7))) hh7 ?_
      rintro _ w8 x8 hh8 ⟨Ay, cy, rfl, oy⟩
      have y8 := y6.trans (x7.trans x8)
      refine vcE (exE (lA_runs a b _ _ w8 (fun _ => True) tr (hva.ext y8) (hvb.ext y8))) hh8 ?_
      rintro _ w9 x9 hh9 ⟨cA2, rfl, hvA2⟩
      refine vcE (Names_runs (tA a b) _ w9 _ hvA2) hh9 ?_
      rintro _ w10 x10 hh10 ⟨Az, cz, rfl, oz⟩
      have y10 := y8.trans (x9.trans x10)
      refine vDrw_mk [2, 4, 5] [0, 1, 3, 2, 4, 5, 6] rfl fun w11 x11 hh11 => ?_
      have y11 := y10.trans x11
      refine vcE (exE (lL_runs a b _ _ w11 (fun _ => True) tr (hva.ext y11) (hvb.ext y11))) hh11 ?_
      rintro _ w12 x12 hh12 ⟨cL, rfl, hvL⟩
      refine And.intro x12 ?_
      have y12 := y11.trans x12
      refine vcE (exE (lP_runs (tL a b) a _ _ w12 (fun _ => True) tr hvL (hva.ext y12))) hh12 ?_
      rintro _ w13 x13 hh13 ⟨cP, rfl, hvP⟩
      refine vcE (Names_runs (tP (tL a b) a) _ w13 _ hvP) hh13 ?_
      rintro _ w14 x14 hh14 ⟨Au, cu, rfl, ou⟩
      have y14 := y12.trans (x13.trans x14)
      have may_a : mayT a = true := tA_all hmA
      have may_b : mayT b = true := tA_arg hmA
      have ex : nmsT a = cs (names a) := by unfold nmsT; rw [if_pos may_a]; rfl
      have ey : nmsT b = cs (names b) := by unfold nmsT; rw [if_pos may_b]; rfl
      have ez : nmsT (tA a b) = cs (names a ++ names b) := by unfold nmsT; rw [if_pos hmA]; simp only [tA, names, namess, nm1_nil, cs, List.nil_append, List.append_nil]
      have lx : (nmsT a).length ≤ 100000 := nms_small a
      have ly : (nmsT b).length ≤ 100000 := nms_small b
      have lz : (nmsT (tA a b)).length ≤ 100000 := nms_small (tA a b)
      have lu : (nmsT (tP (tL a b) a)).length ≤ 100000 := nms_small _
      have lawz := cs_law (names a ++ names b)
      rw [← ez] at lawz
      have memz : ∀ i (h : i < (nmsT (tA a b)).length), (nmsT (tA a b))[i] ∈ nmsT a ∨ (nmsT (tA a b))[i] ∈ nmsT b := fun i h => by
        have := (lawz.2 _).1 (List.getElem_mem h)
        rw [List.mem_append] at this
        rw [ex, ey, (cs_law _).2, (cs_law _).2]
        exact this
      have riz : ∀ i j (hi : i < (nmsT (tA a b)).length) (hj : j < (nmsT (tA a b)).length), i < j → (nmsT (tA a b))[i] < (nmsT (tA a b))[j] := fun i j hi hj h => List.pairwise_iff_getElem.1 lawz.1 i j hi hj h
      have namz : ∀ i (h : i < (nmsT (tA a b)).length), nameB ⟨(nmsT (tA a b))[i].toArray⟩ = true := fun i h => by
        have := (lawz.2 _).1 (List.getElem_mem h)
        rw [List.mem_append] at this
        rcases this with h1 | h1
        · exact names_name a (may_nodes may_a) _ h1
        · exact names_name b (may_nodes may_b) _ h1
      have cntz : (nmsT (tA a b)).length + cnt (nmsT a) (nmsT b) = (nmsT a).length + (nmsT b).length := by rw [ex, ey, ez]; exact cs_count _ _
      have eu : mayT (tP (tL a b) a) = true → nmsT (tP (tL a b) a) = nmsT (tA a b) := fun h => by
        have e1 : names (tP (tL a b) a) = names a ++ names b ++ names a := by simp only [tP, tL, names, namess, nm1_nil, List.nil_append, List.append_nil]
        have e2 : nmsT (tP (tL a b) a) = cs (names (tP (tL a b) a)) := by unfold nmsT; rw [if_pos h]; rfl
        rw [ez, e2, e1]
        refine cs_ext fun x => ?_
        simp only [List.mem_append]
        constructor
        · rintro ((h | h) | h)
          · exact .inl h
          · exact .inr h
          · exact .inl h
        · rintro (h | h)
          · exact .inl (.inl h)
          · exact .inl (.inr h)
      revert ox oy oz ou lx ly lz lu memz riz namz cntz eu
      generalize nmsT a = X
      generalize nmsT b = Y
      generalize nmsT (tA a b) = Z
      generalize nmsT (tP (tL a b) a) = U
      intro ox oy oz ou lx ly lz lu memz riz namz cntz eu
      have y13 := x13.trans x14
      have rX : Rd w14 _ 1 Ax (zR X) := (ox.ext ((x8.trans x9).trans ((x10.trans x11).trans ((x12.trans x13).trans x14)))).rd
      have rY : Rd w14 _ 1 Ay (zR Y) := (oy.ext (x9.trans ((x10.trans x11).trans ((x12.trans x13).trans x14)))).rd
      have rZ : Rd w14 _ 1 Az (zR Z) := (oz.ext (x11.trans ((x12.trans x13).trans x14))).rd
      have rU : Rd w14 _ 1 Au (zR U) := ou.rd
      refine vLoop_mk (σ := Nat) (fun q => [(2, .p 0 0), (3, .p 1 0), (5, .v (.slice Ax X.length cx)), (6, .v (.slice Ay Y.length cy)), (7, .v (.slice Az Z.length cz)), (8, .v (.slice Au U.length cu)), (9, .v (.int .i64 q))]) (fun _ => [(0, [.v (.int .u8 k), .v (.int .i64 n), .v (.string s), .v (.slice la ls.length lc), .v (.slice ta ts.length tc)]), (1, [.v (.int .u8 k'), .v (.int .i64 n'), .v (.string s'), .v (.slice la' ls'.length lc'), .v (.slice ta' ts'.length tc')])]) (fun q w' => Ext w14 w' ∧ q ≤ Z.length) (fun q => Z.length - q) 0 (fun _ => ⟨rfl, rfl⟩)
        ⟨⟨rfl, rfl, rfl, rfl, rfl, rfl, rfl, trivial⟩, ⟨rfl, rfl, trivial⟩, Ext.refl _, Nat.zero_le _⟩ ?_
      rintro i w15 hh15 ⟨x15, hi⟩
      refine And.intro (fun h4 => ?_) (fun h4 => ?_)
      · have hlt := of_decide_eq_true h4
        have hiZ : i < Z.length := by omega
        refine vLoop_mk (σ := Nat × Bool) (fun q => [(2, .p 0 0), (3, .p 1 0), (5, .v (.slice Ax X.length cx)), (6, .v (.slice Ay Y.length cy)), (7, .v (.slice Az Z.length cz)), (8, .v (.slice Au U.length cu)), (9, .v (.int .i64 i)), (10, .v (.bool q.2)), (11, .v (.int .i64 q.1))]) (fun _ => [(0, [.v (.int .u8 k), .v (.int .i64 n), .v (.string s), .v (.slice la ls.length lc), .v (.slice ta ts.length tc)]), (1, [.v (.int .u8 k'), .v (.int .i64 n'), .v (.string s'), .v (.slice la' ls'.length lc'), .v (.slice ta' ts'.length tc')])])
          (fun q w' => Ext w15 w' ∧ q.1 ≤ X.length ∧ q.2 = decide (Z[i] ∈ X.take q.1)) (fun q => X.length - q.1) (0, false) (fun _ => ⟨rfl, rfl⟩)
          ⟨⟨rfl, rfl, rfl, rfl, rfl, rfl, rfl, rfl, rfl, trivial⟩, ⟨rfl, rfl, trivial⟩, Ext.refl _, Nat.zero_le _, by simp⟩ ?_
        rintro ⟨m, bb⟩ w16 hh16 ⟨x16, hm, hbb⟩
        simp only at hm hbb
        refine And.intro (fun h5 => ?_) (fun h5 => ?_)
        · have hlt5 := of_decide_eq_true h5
          simp only at hlt5
          have hmX : m < X.length := by omega
          refine vDrw_mk [] [0, 1, 2, 3, 4, 5, 6, 7, 8, 9, 10, 11, 12] rfl fun w17 x17 hh17 => ?_
          obtain ⟨p1, f1, _, q1⟩ := (rX.ext (x15.trans (x16.trans x17))).at (zR_get hmX)
          obtain ⟨p2, f2, _, q2⟩ := (rZ.ext (x15.trans (x16.trans x17))).at (zR_get hiZ)
          refine Exists.intro (.pointer (some (p1.add (m * 1)))) (And.intro (fun w' x hh _ => OpT.indexAddr Try.underlying40 Try.sizeOf9 rfl rfl f1 (by omega) ⟨rfl, rfl⟩) ?_)
          refine Exists.intro (encStr X[m]) (And.intro (fun w' x hh _ => OpT.load Try.isAgg9 rfl ((q1.ext x).cell 0 rfl) ⟨rfl, rfl⟩) ?_)
          refine Exists.intro (.pointer (some (p2.add (i * 1)))) (And.intro (fun w' x hh _ => OpT.indexAddr Try.underlying40 Try.sizeOf9 rfl rfl f2 (by omega) ⟨rfl, rfl⟩) ?_)
          refine Exists.intro (encStr Z[i]) (And.intro (fun w' x hh _ => OpT.load Try.isAgg9 rfl ((q2.ext x).cell 0 rfl) ⟨rfl, rfl⟩) ?_)
          refine vsd (by simp only [inKind]; omega) ?_
          refine Exists.intro (m + 1, _) ⟨by simp only; omega, ⟨rfl, rfl, rfl, rfl, rfl, rfl, rfl, rfl, rfl, trivial⟩, ⟨rfl, rfl, trivial⟩, x16.trans x17, hmX, ?_⟩
          simp only
          rw [mem_take_succ X m hmX, hbb]
          generalize decide (Z[i] ∈ X.take m) = q
          cases q <;> simp [sel, str_inj]
        · have hge5 := of_decide_eq_false h5
          simp only at hge5
          have hmL : X.take m = X := List.take_of_length_le (by omega)
          clear h5 hge5
          refine vLoop_mk (σ := Nat × Bool) (fun q => [(2, .p 0 0), (3, .p 1 0), (5, .v (.slice Ax X.length cx)), (6, .v (.slice Ay Y.length cy)), (7, .v (.slice Az Z.length cz)), (8, .v (.slice Au U.length cu)), (9, .v (.int .i64 i)), (10, .v (.bool q.2)), (12, .v (.int .i64 q.1))]) (fun _ => [(0, [.v (.int .u8 k), .v (.int .i64 n), .v (.string s), .v (.slice la ls.length lc), .v (.slice ta ts.length tc)]), (1, [.v (.int .u8 k'), .v (.int .i64 n'), .v (.string s'), .v (.slice la' ls'.length lc'), .v (.slice ta' ts'.length tc')])])
            (fun q w' => Ext w15 w' ∧ q.1 ≤ Y.length ∧ q.2 = (decide (Z[i] ∈ X) || decide (Z[i] ∈ Y.take q.1))) (fun q => Y.length - q.1) (0, bb) (fun _ => ⟨rfl, rfl⟩)
            ⟨⟨rfl, rfl, rfl, rfl, rfl, rfl, rfl, rfl, rfl, trivial⟩, ⟨rfl, rfl, trivial⟩, x16, Nat.zero_le _, by rw [hbb, hmL]; simp⟩ ?_
          rintro ⟨m, b2⟩ w18 hh18 ⟨x18, hm, hb2⟩
          simp only at hm hb2
          refine And.intro (fun h5 => ?_) (fun h5 => ?_)
          · have hlt5 := of_decide_eq_true h5
            simp only at hlt5
            have hmX : m < Y.length := by omega
            refine vDrw_mk [] [0, 1, 2, 3, 4, 5, 6, 7, 8, 9, 10, 11, 12] rfl fun w17 x17 hh17 => ?_
            obtain ⟨p1, f1, _, q1⟩ := (rY.ext (x15.trans (x18.trans x17))).at (zR_get hmX)
            obtain ⟨p2, f2, _, q2⟩ := (rZ.ext (x15.trans (x18.trans x17))).at (zR_get hiZ)
            refine Exists.intro (.pointer (some (p1.add (m * 1)))) (And.intro (fun w' x hh _ => OpT.indexAddr Try.underlying40 Try.sizeOf9 rfl rfl f1 (by omega) ⟨rfl, rfl⟩) ?_)
            refine Exists.intro (encStr Y[m]) (And.intro (fun w' x hh _ => OpT.load Try.isAgg9 rfl ((q1.ext x).cell 0 rfl) ⟨rfl, rfl⟩) ?_)
            refine Exists.intro (.pointer (some (p2.add (i * 1)))) (And.intro (fun w' x hh _ => OpT.indexAddr Try.underlying40 Try.sizeOf9 rfl rfl f2 (by omega) ⟨rfl, rfl⟩) ?_)
            refine Exists.intro (encStr Z[i]) (And.intro (fun w' x hh _ => OpT.load Try.isAgg9 rfl ((q2.ext x).cell 0 rfl) ⟨rfl, rfl⟩) ?_)
            refine vsd (by simp only [inKind]; omega) ?_
            refine Exists.intro (m + 1, _) ⟨by simp only; omega, ⟨rfl, rfl, rfl, rfl, rfl, rfl, rfl, rfl, rfl, trivial⟩, ⟨rfl, rfl, trivial⟩, x18.trans x17, hmX, ?_⟩
            simp only
            rw [mem_take_succ Y m hmX, hb2]
            generalize decide (Z[i] ∈ Y.take m) = q
            generalize decide (Z[i] ∈ X) = q'
            cases q <;> cases q' <;> simp [sel, str_inj]
          · have hge5 := of_decide_eq_false h5
            simp only at hge5
            have hmL2 : Y.take m = Y := List.take_of_length_le (by omega)
            have hb3 : b2 = true := by
              rw [hb2, hmL2]
              rcases memz i hiZ with h6 | h6 <;> simp [h6]
            subst hb3
            clear hb2 hm hge5 h5
            refine vDrw_mk [23] [0, 1, 2, 3, 4, 5, 6, 7, 8, 9, 10, 11, 12, 13, 14, 15, 16, 17, 18, 19, 20, 21, 22, 23, 24, 25] rfl fun w19 x19 hh19 => ?_
            have x1519 := x15.trans (x18.trans x19)
            obtain ⟨p1, f1, _, q1⟩ := (rZ.ext x1519).at (zR_get (show i - 1 < Z.length by omega))
            obtain ⟨p2, f2, _, q2⟩ := (rZ.ext x1519).at (zR_get hiZ)
            have hix : ∀ _ : 0 < i, ((i : Int) - 1).toNat = i - 1 := fun _ => by omega
            refine And.intro (fun _ _ => by simp only [inKind]; omega) ?_
            refine Exists.intro (.pointer (some (p1.add (((i : Int) - 1).toNat * 1)))) (And.intro (fun w' x hh _ hp => OpT.indexAddr Try.underlying40 Try.sizeOf9 rfl rfl f1 (by have := of_decide_eq_true hp; omega) ⟨rfl, rfl⟩) ?_)
            refine Exists.intro (encStr Z[i - 1]) (And.intro (fun w' x hh _ hp => OpT.load Try.isAgg9 rfl (by rw [hix (by have := of_decide_eq_true hp; omega)]; exact (q1.ext x).cell 0 rfl) ⟨rfl, rfl⟩) ?_)
            refine Exists.intro (.pointer (some (p2.add (i * 1)))) (And.intro (fun w' x hh _ _ => OpT.indexAddr Try.underlying40 Try.sizeOf9 rfl rfl f2 (by omega) ⟨rfl, rfl⟩) ?_)
            refine Exists.intro (encStr Z[i]) (And.intro (fun w' x hh _ _ => OpT.load Try.isAgg9 rfl ((q2.ext x).cell 0 rfl) ⟨rfl, rfl⟩) ?_)
            refine Exists.intro (.pointer (some (p2.add (i * 1)))) (And.intro (fun w' x hh _ => OpT.indexAddr Try.underlying40 Try.sizeOf9 rfl rfl f2 (by omega) ⟨rfl, rfl⟩) ?_)
            refine Exists.intro (encStr Z[i]) (And.intro (fun w' x hh _ => OpT.load Try.isAgg9 rfl ((q2.ext x).cell 0 rfl) ⟨rfl, rfl⟩) ?_)
            refine Or.inl (Exists.intro (.bool (nameB ⟨Z[i].toArray⟩)) (And.intro (fun _ => tname_runs _ (by have := nameB_le (namz i hiZ); omega) _) (fun w20 x20 hh20 => ?_)))
            have hless : 0 < i → Op.bytesLess (⟨Z[i - 1].toArray⟩ : ByteArray).toList (⟨Z[i].toArray⟩ : ByteArray).toList = true := fun h0 => by
              rw [ByteArray.toList_eq, ByteArray.toList_eq, Go.Proofs.bytesLess_eq]
              exact decide_eq_true (riz (i - 1) i (by omega) hiZ (by omega))
            have hnz := namz i hiZ
            refine And.intro (fun h8 => ?_) (fun h8 => ?_)
            · refine absurd h8 ?_
              rw [hnz]
              by_cases h0 : 0 < i
              · rw [hless h0]; simp [sel]
              · simp [sel]; omega
            · refine vsd (by simp only [inKind]; omega) ?_
              exact Exists.intro (i + 1) ⟨by omega, ⟨rfl, rfl, rfl, rfl, rfl, rfl, rfl, trivial⟩, ⟨rfl, rfl, trivial⟩, x1519.trans x20, hiZ⟩
      · have y15 := y14.trans x15
        clear h4 hi
        refine vDrw_mk [2, 4, 5, 9] [0, 1, 3, 2, 4, 5, 6, 7, 8, 9, 10, 11] rfl fun w16 x16 hh16 => ?_
        have y16 := y15.trans x16
        refine vcE (exE (lL_runs a b _ _ w16 (fun _ => True) tr (hva.ext y16) (hvb.ext y16))) hh16 ?_
        rintro _ w17 x17 hh17 ⟨cL2, rfl, hvL2⟩
        refine And.intro x17 ?_
        have y17 := y16.trans x17
        refine vcE (exE (lP_runs (tL a b) a _ _ w17 (fun _ => True) tr hvL2 (hva.ext y17))) hh17 ?_
        rintro _ w18 x18 hh18 ⟨cP2, rfl, hvP2⟩
        refine vcS (rMay_runs _ _ w18 _ hvP2) hh18 fun w19 x19 hh19 => ?_
        have x1419 := x15.trans (x16.trans (x17.trans (x18.trans x19)))
        refine Or.inl (Exists.intro (.bool (decide (U = Z))) (And.intro (fun _ => strings_runs Au Az cu cz U Z w19 (rU.ext x1419) (rZ.ext x1419) (by omega) (by omega)) (fun w20 x20 hh20 => ?_)))
        refine And.intro (fun h => ?_) (fun _ => ?_)
        · exfalso
          cases hmp : mayT (tP (tL a b) a) with
          | true => rw [hmp, eu hmp] at h; simp [sel] at h
          | false => rw [hmp] at h; simp [sel] at h
        have x1420 := x1419.trans x20
        refine vLoop_mk (σ := Nat × Nat) (fun q => [(5, .v (.slice Ax X.length cx)), (6, .v (.slice Ay Y.length cy)), (7, .v (.slice Az Z.length cz)), (13, .v (.int .i64 q.2)), (14, .v (.int .i64 q.1))]) (fun _ => []) (fun q w' => Ext w14 w' ∧ q.1 ≤ X.length ∧ q.2 = cnt (X.take q.1) Y) (fun q => X.length - q.1) (0, 0) (fun _ => ⟨rfl, rfl⟩)
          ⟨⟨rfl, rfl, rfl, rfl, rfl, trivial⟩, trivial, x1420, Nat.zero_le _, rfl⟩ ?_
        rintro ⟨i, m⟩ w21 hh21 ⟨x21, hi, hm⟩
        simp only at hi hm
        refine And.intro (fun h5 => ?_) (fun h5 => ?_)
        · have hlt := of_decide_eq_true h5
          simp only at hlt
          have hiX : i < X.length := by omega
          refine vLoop_mk (σ := Nat × Nat) (fun q => [(5, .v (.slice Ax X.length cx)), (6, .v (.slice Ay Y.length cy)), (7, .v (.slice Az Z.length cz)), (13, .v (.int .i64 q.2)), (14, .v (.int .i64 i)), (15, .v (.int .i64 q.1))]) (fun _ => []) (fun q w' => Ext w14 w' ∧ q.1 ≤ Y.length ∧ q.2 = cnt (X.take i) Y + cnt1 X[i] (Y.take q.1)) (fun q => Y.length - q.1) (0, m) (fun _ => ⟨rfl, rfl⟩)
            ⟨⟨rfl, rfl, rfl, rfl, rfl, rfl, trivial⟩, trivial, x21, Nat.zero_le _, by simp only [List.take_zero]; rw [hm]; rfl⟩ ?_
          rintro ⟨j, m2⟩ w22 hh22 ⟨x22, hj, hm2⟩
          simp only at hj hm2
          have hb1 := cnt_le (X.take i) Y
          have hb2 := cnt1_le X[i] (Y.take j)
          have hb3 : (X.take i).length * Y.length ≤ 100000 * 100000 := Nat.mul_le_mul (by rw [List.length_take]; omega) ly
          have hb4 : (Y.take j).length ≤ 100000 := by rw [List.length_take]; omega
          refine And.intro (fun h6 => ?_) (fun h6 => ?_)
          · have hlt6 := of_decide_eq_true h6
            simp only at hlt6
            have hjY : j < Y.length := by omega
            refine vDrw_mk [] [0, 1, 2, 3, 4, 5, 6, 7, 8] rfl fun w23 x23 hh23 => ?_
            obtain ⟨p1, f1, _, q1⟩ := (rX.ext (x22.trans x23)).at (zR_get hiX)
            obtain ⟨p2, f2, _, q2⟩ := (rY.ext (x22.trans x23)).at (zR_get hjY)
            refine Exists.intro (.pointer (some (p1.add (i * 1)))) (And.intro (fun w' x hh => OpT.indexAddr Try.underlying40 Try.sizeOf9 rfl rfl f1 (by omega) ⟨rfl, rfl⟩) ?_)
            refine Exists.intro (encStr X[i]) (And.intro (fun w' x hh => OpT.load Try.isAgg9 rfl ((q1.ext x).cell 0 rfl) ⟨rfl, rfl⟩) ?_)
            refine Exists.intro (.pointer (some (p2.add (j * 1)))) (And.intro (fun w' x hh => OpT.indexAddr Try.underlying40 Try.sizeOf9 rfl rfl f2 (by omega) ⟨rfl, rfl⟩) ?_)
            refine Exists.intro (encStr Y[j]) (And.intro (fun w' x hh => OpT.load Try.isAgg9 rfl ((q2.ext x).cell 0 rfl) ⟨rfl, rfl⟩) ?_)
            refine And.intro (fun h7 => ?_) (fun h7 => ?_)
            · have he : X[i] = Y[j] := (str_inj _ _).1 (by simpa using h7)
              refine vsd (by simp only [inKind]; omega) ?_
              refine vsd (by simp only [inKind]; omega) ?_
              exact Exists.intro (j + 1, m2 + 1) ⟨by simp only; omega, ⟨rfl, rfl, rfl, rfl, rfl, rfl, trivial⟩, trivial, x22.trans x23, hjY, by simp only; rw [cnt1_take Y j hjY, if_pos he, hm2]; omega⟩
            · have he : X[i] ≠ Y[j] := fun e => by rw [e] at h7; simp at h7
              refine vsd (by simp only [inKind]; omega) ?_
              exact Exists.intro (j + 1, m2) ⟨by simp only; omega, ⟨rfl, rfl, rfl, rfl, rfl, rfl, trivial⟩, trivial, x22.trans x23, hjY, by simp only; rw [cnt1_take Y j hjY, if_neg he, hm2]; omega⟩
          · have hge6 := of_decide_eq_false h6
            simp only at hge6
            have hjl : j = Y.length := by omega
            subst hjl
            rw [List.take_length] at hm2
            refine vsd (by simp only [inKind]; omega) ?_
            exact Exists.intro (i + 1, m2) ⟨by simp only; omega, ⟨rfl, rfl, rfl, rfl, rfl, trivial⟩, trivial, x22, hiX, by simp only; rw [cnt_take X i hiX, hm2]⟩
        · have hge5 := of_decide_eq_false h5
          simp only at hge5
          have hil : i = X.length := by omega
          subst hil
          rw [List.take_length] at hm
          refine vsd (by simp only [inKind]; omega) ?_
          refine vsd (by simp only [inKind]; omega) ?_
          have hfin : (Z.length : Int) = X.length + Y.length - m := by omega
          refine vyes (show decide ((Z.length : Int) = X.length + Y.length - m) = true from decide_eq_true hfin) ?_
          refine vcS (works_runs _) hh21 fun w24 x24 hh24 => ?_
          exact ⟨congrArg Value.bool (show sel (decide ((Z.length : Int) = X.length + Y.length - m)) true false = true by rw [decide_eq_true hfin]; rfl), y14.trans (x21.trans x24)⟩
end Go.Proofs.Ytmmhamabkiffaaa

