/-
  The law CachePlays.
-/
import Derived.Test.YtmibjillclfogaaDoorC16
namespace Go.Proofs.YtmibjillclfogaaDoor
open Go Go.RowKit Go.Proofs.Bw
set_option linter.unusedVariables false
set_option linter.unusedSimpArgs false

set_option maxRecDepth 20000 in
set_option maxHeartbeats 2000000 in
theorem CachePlays_runs {R : Nat → Prop} (most : Int) (hmost : i64ok most) (A : Option Addr) (ts : List T) (tc0 : Nat) (B : Option Addr) (l : List St) (cl : Nat) (w : World) (hR : ∀ k, R k → k < w.heap.size) (hts : SlT w R A ts) (htc : lenOk ts.length tc0) (hl : Rd w R 3 B (stR l)) (hok : ∀ s ∈ l, s.ok) (hcl : lenOk l.length cl) (hT : Tb w.heap.size w) :
    Runs Tryd.prog 3 #[.int .i64 most, .slice A ts.length tc0, .slice B l.length cl] w fun v w' => v = .bool true ∧ Ext w w' := by
  refine Runs.of_vc cx_ok [0, 1, 2, 6, 7, 8, 9, 10, 11, 12, 25, 37, 52, 59, 90, 99, 115] [.v _, .v _, .v _] Tryd.func3 rfl rfl rfl (Holds.nil _) ?_
  refine vcE (few_runs A ts tc0 w hts htc) (Holds.nil _) ?_
  rintro _ w1 x1 hh1 ⟨b, rfl⟩
  refine And.intro (fun h => ?_) (fun h => ?_)
  · refine vcS (works_CS hT x1) (Holds.nil _) fun w2 x2 hh2 => ?_
    exact ⟨rfl, x1.trans x2⟩
  have hlen : l.length ≤ 200 ∧ 0 < ts.length := by
    have h1 : decide (200 < (l.length : Int)) = false ∧ decide ((ts.length : Int) = 0) = false := by
      cases b <;> cases h1 : decide (200 < (l.length : Int)) <;> cases h2 : decide ((ts.length : Int) = 0) <;> first | exact ⟨rfl, rfl⟩ | (exfalso; rw [h1, h2] at h; simp [sel] at h)
    have a1 := of_decide_eq_false h1.1
    have a2 := of_decide_eq_false h1.2
    omega
  clear h
  by_cases hm : 1 ≤ most ∧ most ≤ 4096
  case neg =>
    refine vcE (New_runs most w1) (Holds.nil _) ?_
    rintro _ w2 x2 hh2 ⟨-, hn⟩
    obtain rfl := hn hm
    refine And.intro (fun h => ?_) (fun h => ?_)
    · refine vyes rfl ?_
      refine vcS (works_CS hT (x1.trans x2)) (Holds.nil _) fun w3 x3 hh3 => ?_
      exact ⟨rfl, (x1.trans x2).trans x3⟩
    · exfalso
      simp only [sel, Bool.or_eq_true, Bool.and_eq_true, Bool.not_eq_true', Bool.not_eq_false', decide_eq_true_eq, decide_eq_false_iff_not, Bool.or_eq_false_iff, Bool.and_eq_false_iff, Bool.and_false, Bool.or_false, Bool.and_true, Bool.or_true, Bool.true_and, Bool.false_or, Bool.true_or, Bool.false_and, Bool.false_eq_true, Bool.true_eq_false, or_false, false_or, and_true, true_and, Bool.not_true, Bool.not_false, sel] at h
      omega
  obtain ⟨mo, rfl⟩ : ∃ mo : Nat, most = mo := ⟨most.toNat, by omega⟩
  refine vcE (New_runs mo w1) (Holds.nil _) ?_
  rintro _ w2 x2 hh2 ⟨hy, -⟩
  obtain ⟨g, own, rfl, hg, h2, ho⟩ := hy hm
  rw [Int.toNat_natCast] at h2
  refine And.intro (fun h => ?_) (fun _ => ?_)
  · exfalso
    simp only [sel, Bool.or_eq_true, Bool.and_eq_true, Bool.not_eq_true', Bool.not_eq_false', decide_eq_true_eq, decide_eq_false_iff_not, Bool.or_eq_false_iff, Bool.and_eq_false_iff, Bool.and_false, Bool.or_false, Bool.and_true, Bool.or_true, Bool.true_and, Bool.false_or, Bool.true_or, Bool.false_and, Bool.false_eq_true, Bool.true_eq_false, or_false, false_or, and_true, true_and, Bool.not_true, Bool.not_false, sel] at h
    omega
  refine And.intro (fun h => by simp [sel] at h) (fun _ => ?_)
  intro g2 w3 e3 x3 z3 hh3
  have y2 := x1.trans x2
  have y3 := y2.trans x3
  have z2 : w.heap.size ≤ w2.heap.size := y2.size
  have r0 : RAt w3 w.heap.size R g2 mo [] none 0 := ⟨hh3.box 0 _ rfl, OwnR.nil _ _ _ _, (fun ⟨p, hp, _⟩ => by cases hp), by have : g2 = w2.heap.size := e3; omega, fun e he => (by cases he), hR⟩
  have ol := h2.own_lt
  refine vLoop_mk (σ := Nat × List SP × List PE) (fun q => [(1, .v (.slice A ts.length tc0)), (2, .v (.slice B l.length cl)), (7, .v (.pointer (some ⟨g, 0, none⟩))), (9, .p 0 0), (10, .v (.int .i64 q.1))]) (fun _ => [])
    (fun q w' => Ext w w' ∧ Ch.ok ⟨mo, q.2.1⟩ ∧ Rel ⟨mo, q.2.1⟩ q.2.2 ∧ q.1 ≤ l.length ∧ ∃ own A2 c2, ChAt w' w1.heap.size g ⟨mo, q.2.1⟩ own ∧ RAt w' w.heap.size R g2 mo q.2.2 A2 c2 ∧ (∀ k, own k → w.heap.size ≤ k ∧ k ≠ g2 ∧ ¬ ownOf A2 k)) (fun q => l.length - q.1) (0, [], []) (fun _ => ⟨rfl, rfl⟩)
    ⟨⟨rfl, rfl, rfl, rfl, rfl, trivial⟩, trivial, y3, ⟨by simp only; omega, by simp only; omega, Nat.zero_le _, List.nodup_nil⟩, ⟨rfl, fun e he => (by cases he)⟩, Nat.zero_le _, own, none, 0, h2.ext x3, r0, fun k hk => ⟨by have := ho k hk; have := x1.size; omega, fun e => by have := ol k hk; have : g2 = w2.heap.size := e3; omega, fun ⟨p, hp, _⟩ => by cases hp⟩⟩ ?_
  rintro ⟨i, ql, L⟩ w4 hh4 ⟨x4, qok, rel, hi, own, A2, c2, ch4, rt4, hd⟩
  simp only at qok rel hi ch4 rt4 hd
  refine And.intro (fun h => ?_) (fun h => ?_)
  · have hil : i < l.length := by have := of_decide_eq_true h; omega
    clear h
    obtain ⟨hwa, hwb⟩ := hok _ (List.getElem_mem hil)
    obtain ⟨a1, ha1, hR1, hrow⟩ := (hl.ext x4).at (stR_get hil)
    refine OpT.indexAddr Tryd.underlying23 Tryd.sizeOf38 rfl rfl ha1 (by omega) ?_
    refine Lands.v hh4 ?_
    refine OpT.load Tryd.isAgg5 rfl (hrow.cell 1 rfl) ?_
    refine Lands.v hh4 ?_
    refine vsd (by simp only [inKind]; omega) ?_
    refine vsd (by omega) ?_
    obtain ⟨ja, hja⟩ : ∃ ja : Nat, ((l[i].a : Nat) : Int) % (ts.length : Int) = ja := ⟨l[i].a % ts.length, by rw [Int.natCast_emod]⟩
    have hja1 : ja < ts.length := by have := Int.emod_lt_of_pos ((l[i].a : Nat) : Int) (show (0 : Int) < ts.length by omega); omega
    rw [hja]
    obtain ⟨a2, csA, ha2, hR2, hrowA, hvA⟩ := (hts.ext x4).at hja1
    refine OpT.indexAddr Tryd.underlying22 Tryd.sizeOf36 rfl rfl ha2 (by omega) ?_
    refine Lands.v hh4 ?_
    revert hvA
    generalize ts[ja] = tA
    intro hvA
    have hvA0 := hvA
    obtain ⟨k, n, s, ls, us, la, lc, ta, tc, ea, rfl, -⟩ := hvA.inv
    refine OpT.loadA (cs := [.int .u8 k, .int .i64 n, .string s, .slice la ls.length lc, .slice ta us.length tc]) Tryd.isAgg36 Tryd.sizeOf36 rfl hrowA ?_
    refine Lands.ret (s := .a [.v (.int .u8 k), .v (.int .i64 n), .v (.string s), .v (.slice la ls.length lc), .v (.slice ta us.length tc)]) rfl rfl hh4 ?_
    intro ga w5 e5 x5 z5 hh5
    intro w6 m6 z6 hh6
    replace m6 : Upd ga w5 w6 := m6
    have x46 : Ext w4 w6 := x5.upd m6 (by omega)
    have y6 := x4.trans x46
    obtain ⟨a1, ha1, hR1, hrow⟩ := (hl.ext y6).at (stR_get hil)
    refine OpT.indexAddr Tryd.underlying23 Tryd.sizeOf38 rfl rfl ha1 (by omega) ?_
    refine Lands.v hh6 ?_
    refine OpT.load Tryd.isAgg5 rfl (hrow.cell 2 rfl) ?_
    refine Lands.v hh6 ?_
    refine vsd (by simp only [inKind]; omega) ?_
    refine vsd (by omega) ?_
    obtain ⟨jb, hjb⟩ : ∃ jb : Nat, ((l[i].b : Nat) : Int) % (ts.length : Int) = jb := ⟨l[i].b % ts.length, by rw [Int.natCast_emod]⟩
    have hjb1 : jb < ts.length := by have := Int.emod_lt_of_pos ((l[i].b : Nat) : Int) (show (0 : Int) < ts.length by omega); omega
    rw [hjb]
    obtain ⟨a3, csB, ha3, hR3, hrowB, hvB⟩ := (hts.ext y6).at hjb1
    refine OpT.indexAddr Tryd.underlying22 Tryd.sizeOf36 rfl rfl ha3 (by omega) ?_
    refine Lands.v hh6 ?_
    revert hvB
    generalize ts[jb] = tB
    intro hvB
    have hvB0 := hvB
    obtain ⟨k', n', s', ls', us', la', lc', ta', tc', eb, rfl, -⟩ := hvB.inv
    refine OpT.loadA (cs := [.int .u8 k', .int .i64 n', .string s', .slice la' ls'.length lc', .slice ta' us'.length tc']) Tryd.isAgg36 Tryd.sizeOf36 rfl hrowB ?_
    refine Lands.ret (s := .a [.v (.int .u8 k'), .v (.int .i64 n'), .v (.string s'), .v (.slice la' ls'.length lc'), .v (.slice ta' us'.length tc')]) rfl rfl hh6 ?_
    intro gb w7 e7 x7 z7 hh7
    intro w8 m8 z8 hh8
    replace m8 : Upd gb w7 w8 := m8
    have x68 : Ext w6 w8 := x7.upd m8 (by omega)
    have x48 := x46.trans x68
    have y8 := y6.trans x68
    obtain ⟨a1, ha1, hR1, hrow⟩ := (hl.ext y8).at (stR_get hil)
    refine OpT.indexAddr Tryd.underlying23 Tryd.sizeOf38 rfl rfl ha1 (by omega) ?_
    refine Lands.v hh8 ?_
    refine OpT.load Tryd.isAgg4 rfl (hrow.cell 0 rfl) ?_
    refine Lands.v hh8 ?_
    have ch8 := ch4.ext x48
    have rt8 := rt4.ext x48
    have hlL : L.length ≤ 1000000 := by have := rel.len; have := qok.2.2.1; have := qok.2.1; simp only at *; omega
    refine And.intro (fun hask => ?_) (fun hask => ?_)
    · refine vDrw_mk [3, 7] [0, 1, 2, 4, 5, 6, 3, 7, 8] rfl fun w9 x9 hh9 => ?_
      have y9 := y8.trans x9
      refine vcS (Has_runs g _ own tA tB _ _ w9 R (ch8.ext x9) (hvA0.ext (x48.trans x9)) (hvB0.ext (x68.trans x9)) (hT.ext y9 (Nat.le_refl _)) y9.size) hh9 fun w10 x10 hh10 => ?_
      have cr := rHas_runs g2 mo L A2 c2 tA tB _ _ w10 ((rt8.ext x9).ext x10) (hvA0.ext (x48.trans (x9.trans x10))) (hvB0.ext (x68.trans (x9.trans x10))) hlL
      rw [← has_eq rel tA tB] at cr
      refine And.intro x10 ?_
      refine vcS cr hh10 fun w11 x11 hh11 => ?_
      refine And.intro (fun h => by simp at h) (fun _ => ?_)
      have y11 := y9.trans (x10.trans x11)
      have ch11 := ch8.ext (x9.trans (x10.trans x11))
      have rt11 := rt8.ext (x9.trans (x10.trans x11))
      refine vDrw_mk [1] [0, 2, 3, 4, 5, 6, 1, 7] rfl fun w12 x12 hh12 => ?_
      have ch12 := ch11.ext x12
      have rt12 := rt11.ext x12
      refine Exists.intro (.slice A2 L.length c2) (And.intro (fun w' x hh => OpT.loadB (b := g2) (i := 1) Tryd.isAgg31 rfl (rt12.box.ext x) rfl ⟨rfl, rfl⟩) ?_)
      have cL := Len_runs g _ _ w12 ch12
      simp only [rel.len] at cL
      refine vcS cL hh12 fun w13 x13 hh13 => ?_
      refine And.intro x13 ?_
      refine And.intro (fun h => by simp at h) (fun _ => ?_)
      refine vsd (by simp only [inKind]; omega) ?_
      exact Exists.intro (i + 1, ql, L) ⟨by show l.length - (i + 1) < l.length - i; omega, ⟨rfl, rfl, rfl, rfl, rfl, trivial⟩, trivial, y11.trans (x12.trans x13), qok, rel, hil, _, A2, c2, ch12.ext x13, rt12.ext x13, hd⟩
    · have g2w : g2 < w8.heap.size := rt8.box.lt
      have A2w : ∀ k, ownOf A2 k → k < w8.heap.size := fun k ⟨p, hp, hk⟩ => by rw [hk]; exact (rt8.own.block hp).2
      have hga : w4.heap.size ≤ ga ∧ w4.heap.size ≤ gb := ⟨by omega, by have := x46.size; omega⟩
      have owl := ch4.own_lt
      refine (Put_runs g ⟨mo, ql⟩ own tA tB _ _ w8 R ch8 qok (hvA0.ext x48) (hvB0.ext x68) (hT.ext y8 (Nat.le_refl _)) y8.size ch8.size).mono ?_
      rintro _ w9 ⟨rfl, own9, ch9, m9, f9⟩
      have hh9 := hh8.mod m9 (fun i hi h => by
        match i, hi with
        | 0, _ => exact (hd _ h).2.1 rfl
        | 1, _ => have h1 : ga < w4.heap.size := owl _ h; omega
        | 2, _ => have h1 : gb < w4.heap.size := owl _ h; omega)
      refine Lands.v hh9 ?_
      have rt9 := rt8.mod m9 (fun h => (hd _ h).2.1 rfl) (fun k hk h => (hd _ h).2.2 hk) (fun k hk => (hd k hk).1)
      have hRo : ∀ k, R k → ¬ own k := fun k h1 h2 => by have := hR k h1; have := (hd k h2).1; omega
      have y9 : Ext w w9 := Ext.own y8 m9 fun k hk => (hd k hk).1
      refine (rPut_runs g2 mo L A2 c2 tA tB _ _ w9 rt9 ((hvA0.ext x48).mod m9 hRo) ((hvB0.ext x68).mod m9 hRo) hlL).mono ?_
      rintro _ w11 ⟨rfl, A3, c3, rt11, m11, f11⟩
      refine Lands.to (H' := []) (s := .v _) rfl rfl hh9 m11.size trivial rfl fun hh11 => ?_
      have hd9 : ∀ k, own9 k → w.heap.size ≤ k ∧ k ≠ g2 ∧ ¬ ownOf A2 k := fun k hk => by
        rcases f9 k hk with h1 | h1
        · exact hd k h1
        · refine ⟨by have := y8.size; omega, by omega, fun h2 => ?_⟩
          have := A2w k h2; omega
      have own9l := ch9.own_lt
      have ch11 := ch9.mod m11 (fun k hk h => h.elim (hd9 k hk).2.1 (hd9 k hk).2.2)
      have y11 : Ext w w11 := Ext.own y9 m11 fun k hk => hk.elim (fun h => by rw [h]; exact rt9.lo_) fun ⟨p, hp, hk⟩ => by rw [hk]; exact (rt9.own.block hp).1
      have rel3 : Rel (Ch.put ⟨mo, ql⟩ tA tB) (putR mo ⟨[.int .u8 k, .int .i64 n, .string s, .slice la ls.length lc, .slice ta us.length tc], [.int .u8 k', .int .i64 n', .string s', .slice la' ls'.length lc', .slice ta' us'.length tc'], tA, tB⟩ L) := put_rel rel qok ⟨[.int .u8 k, .int .i64 n, .string s, .slice la ls.length lc, .slice ta us.length tc], [.int .u8 k', .int .i64 n', .string s', .slice la' ls'.length lc', .slice ta' us'.length tc'], tA, tB⟩
      have qok3 := Ch.put_ok qok tA tB
      have hd3 : ∀ k, own9 k → w.heap.size ≤ k ∧ k ≠ g2 ∧ ¬ ownOf A3 k := fun k hk => ⟨(hd9 k hk).1, (hd9 k hk).2.1, fun h => (f11 k h).elim (hd9 k hk).2.2 fun h => by have := own9l k hk; omega⟩
      have em : (Ch.put ⟨mo, ql⟩ tA tB) = ⟨mo, (Ch.put ⟨mo, ql⟩ tA tB).l⟩ := by unfold Ch.put; split <;> rfl
      revert rt11 rel3 qok3 ch11 em
      generalize putR mo ⟨[.int .u8 k, .int .i64 n, .string s, .slice la ls.length lc, .slice ta us.length tc], [.int .u8 k', .int .i64 n', .string s', .slice la' ls'.length lc', .slice ta' us'.length tc'], tA, tB⟩ L = L3
      generalize Ch.put ⟨mo, ql⟩ tA tB = qq
      obtain ⟨mq, q3⟩ := qq
      intro rt11 ch11 rel3 qok3 em
      injection em with em1 _
      subst em1
      refine vDrw_mk [1] [0, 2, 3, 4, 5, 6, 1, 7] rfl fun w12 x12 hh12 => ?_
      have ch12 := ch11.ext x12
      have rt12 := rt11.ext x12
      refine Exists.intro (.slice A3 L3.length c3) (And.intro (fun w' x hh => OpT.loadB (b := g2) (i := 1) Tryd.isAgg31 rfl (rt12.box.ext x) rfl ⟨rfl, rfl⟩) ?_)
      have cL := Len_runs g _ _ w12 ch12
      simp only [rel3.len] at cL
      refine vcS cL hh12 fun w13 x13 hh13 => ?_
      refine And.intro x13 ?_
      refine And.intro (fun h => by simp at h) (fun _ => ?_)
      refine vsd (by simp only [inKind]; omega) ?_
      exact Exists.intro (i + 1, q3, L3) ⟨by show l.length - (i + 1) < l.length - i; omega, ⟨rfl, rfl, rfl, rfl, rfl, trivial⟩, trivial, y11.trans (x12.trans x13), qok3, rel3, hil, _, A3, c3, ch12.ext x13, rt12.ext x13, hd3⟩
  · refine vcS (works_CS hT x4) hh4 fun w5 x5 hh5 => ?_
    exact ⟨rfl, x4.trans x5⟩
end Go.Proofs.YtmibjillclfogaaDoor

