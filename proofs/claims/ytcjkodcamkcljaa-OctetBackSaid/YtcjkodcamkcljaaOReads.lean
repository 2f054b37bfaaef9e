/-
  Are some items read?
-/
import Derived.Test.YtcjkodcamkcljaaO10
namespace Go.Proofs.Ytcjkodcamkcljaa
open Go Go.RowKit Go.Proofs.Bw
set_option linter.unusedVariables false
set_option linter.unusedSimpArgs false

theorem reads_runs {R R2 : Nat → Prop} (g : Nat) (r : Rdr) (B : Option Addr) (l : List Itm) (cl : Nat) (w : World) (h : RdrAt w R g r) (hR : ¬ R g) (hRl : ∀ k, R k → k < w.heap.size) (hr : r.ok) (hl : Rd w R2 2 B (iR l)) (hg2 : ¬ R2 g) (hok : ∀ t ∈ l, t.ok) (hcl : lenOk l.length cl) (h40 : l.length ≤ 40) :
    Runs Try.prog 20 #[.pointer (some ⟨g, 0, none⟩), .slice B l.length cl] w fun v w' => v = .bool (readsM r l).2 ∧ Upd g w w' ∧ RdrAt w' R g (readsM r l).1 := by
  have hg : g < w.heap.size := h.choose_spec.choose_spec.1.lt
  refine Runs.of_vc cx_ok [0, 1, 4, 5, 7, 11, 19, 27, 40, 47] [.v _, .v _] Try.func20 rfl rfl rfl (Holds.nil _) ?_
  refine vLoop_mk (σ := Nat × Rdr) (fun q => [(0, .v (.pointer (some ⟨g, 0, none⟩))), (1, .v (.slice B l.length cl)), (5, .v (.int .i64 q.1))]) (fun _ => [])
    (fun q w' => Upd g w w' ∧ RdrAt w' R g q.2 ∧ q.2.ok ∧ q.1 ≤ l.length ∧ readsM r l = readsM q.2 (l.drop q.1)) (fun q => l.length - q.1) (0, r) (fun _ => ⟨rfl, rfl⟩)
    ⟨⟨rfl, rfl, rfl, trivial⟩, trivial, Mod.refl _ _, h, hr, Nat.zero_le _, rfl⟩ ?_
  rintro ⟨i, q⟩ w2 hh ⟨m2, ar, qok, hi, he⟩
  simp only at ar qok hi he
  refine And.intro (fun h2 => ?_) (fun h2 => ?_)
  · have hlt := of_decide_eq_true h2
    simp only at hlt
    have hil : i < l.length := by omega
    rw [List.drop_eq_getElem_cons hil] at he
    have hget : (iR l)[i]? = some l[i].cells := by simp [iR, hil]
    have hl2 : Rd w2 R2 2 B (iR l) := hl.mod m2 fun k hk e => hg2 (by rw [← e]; exact hk)
    obtain ⟨a1, ha1, hR1, hrow⟩ := hl2.at hget
    have sok := hok _ (List.getElem_mem hil)
    have hRl2 : ∀ k, R k → k < w2.heap.size := fun k hk => by have := hRl k hk; have := m2.size; omega
    have hb1 : (a1.add (i * 2)).block ≠ g := by rw [block_add]; intro e; exact hg2 (by rw [← e]; exact hR1)
    refine OpT.indexAddr Try.underlying39 Try.sizeOf42 rfl rfl ha1 (by omega) ?_
    refine Lands.v (Holds.nil _) ?_
    refine OpT.load Try.isAgg9 rfl (hrow.cell 1 rfl) ?_
    refine Lands.v (Holds.nil _) ?_
    refine vcS (Name_runs _ sok.2 _) (Holds.nil _) fun w3 x3 hh3 => ?_
    refine And.intro (fun h3 => ?_) (fun h3 => ?_)
    · refine vDrwS_mk (fun k => k = g) [1] [0, 2, 3, 4, 5, 6, 1, 7] rfl fun w4 x4 hh4 => ?_
      have hl4 : RowAt w4 (a1.add (i * 2)) l[i].cells := (hrow.ext x3).ext x4
      refine Exists.intro (.pointer (some (a1.add (i * 2)))) (And.intro (fun w' x hh => OpT.indexAddr Try.underlying39 Try.sizeOf42 rfl rfl ha1 (by omega) ⟨rfl, rfl⟩) ?_)
      refine Exists.intro (.string l[i].s) (And.intro (fun w' x hh => OpT.load Try.isAgg9 rfl ((hl4.mod x hb1).cell 1 rfl) ⟨rfl, rfl⟩) ?_)
      refine (RName_runs g q w4 ((ar.ext x3).ext x4) hR (fun k hk => by have := hRl2 k hk; have := x3.size; have := x4.size; omega) qok).mono ?_
      rintro _ w5 ⟨rfl, m5, ar5⟩
      refine Lands.v (Holds.nil _) ?_
      refine And.intro m5 ?_
      have hI := readI_name (r := q) h3
      have hI1 : (readI q l[i]).1 = _ := congrArg Prod.fst hI
      have hI2 : (readI q l[i]).2 = _ := congrArg Prod.snd hI
      simp only at hI1 hI2
      have hbs := readI_bs q l[i] qok
      rw [hI1] at hbs
      have m25 : Upd g w w5 := m2.trans ((Ext.toUpd (x3.trans x4)).trans m5)
      refine And.intro (fun h4 => ?_) (fun h4 => ?_)
      · have h4' : (readI q l[i]).2 = false := by rw [hI2]; simp at h4; simp [h4]
        rw [he, readsM_no h4', hI1]
        exact ⟨rfl, m25, ar5⟩
      · refine vcS (Bad_runs g _ _ ar5) (Holds.nil _) fun w6 x6 hh6 => ?_
        refine And.intro (fun h5 => ?_) (fun h5 => ?_)
        · have h5' : (readI q l[i]).2 = false := by rw [hI2]; simp at h5; simp [h5]
          rw [he, readsM_no h5', hI1]
          exact ⟨rfl, m25.trans (Ext.toUpd x6), ar5.ext x6⟩
        · have h5' : (readI q l[i]).2 = true := by rw [hI2]; simp at h4 h5; simp [h4, h5]
          refine vsd (by simp only [inKind]; omega) ?_
          exact Exists.intro (i + 1, _) ⟨by simp only; omega, ⟨rfl, rfl, rfl, trivial⟩, trivial, m25.trans (Ext.toUpd x6), ar5.ext x6, hbs.1, hil, by rw [he, readsM_yes h5', hI1]⟩
    · refine vDrwS_mk (fun k => k = g) [6] [0, 1, 2, 3, 4, 5, 7, 8, 9, 10, 11, 6, 12] rfl fun w4 x4 hh4 => ?_
      have hl4 : RowAt w4 (a1.add (i * 2)) l[i].cells := (hrow.ext x3).ext x4
      refine Exists.intro (.pointer (some (a1.add (i * 2)))) (And.intro (fun w' x hh => OpT.indexAddr Try.underlying39 Try.sizeOf42 rfl rfl ha1 (by omega) ⟨rfl, rfl⟩) ?_)
      refine Exists.intro (.int .u64 l[i].n) (And.intro (fun w' x hh => OpT.load Try.isAgg23 rfl ((hl4.mod x hb1).cell 0 rfl) ⟨rfl, rfl⟩) ?_)
      refine Exists.intro (.pointer (some (a1.add (i * 2)))) (And.intro (fun w' x hh => OpT.indexAddr Try.underlying39 Try.sizeOf42 rfl rfl ha1 (by omega) ⟨rfl, rfl⟩) ?_)
      refine Exists.intro (.int .u64 l[i].n) (And.intro (fun w' x hh => OpT.load Try.isAgg23 rfl ((hl4.mod x hb1).cell 0 rfl) ⟨rfl, rfl⟩) ?_)
      refine (Number_runs g l[i].n q w4 ((ar.ext x3).ext x4) hR (fun k hk => by have := hRl2 k hk; have := x3.size; have := x4.size; omega) qok).mono ?_
      rintro _ w5 ⟨rfl, m5, ar5⟩
      refine Lands.v (Holds.nil _) ?_
      refine And.intro m5 ?_
      have hI := readI_num (r := q) h3
      have hI1 : (readI q l[i]).1 = _ := congrArg Prod.fst hI
      have hI2 : (readI q l[i]).2 = _ := congrArg Prod.snd hI
      simp only at hI1 hI2
      have hbs := readI_bs q l[i] qok
      rw [hI1] at hbs
      have m25 : Upd g w w5 := m2.trans ((Ext.toUpd (x3.trans x4)).trans m5)
      refine And.intro (fun h4 => ?_) (fun h4 => ?_)
      · have h4' : (readI q l[i]).2 = false := by rw [hI2, Bool.and_eq_false_iff]; exact .inl (decide_eq_false (by simp at h4; omega))
        rw [he, readsM_no h4', hI1]
        exact ⟨rfl, m25, ar5⟩
      · refine vcS (Bad_runs g _ _ ar5) (Holds.nil _) fun w6 x6 hh6 => ?_
        refine And.intro (fun h5 => ?_) (fun h5 => ?_)
        · have h5' : (readI q l[i]).2 = false := by rw [hI2]; simp at h5; simp [h5]
          rw [he, readsM_no h5', hI1]
          exact ⟨rfl, m25.trans (Ext.toUpd x6), ar5.ext x6⟩
        · have h5' : (readI q l[i]).2 = true := by rw [hI2, Bool.and_eq_true]; exact ⟨decide_eq_true (by simp at h4; omega), decide_eq_true (by simpa using h5)⟩
          refine vsd (by simp only [inKind]; omega) ?_
          exact Exists.intro (i + 1, _) ⟨by simp only; omega, ⟨rfl, rfl, rfl, trivial⟩, trivial, m25.trans (Ext.toUpd x6), ar5.ext x6, hbs.1, hil, by rw [he, readsM_yes h5', hI1]⟩
  · have hge := of_decide_eq_false h2
    simp only at hge
    have hil : i = l.length := by omega
    subst hil
    rw [List.drop_length] at he
    rw [he]
    exact ⟨rfl, m2, ar⟩
end Go.Proofs.Ytcjkodcamkcljaa

