/-
  OctetBack of layer 1: what is put is read again; cut it is not; what is read, put again, is what was read.
-/
import Derived.Test.YtcjkodcamkcljaaOReads
namespace Go.Proofs.Ytcjkodcamkcljaa
open Go Go.RowKit Go.Proofs.Bw
set_option linter.unusedVariables false
set_option linter.unusedSimpArgs false

set_option maxHeartbeats 2000000 in
theorem OctetBack_runs {R R1 R2 : Nat → Prop} (B A1 A2 : Option Addr) (l : List Itm) (tl rw_ : List UInt8) (cl c1 c2 k : Nat) (hk : k < 65536) (w : World) (hl : Rd w R 2 B (iR l)) (hcl : lenOk l.length cl) (hok : ∀ t ∈ l, t.ok)
    (ht : RB w R1 (.slice A1 tl.length c1) tl) (hr : RB w R2 (.slice A2 rw_.length c2) rw_) (hRs : ∀ k, R k → k < w.heap.size) (hts : tl.length ≤ 140737488355328) (hrs : rw_.length ≤ 140737488355328) :
    Runs Try.prog 5 #[.slice B l.length cl, .slice A1 tl.length c1, .slice A2 rw_.length c2, .int .u16 k] w fun v w' => v = .bool true ∧ Ext w w' := by
  obtain ⟨_, _, e1, hl1, ht1⟩ := id ht
  obtain ⟨rfl, _, rfl⟩ := Value.slice.inj e1
  obtain ⟨_, _, e2, hl2, hr1⟩ := id hr
  obtain ⟨rfl, _, rfl⟩ := Value.slice.inj e2
  refine Runs.of_vc cx_ok [0, 1, 2, 3, 8, 9, 10, 11, 12, 13, 14, 15, 16, 17, 18, 20, 31, 36, 45, 64, 93, 96, 111, 115, 119, 130] [.v _, .v _, .v _, .v _] Try.func5 rfl rfl rfl (Holds.nil _) ?_
  refine And.intro (fun _ => by simp only [inKind]; omega) ?_
  refine And.intro (fun h => ?_) (fun h => ?_)
  · refine vcS (works_runs _) (Holds.nil _) fun w1 x1 hh1 => ?_
    exact ⟨rfl, x1⟩
  have hle : l.length ≤ 40 ∧ tl.length + rw_.length ≤ 4096 := by
    simp only [sel, Bool.or_eq_true, Bool.and_eq_true, Bool.not_eq_true', Bool.not_eq_false', decide_eq_true_eq, decide_eq_false_iff_not, Bool.or_eq_false_iff, Bool.and_eq_false_iff, Bool.and_false, Bool.or_false, Bool.and_true, Bool.or_true, Bool.true_and, Bool.false_or, Bool.true_or, Bool.false_and, Bool.false_eq_true, Bool.true_eq_false, or_false, false_or, and_true, true_and, Bool.not_true, Bool.not_false, sel] at h
    omega
  clear h
  have hnb := itsB_len hok
  refine vLoop_mk (σ := Nat × Option Addr × Nat) (fun q => [(0, .v (.slice B l.length cl)), (1, .v (.slice A1 tl.length c1)), (2, .v (.slice A2 rw_.length c2)), (3, .v (.int .u16 k)), (9, .v (.slice q.2.1 (itsB (l.take q.1)).length q.2.2)), (10, .v (.int .i64 q.1))]) (fun _ => [])
    (fun q w' => Ext w w' ∧ q.1 ≤ l.length ∧ OwnR w' w.heap.size 5 1 q.2.1 q.2.2 (bR (itsB (l.take q.1)))) (fun q => l.length - q.1) (0, none, 0) (fun _ => ⟨rfl, rfl⟩)
    ⟨⟨rfl, rfl, rfl, rfl, rfl, rfl, trivial⟩, trivial, Ext.refl _, Nat.zero_le _, OwnR.nil _ _ _ _⟩ ?_
  rintro ⟨i, A, c⟩ w2 hh ⟨x2, hi, o2⟩
  simp only at hi o2
  refine And.intro (fun h2 => ?_) (fun h2 => ?_)
  · have hlt := of_decide_eq_true h2
    simp only at hlt
    have hil : i < l.length := by omega
    have hget : (iR l)[i]? = some l[i].cells := by simp [iR, hil]
    obtain ⟨a1, ha1, hR1, hrow⟩ := (hl.ext x2).at hget
    have sok := hok _ (List.getElem_mem hil)
    have etake : itsB (l.take (i + 1)) = itsB (l.take i) ++ itB l[i] := by rw [← itsB_snoc, List.take_succ_eq_append_getElem hil]
    have hlen : (itsB (l.take i)).length ≤ 1680 := by
      have := itsB_len (l := l.take i) fun t ht => hok t (List.mem_of_mem_take ht)
      rw [List.length_take] at this
      omega
    refine OpT.indexAddr Try.underlying39 Try.sizeOf42 rfl rfl ha1 (by omega) ?_
    refine Lands.v (Holds.nil _) ?_
    refine OpT.load Try.isAgg9 rfl (hrow.cell 1 rfl) ?_
    refine Lands.v (Holds.nil _) ?_
    refine vcS (Name_runs _ sok.2 _) (Holds.nil _) fun w3 x3 hh3 => ?_
    refine And.intro (fun h3 => ?_) (fun h3 => ?_)
    · have h3' : nameB l[i].s = false := by simpa using h3
      have eB : itB l[i] = num7 l[i].n := by unfold itB; rw [h3', cond_false]
      refine OpT.indexAddr Try.underlying39 Try.sizeOf42 rfl rfl ha1 (by omega) ?_
      refine Lands.v (Holds.nil _) ?_
      refine OpT.load Try.isAgg23 rfl ((hrow.ext x3).cell 0 rfl) ?_
      refine Lands.v (Holds.nil _) ?_
      have hP := Put_runs _ (itsB (l.take i)) l[i].n sok.1 w3 (OwnR.rb' (o2.ext x3)) (by omega)
      rw [← eB, ← etake] at hP
      refine vcE hP (Holds.nil _) ?_
      rintro _ w4 x4 hh4 ⟨A4, c4, rfl, o4⟩
      refine vsd (by simp only [inKind]; omega) ?_
      exact Exists.intro (i + 1, A4, c4) ⟨by simp only; omega, ⟨rfl, rfl, rfl, rfl, rfl, rfl, trivial⟩, trivial, x2.trans (x3.trans x4), hil, o4.lower (by have := x2.size; have := x3.size; omega)⟩
    · have h3' : nameB l[i].s = true := by simpa using h3
      have eB : itsB (l.take i) ++ num7 l[i].s.size ++ l[i].s.data.toList = itsB (l.take (i + 1)) := by rw [etake]; unfold itB; rw [h3', cond_true, List.append_assoc]
      refine OpT.indexAddr Try.underlying39 Try.sizeOf42 rfl rfl ha1 (by omega) ?_
      refine Lands.v (Holds.nil _) ?_
      refine OpT.load Try.isAgg9 rfl ((hrow.ext x3).cell 1 rfl) ?_
      refine Lands.v (Holds.nil _) ?_
      refine vcE (PutName_at _ _ l[i].s _ h3' eB w3 (OwnR.rb' (o2.ext x3)) (by omega)) (Holds.nil _) ?_
      rintro _ w4 x4 hh4 ⟨A4, c4, rfl, o4⟩
      refine And.intro (fun h => by simp at h) (fun _ => ?_)
      refine vsd (by simp only [inKind]; omega) ?_
      exact Exists.intro (i + 1, A4, c4) ⟨by simp only; omega, ⟨rfl, rfl, rfl, rfl, rfl, rfl, trivial⟩, trivial, x2.trans (x3.trans x4), hil, o4.lower (by have := x2.size; have := x3.size; omega)⟩
  have hge := of_decide_eq_false h2
  simp only at hge
  have hil : i = l.length := by omega
  subst hil
  have hbb : itsB (l.take l.length) = itsB l := by rw [List.take_length]
  revert hbb o2
  generalize itsB (l.take l.length) = bb
  intro o2 hbb
  subst hbb
  clear hge h2 hi
  refine OpT.buildOwn (cs := #[]) (css := []) .nil Try.underlying22 Try.sizeOf5 Try.zeroValue5 rfl (by kernel_rfl) rfl (fun r hr => by cases hr) rfl rfl fun w5 g5 e5 x5 z5 o5 => ?_
  refine Lands.v (Holds.nil _) ?_
  have hnb2 : (itsB l).length ≤ 1680 := by omega
  have lo2 := x2.size
  refine OpT.appendR el5 Try.underlying22 rfl rfl o5 (o2.ext x5).rd rfl (bR_length _).symm (bR_len _) (bR_ones _) (List.nil_append _) (n' := (itsB l).length) (bR_length _) (by rw [bR_length]; omega) x5.size fun w6 A6 c6 m6 o6 => ?_
  have x6 := x5.own o5 (Nat.le_refl _) m6
  refine Lands.v (Holds.nil _) ?_
  refine OpT.appendR el5 Try.underlying22 rfl rfl o6 (ht1.ext (x2.trans x6)) (bR_length _).symm (bR_length _).symm (bR_len _) (bR_ones _) (bR_append _ _).symm (n' := (itsB l ++ tl).length) (bR_length _) (by rw [bR_length, List.length_append]; omega) x6.size fun w7 A7 c7 m7 o7 => ?_
  have x7 := x6.own o6 (Nat.le_refl _) m7
  refine Lands.v (Holds.nil _) ?_
  refine vcE (New_runs _ (itsB l ++ tl) w7 (OwnR.rb' o7) (by rw [List.length_append]; omega)) (Holds.nil _) ?_
  rintro _ w8 x8 hh8 ⟨gr, rfl, hgr, ar⟩
  have y7 := x2.trans x7
  have y8 := y7.trans x8
  have lo7 := y7.size
  have zr : gr < w8.heap.size := ar.choose_spec.choose_spec.1.lt
  have er : readsM ⟨itsB l ++ tl, 0, 0, 0⟩ l = (⟨itsB l ++ tl, (itsB l).length, 0, 0⟩, true) := by
    have := reads_put l ⟨itsB l ++ tl, 0, 0, 0⟩ tl hok rfl rfl
    rwa [Nat.zero_add] at this
  have hRd := reads_runs gr ⟨itsB l ++ tl, 0, 0, 0⟩ B l cl w8 ar (by omega) (fun k hk => by omega) ⟨by simp only [List.length_append]; omega, Nat.zero_le _⟩ (hl.ext y8) (fun hk => by have := hRs _ hk; omega) hok hcl hle.1
  rw [er] at hRd
  refine vyes rfl ?_
  refine hRd.mono ?_
  rintro _ w9 ⟨rfl, m9, ar9⟩
  refine Lands.v (Holds.nil _) ?_
  have y9 := y8.upd m9 (by omega)
  refine vyes rfl ?_
  refine vcS (At_runs gr _ _ ar9) (Holds.nil _) fun w10 x10 hh10 => ?_
  have eL : (((itsB l ++ tl).length : Int) - ((itsB l).length : Int) = tl.length) := by rw [List.length_append]; omega
  have hL := Left_runs gr _ w10 (ar9.ext x10) ⟨by simp only [List.length_append]; omega, by simp⟩
  dsimp only at hL
  rw [eL] at hL
  refine vyes (by simp [sel]; rfl) ?_
  refine vcS hL (Holds.nil _) fun w11 x11 hh11 => ?_
  refine And.intro (fun h => absurd h (by simp [sel])) (fun _ => ?_)
  have y11 := y9.trans (x10.trans x11)
  have ob : OwnR w11 w.heap.size 5 1 A c (bR (itsB l)) := by
    refine OwnR.ext ?_ (x10.trans x11)
    refine OwnR.mod (o2.ext (x7.trans x8)) m9 fun a ha e => ?_
    have := (o2.block ha).2
    have := x7.size
    have e' : a.block = gr := e
    omega
  refine And.intro (fun hpos => ?_) (fun hpos => ?_)
  · have hpos' := of_decide_eq_true hpos
    have hm1 := Int.emod_nonneg (k : Int) (b := ((itsB l).length : Int)) (by omega)
    have hm2 := Int.emod_lt_of_pos (k : Int) (b := ((itsB l).length : Int)) (by omega)
    refine vsd (by simp only [inKind]; omega) ?_
    refine vsd (by omega) ?_
    obtain ⟨cut, hcut⟩ : ∃ cut : Nat, (k : Int) % ((itsB l).length : Int) = cut := ⟨((k : Int) % ((itsB l).length : Int)).toNat, by omega⟩
    have hcl2 : ((itsB l).take cut).length = cut := by rw [List.length_take]; omega
    have lo3 := ob.le
    rw [bR_length] at lo3
    refine OpT.sliceR (m := ((itsB l).take cut).length) Try.underlying22 Try.sizeOf5 rfl rfl rfl ob.rd (by rw [bR_length]; exact lo3.1) (by rw [hcut]; simp only; omega) (by rw [hcut, hcl2]; simp) fun A12 r12 => ?_
    refine Lands.v (Holds.nil _) ?_
    have lo12 : lenOk ((itsB l).take cut).length (c - Int.toNat 0) := ⟨by simp only [Int.toNat_zero]; omega, by simp only [Int.toNat_zero]; omega⟩
    have r12' : Rd w11 _ 1 A12 (bR ((itsB l).take cut)) := Rd.pre (t := (itsB l).drop cut) (by rw [List.take_append_drop]; exact r12)
    refine vcE (New_runs _ ((itsB l).take cut) w11 ⟨_, _, rfl, lo12, r12'⟩ (by omega)) (Holds.nil _) ?_
    rintro _ w12 x12 hh12 ⟨gs, rfl, hgs, ars⟩
    have zs : gs < w12.heap.size := ars.choose_spec.choose_spec.1.lt
    have lo11 := y11.size
    have hRc := reads_runs gs ⟨(itsB l).take cut, 0, 0, 0⟩ B l cl w12 ars (by omega) (fun k hk => by omega) ⟨by simp only; omega, Nat.zero_le _⟩ (hl.ext (y11.trans x12)) (fun hk => by have := hRs _ hk; omega) hok hcl hle.1
    rw [reads_cut l ⟨(itsB l).take cut, 0, 0, 0⟩ cut hok rfl rfl (by omega)] at hRc
    refine vyes rfl ?_
    refine hRc.mono ?_
    rintro _ w13 ⟨rfl, m13, _⟩
    refine Lands.v (Holds.nil _) ?_
    have y13 := (y11.trans x12).upd m13 (by omega)
    refine And.intro (fun h => absurd h (by simp [sel])) (fun _ => ?_)
    refine vcE (New_runs _ rw_ w13 (hr.ext y13) (by omega)) (Holds.nil _) ?_
    rintro _ w20 x20 hh20 ⟨gt, rfl, hgt, at20⟩
    have zt : gt < w20.heap.size := at20.choose_spec.choose_spec.1.lt
    have y20 := y13.trans x20
    have loS := y13.size
    refine And.intro (fun h => by simp at h) (fun _ => ?_)
    refine vLoop_mk (σ := Nat × Rdr × Option Addr × Nat) (fun q => [(2, .v (.slice A2 rw_.length c2)), (15, .v (.pointer (some ⟨gt, 0, none⟩))), (16, .v (.slice q.2.2.1 (rw_.take q.2.1.at_).length q.2.2.2)), (17, .v (.int .i64 q.1))]) (fun _ => [])
      (fun q w' => Ext w w' ∧ w20.heap.size ≤ w'.heap.size ∧ RdrAt w' (fun k => w13.heap.size ≤ k ∧ k < gt) gt q.2.1 ∧ q.2.1.ok ∧ q.2.1.bs = rw_ ∧ q.2.1.bad = 0 ∧ OwnR w' w20.heap.size 5 1 q.2.2.1 q.2.2.2 (bR (rw_.take q.2.1.at_)) ∧ q.1 ≤ rw_.length) (fun q => rw_.length - q.1) (0, ⟨rw_, 0, 0, 0⟩, none, 0) (fun _ => ⟨rfl, rfl⟩)
      ⟨⟨rfl, rfl, rfl, rfl, trivial⟩, trivial, y20, Nat.le_refl _, at20, ⟨by simp only; omega, Nat.zero_le _⟩, rfl, rfl, OwnR.nil _ _ _ _, Nat.zero_le _⟩ ?_
    rintro ⟨i2, r2, A3, c3⟩ w21 hh ⟨y21, s21, at21, ok21, bs21, bad21, o21, hi21⟩
    simp only at at21 ok21 bs21 bad21 o21 hi21
    refine And.intro (fun h2 => ?_) (fun h2 => ?_)
    · have hlt := of_decide_eq_true h2
      simp only at hlt
      have hq := num_got (most := 18446744073709551615) ok21 bad21
      have hrel := read_rel r2 0 (fun bs => numR bs 18446744073709551615 0) (fun bs => numR_err bs _) (fun bs => numR_le bs _ _) ok21
      refine (Number_runs gt 18446744073709551615 r2 w21 at21 (by omega) (fun k hk => by omega) ok21).mono ?_
      rintro _ w22 ⟨rfl, m22, at22⟩
      revert hq hrel at22
      generalize (r2.read 0 fun bs => numR bs 18446744073709551615 0) = q
      obtain ⟨r3, n3⟩ := q
      intro hq hrel at22
      simp only at hq hrel at22
      rw [bs21] at hq hrel
      have s22 := m22.size
      refine Lands.v (Holds.nil _) ?_
      refine vcS (Bad_runs gt _ _ at22) (Holds.nil _) fun w23 x23 hh23 => ?_
      have s23 := x23.size
      have y23 := (y21.upd m22 (by omega)).trans x23
      have o23 := (o21.upd m22 (by omega)).ext x23
      refine And.intro (fun h4 => ?_) (fun h4 => ?_)
      · have h4' : r3.bad ≠ 0 := by simpa using h4
        have e3 := hq.2 h4'
        have ok3 := hrel.2.2.2.1
        have bs3 := hrel.2.2.2.2
        have hat := at22.ext x23
        have yF := y23
        have oF := o23
        have hale : r2.at_ ≤ rw_.length := by have := ok3.2; rw [bs3] at this; omega
        have elt : (rw_.take r2.at_).length = r2.at_ := by rw [List.length_take]; omega
        refine vDrw_mk [1, 5, 15, 25] [0, 1, 2, 3, 4, 6, 7, 5, 8, 9, 10, 11, 12, 13, 14, 17, 18, 15, 16, 19, 20, 21, 22, 23, 24, 25, 26, 27] rfl fun w30 x30 hh30 => ?_
        refine vcS (At_runs gt _ _ (hat.ext x30)) (Holds.nil _) fun w31 x31 hh31 => ?_
        have hale3 : r3.at_ ≤ rw_.length := by rw [e3]; exact hale
        refine vyes (by simp [sel]; rfl) ?_
        refine vcS (At_runs gt _ _ ((hat.ext x30).ext x31)) (Holds.nil _) fun w32 x32 hh32 => ?_
        refine And.intro x32 ?_
        have o32 := ((oF.ext x30).ext x31).ext x32
        have at32 := ((hat.ext x30).ext x31).ext x32
        refine Exists.intro (.string (strOf (rw_.take r2.at_))) (And.intro (fun w' x hh _ => OpT.bytesStr Try.underlying22 Try.underlying5 Try.underlying9 rfl (o32.ext x).rd rfl ⟨rfl, rfl⟩) ?_)
        refine vyes (by simp [sel, hale3]; rfl) ?_
        refine vcS (At_runs gt _ _ at32) (Holds.nil _) fun w33 x33 hh33 => ?_
        refine And.intro x33 ?_
        have hmm : (if (rw_.length : Int) < (if (0 : Int) > r3.at_ then 0 else (r3.at_ : Int)) then (rw_.length : Int) else (if (0 : Int) > r3.at_ then 0 else (r3.at_ : Int))) = r2.at_ := by
          rw [if_neg (by omega : ¬ (0 : Int) > r3.at_), if_neg (by omega), e3]
        have h2a := hl2.1
        refine Exists.intro _ (And.intro (fun w' x hh _ => OpT.slice Try.underlying22 Try.sizeOf5 rfl rfl rfl (by rw [hmm]; omega) ⟨rfl, rfl⟩) ?_)
        have yG := yF.trans (x30.trans (x31.trans (x32.trans x33)))
        have r33 : Rd w33 R2 1 (if c2 = Int.toNat 0 then A2 else A2.map (·.add (Int.toNat 0 * 1))) (bR (rw_.take r2.at_)) := Rd.pre (t := rw_.drop r2.at_) (by rw [List.take_append_drop]; exact (hr1.ext yG).cut (c := c2) (by rw [bR_length]; omega) (Int.toNat 0))
        refine Exists.intro (.string (strOf (rw_.take r2.at_))) (And.intro (fun w' x hh _ => OpT.bytesStr Try.underlying22 Try.underlying5 Try.underlying9 rfl (r33.ext x) (by rw [hmm, elt]; simp) ⟨rfl, rfl⟩) ?_)
        refine vyes (by simp [sel, hale3]; rfl) ?_
        refine vcS (works_runs _) (Holds.nil _) fun w34 x34 hh34 => ?_
        exact ⟨by simp [sel, hale3]; rfl, yG.trans x34⟩
      · have h4' : r3.bad = 0 := by simpa using h4
        obtain ⟨n64, e3⟩ := hq.1 h4'
        have hP := Put_runs _ (rw_.take r2.at_) n3 n64 w23 (OwnR.rb' o23) (by rw [List.length_take]; omega)
        rw [← e3] at hP
        refine vcE hP (Holds.nil _) ?_
        rintro _ w24 x24 hh24 ⟨A4, c4, rfl, o4⟩
        refine vsd (by simp only [inKind]; omega) ?_
        have s24 := x24.size
        exact Exists.intro (i2 + 1, r3, A4, c4) ⟨by simp only; omega, ⟨rfl, rfl, rfl, rfl, trivial⟩, trivial, y23.trans x24, by omega, (at22.ext x23).ext x24, hrel.2.2.2.1, hrel.2.2.2.2, h4', o4.lower (by omega), by simp only; omega⟩
    · have e3 : r2.at_ = r2.at_ := rfl
      have ok3 := ok21
      have bs3 := bs21
      have hat := at21
      have yF := y21
      have oF := o21
      have hale : r2.at_ ≤ rw_.length := by have := ok3.2; rw [bs3] at this; omega
      have elt : (rw_.take r2.at_).length = r2.at_ := by rw [List.length_take]; omega
      refine vDrw_mk [1, 5, 15, 25] [0, 1, 2, 3, 4, 6, 7, 5, 8, 9, 10, 11, 12, 13, 14, 17, 18, 15, 16, 19, 20, 21, 22, 23, 24, 25, 26, 27] rfl fun w30 x30 hh30 => ?_
      refine vcS (At_runs gt _ _ (hat.ext x30)) (Holds.nil _) fun w31 x31 hh31 => ?_
      have hale3 : r2.at_ ≤ rw_.length := by rw [e3]; exact hale
      refine vyes (by simp [sel]; rfl) ?_
      refine vcS (At_runs gt _ _ ((hat.ext x30).ext x31)) (Holds.nil _) fun w32 x32 hh32 => ?_
      refine And.intro x32 ?_
      have o32 := ((oF.ext x30).ext x31).ext x32
      have at32 := ((hat.ext x30).ext x31).ext x32
      refine Exists.intro (.string (strOf (rw_.take r2.at_))) (And.intro (fun w' x hh _ => OpT.bytesStr Try.underlying22 Try.underlying5 Try.underlying9 rfl (o32.ext x).rd rfl ⟨rfl, rfl⟩) ?_)
      refine vyes (by simp [sel, hale3]; rfl) ?_
      refine vcS (At_runs gt _ _ at32) (Holds.nil _) fun w33 x33 hh33 => ?_
      refine And.intro x33 ?_
      have hmm : (if (rw_.length : Int) < (if (0 : Int) > r2.at_ then 0 else (r2.at_ : Int)) then (rw_.length : Int) else (if (0 : Int) > r2.at_ then 0 else (r2.at_ : Int))) = r2.at_ := by
        rw [if_neg (by omega : ¬ (0 : Int) > r2.at_), if_neg (by omega), e3]
      have h2a := hl2.1
      refine Exists.intro _ (And.intro (fun w' x hh _ => OpT.slice Try.underlying22 Try.sizeOf5 rfl rfl rfl (by rw [hmm]; omega) ⟨rfl, rfl⟩) ?_)
      have yG := yF.trans (x30.trans (x31.trans (x32.trans x33)))
      have r33 : Rd w33 R2 1 (if c2 = Int.toNat 0 then A2 else A2.map (·.add (Int.toNat 0 * 1))) (bR (rw_.take r2.at_)) := Rd.pre (t := rw_.drop r2.at_) (by rw [List.take_append_drop]; exact (hr1.ext yG).cut (c := c2) (by rw [bR_length]; omega) (Int.toNat 0))
      refine Exists.intro (.string (strOf (rw_.take r2.at_))) (And.intro (fun w' x hh _ => OpT.bytesStr Try.underlying22 Try.underlying5 Try.underlying9 rfl (r33.ext x) (by rw [hmm, elt]; simp) ⟨rfl, rfl⟩) ?_)
      refine vyes (by simp [sel, hale3]; rfl) ?_
      refine vcS (works_runs _) (Holds.nil _) fun w34 x34 hh34 => ?_
      exact ⟨by simp [sel, hale3]; rfl, yG.trans x34⟩
  · refine vcE (New_runs _ rw_ w11 (hr.ext y11) (by omega)) (Holds.nil _) ?_
    rintro _ w20 x20 hh20 ⟨gt, rfl, hgt, at20⟩
    have zt : gt < w20.heap.size := at20.choose_spec.choose_spec.1.lt
    have y20 := y11.trans x20
    have loS := y11.size
    refine And.intro (fun h => by simp at h) (fun _ => ?_)
    refine vLoop_mk (σ := Nat × Rdr × Option Addr × Nat) (fun q => [(2, .v (.slice A2 rw_.length c2)), (15, .v (.pointer (some ⟨gt, 0, none⟩))), (16, .v (.slice q.2.2.1 (rw_.take q.2.1.at_).length q.2.2.2)), (17, .v (.int .i64 q.1))]) (fun _ => [])
      (fun q w' => Ext w w' ∧ w20.heap.size ≤ w'.heap.size ∧ RdrAt w' (fun k => w11.heap.size ≤ k ∧ k < gt) gt q.2.1 ∧ q.2.1.ok ∧ q.2.1.bs = rw_ ∧ q.2.1.bad = 0 ∧ OwnR w' w20.heap.size 5 1 q.2.2.1 q.2.2.2 (bR (rw_.take q.2.1.at_)) ∧ q.1 ≤ rw_.length) (fun q => rw_.length - q.1) (0, ⟨rw_, 0, 0, 0⟩, none, 0) (fun _ => ⟨rfl, rfl⟩)
      ⟨⟨rfl, rfl, rfl, rfl, trivial⟩, trivial, y20, Nat.le_refl _, at20, ⟨by simp only; omega, Nat.zero_le _⟩, rfl, rfl, OwnR.nil _ _ _ _, Nat.zero_le _⟩ ?_
    rintro ⟨i2, r2, A3, c3⟩ w21 hh ⟨y21, s21, at21, ok21, bs21, bad21, o21, hi21⟩
    simp only at at21 ok21 bs21 bad21 o21 hi21
    refine And.intro (fun h2 => ?_) (fun h2 => ?_)
    · have hlt := of_decide_eq_true h2
      simp only at hlt
      have hq := num_got (most := 18446744073709551615) ok21 bad21
      have hrel := read_rel r2 0 (fun bs => numR bs 18446744073709551615 0) (fun bs => numR_err bs _) (fun bs => numR_le bs _ _) ok21
      refine (Number_runs gt 18446744073709551615 r2 w21 at21 (by omega) (fun k hk => by omega) ok21).mono ?_
      rintro _ w22 ⟨rfl, m22, at22⟩
      revert hq hrel at22
      generalize (r2.read 0 fun bs => numR bs 18446744073709551615 0) = q
      obtain ⟨r3, n3⟩ := q
      intro hq hrel at22
      simp only at hq hrel at22
      rw [bs21] at hq hrel
      have s22 := m22.size
      refine Lands.v (Holds.nil _) ?_
      refine vcS (Bad_runs gt _ _ at22) (Holds.nil _) fun w23 x23 hh23 => ?_
      have s23 := x23.size
      have y23 := (y21.upd m22 (by omega)).trans x23
      have o23 := (o21.upd m22 (by omega)).ext x23
      refine And.intro (fun h4 => ?_) (fun h4 => ?_)
      · have h4' : r3.bad ≠ 0 := by simpa using h4
        have e3 := hq.2 h4'
        have ok3 := hrel.2.2.2.1
        have bs3 := hrel.2.2.2.2
        have hat := at22.ext x23
        have yF := y23
        have oF := o23
        have hale : r2.at_ ≤ rw_.length := by have := ok3.2; rw [bs3] at this; omega
        have elt : (rw_.take r2.at_).length = r2.at_ := by rw [List.length_take]; omega
        refine vDrw_mk [1, 5, 15, 25] [0, 1, 2, 3, 4, 6, 7, 5, 8, 9, 10, 11, 12, 13, 14, 17, 18, 15, 16, 19, 20, 21, 22, 23, 24, 25, 26, 27] rfl fun w30 x30 hh30 => ?_
        refine vcS (At_runs gt _ _ (hat.ext x30)) (Holds.nil _) fun w31 x31 hh31 => ?_
        have hale3 : r3.at_ ≤ rw_.length := by rw [e3]; exact hale
        refine vyes (by simp [sel]; rfl) ?_
        refine vcS (At_runs gt _ _ ((hat.ext x30).ext x31)) (Holds.nil _) fun w32 x32 hh32 => ?_
        refine And.intro x32 ?_
        have o32 := ((oF.ext x30).ext x31).ext x32
        have at32 := ((hat.ext x30).ext x31).ext x32
        refine Exists.intro (.string (strOf (rw_.take r2.at_))) (And.intro (fun w' x hh _ => OpT.bytesStr Try.underlying22 Try.underlying5 Try.underlying9 rfl (o32.ext x).rd rfl ⟨rfl, rfl⟩) ?_)
        refine vyes (by simp [sel, hale3]; rfl) ?_
        refine vcS (At_runs gt _ _ at32) (Holds.nil _) fun w33 x33 hh33 => ?_
        refine And.intro x33 ?_
        have hmm : (if (rw_.length : Int) < (if (0 : Int) > r3.at_ then 0 else (r3.at_ : Int)) then (rw_.length : Int) else (if (0 : Int) > r3.at_ then 0 else (r3.at_ : Int))) = r2.at_ := by
          rw [if_neg (by omega : ¬ (0 : Int) > r3.at_), if_neg (by omega), e3]
        have h2a := hl2.1
        refine Exists.intro _ (And.intro (fun w' x hh _ => OpT.slice Try.underlying22 Try.sizeOf5 rfl rfl rfl (by rw [hmm]; omega) ⟨rfl, rfl⟩) ?_)
        have yG := yF.trans (x30.trans (x31.trans (x32.trans x33)))
        have r33 : Rd w33 R2 1 (if c2 = Int.toNat 0 then A2 else A2.map (·.add (Int.toNat 0 * 1))) (bR (rw_.take r2.at_)) := Rd.pre (t := rw_.drop r2.at_) (by rw [List.take_append_drop]; exact (hr1.ext yG).cut (c := c2) (by rw [bR_length]; omega) (Int.toNat 0))
        refine Exists.intro (.string (strOf (rw_.take r2.at_))) (And.intro (fun w' x hh _ => OpT.bytesStr Try.underlying22 Try.underlying5 Try.underlying9 rfl (r33.ext x) (by rw [hmm, elt]; simp) ⟨rfl, rfl⟩) ?_)
        refine vyes (by simp [sel, hale3]; rfl) ?_
        refine vcS (works_runs _) (Holds.nil _) fun w34 x34 hh34 => ?_
        exact ⟨by simp [sel, hale3]; rfl, yG.trans x34⟩
      · have h4' : r3.bad = 0 := by simpa using h4
        obtain ⟨n64, e3⟩ := hq.1 h4'
        have hP := Put_runs _ (rw_.take r2.at_) n3 n64 w23 (OwnR.rb' o23) (by rw [List.length_take]; omega)
        rw [← e3] at hP
        refine vcE hP (Holds.nil _) ?_
        rintro _ w24 x24 hh24 ⟨A4, c4, rfl, o4⟩
        refine vsd (by simp only [inKind]; omega) ?_
        have s24 := x24.size
        exact Exists.intro (i2 + 1, r3, A4, c4) ⟨by simp only; omega, ⟨rfl, rfl, rfl, rfl, trivial⟩, trivial, y23.trans x24, by omega, (at22.ext x23).ext x24, hrel.2.2.2.1, hrel.2.2.2.2, h4', o4.lower (by omega), by simp only; omega⟩
    · have e3 : r2.at_ = r2.at_ := rfl
      have ok3 := ok21
      have bs3 := bs21
      have hat := at21
      have yF := y21
      have oF := o21
      have hale : r2.at_ ≤ rw_.length := by have := ok3.2; rw [bs3] at this; omega
      have elt : (rw_.take r2.at_).length = r2.at_ := by rw [List.length_take]; omega
      refine vDrw_mk [1, 5, 15, 25] [0, 1, 2, 3, 4, 6, 7, 5, 8, 9, 10, 11, 12, 13, 14, 17, 18, 15, 16, 19, 20, 21, 22, 23, 24, 25, 26, 27] rfl fun w30 x30 hh30 => ?_
      refine vcS (At_runs gt _ _ (hat.ext x30)) (Holds.nil _) fun w31 x31 hh31 => ?_
      have hale3 : r2.at_ ≤ rw_.length := by rw [e3]; exact hale
      refine vyes (by simp [sel]; rfl) ?_
      refine vcS (At_runs gt _ _ ((hat.ext x30).ext x31)) (Holds.nil _) fun w32 x32 hh32 => ?_
      refine And.intro x32 ?_
      have o32 := ((oF.ext x30).ext x31).ext x32
      have at32 := ((hat.ext x30).ext x31).ext x32
      refine Exists.intro (.string (strOf (rw_.take r2.at_))) (And.intro (fun w' x hh _ => OpT.bytesStr Try.underlying22 Try.underlying5 Try.underlying9 rfl (o32.ext x).rd rfl ⟨rfl, rfl⟩) ?_)
      refine vyes (by simp [sel, hale3]; rfl) ?_
      refine vcS (At_runs gt _ _ at32) (Holds.nil _) fun w33 x33 hh33 => ?_
      refine And.intro x33 ?_
      have hmm : (if (rw_.length : Int) < (if (0 : Int) > r2.at_ then 0 else (r2.at_ : Int)) then (rw_.length : Int) else (if (0 : Int) > r2.at_ then 0 else (r2.at_ : Int))) = r2.at_ := by
        rw [if_neg (by omega : ¬ (0 : Int) > r2.at_), if_neg (by omega), e3]
      have h2a := hl2.1
      refine Exists.intro _ (And.intro (fun w' x hh _ => OpT.slice Try.underlying22 Try.sizeOf5 rfl rfl rfl (by rw [hmm]; omega) ⟨rfl, rfl⟩) ?_)
      have yG := yF.trans (x30.trans (x31.trans (x32.trans x33)))
      have r33 : Rd w33 R2 1 (if c2 = Int.toNat 0 then A2 else A2.map (·.add (Int.toNat 0 * 1))) (bR (rw_.take r2.at_)) := Rd.pre (t := rw_.drop r2.at_) (by rw [List.take_append_drop]; exact (hr1.ext yG).cut (c := c2) (by rw [bR_length]; omega) (Int.toNat 0))
      refine Exists.intro (.string (strOf (rw_.take r2.at_))) (And.intro (fun w' x hh _ => OpT.bytesStr Try.underlying22 Try.underlying5 Try.underlying9 rfl (r33.ext x) (by rw [hmm, elt]; simp) ⟨rfl, rfl⟩) ?_)
      refine vyes (by simp [sel, hale3]; rfl) ?_
      refine vcS (works_runs _) (Holds.nil _) fun w34 x34 hh34 => ?_
      exact ⟨by simp [sel, hale3]; rfl, yG.trans x34⟩
end Go.Proofs.Ytcjkodcamkcljaa

