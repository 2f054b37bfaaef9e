/-
  OctetStops of layer 1: once a reader is bad it says nothing and stays; of errors the first one is kept.
-/
import Derived.Test.YtcjkodcamkcljaaO9
namespace Go.Proofs.Ytcjkodcamkcljaa
open Go Go.RowKit Go.Proofs.Bw
set_option linter.unusedVariables false
set_option linter.unusedSimpArgs false

structure Stp where
  do_ : Nat
  n : Nat
  at_ : Int
  e : Int
def Stp.cells (s : Stp) : List Value := [.int .u8 s.do_, .int .u64 s.n, .int .i64 s.at_, .int .i64 s.e]
def Stp.ok (s : Stp) : Prop := s.do_ < 256 ∧ s.n < 2 ^ 64
def sR (l : List Stp) : List (List Value) := l.map Stp.cells
theorem read_rel {α : Type} (r : Rdr) (x0 : α) (f : List UInt8 → α × Nat × Int) (hf : ∀ bs, (f bs).2.2 ≠ 0 → (f bs).1 = x0) (hle : ∀ bs, (f bs).2.1 ≤ bs.length) (hr : r.ok) :
    (r.bad ≠ 0 → (r.read x0 f).2 = x0 ∧ (r.read x0 f).1 = r) ∧ ((r.read x0 f).1.bad ≠ 0 → (r.read x0 f).2 = x0 ∧ (r.read x0 f).1.at_ = r.at_) ∧ r.at_ ≤ (r.read x0 f).1.at_ ∧ (r.read x0 f).1.ok ∧ (r.read x0 f).1.bs = r.bs := by
  obtain ⟨h1, h2⟩ := hr
  have hl := hle (r.bs.drop r.at_)
  rw [List.length_drop] at hl
  unfold Rdr.read
  by_cases hb : r.bad = 0
  · rw [if_neg (by simpa using hb)]
    by_cases he : (f (r.bs.drop r.at_)).2.2 = 0
    · rw [if_neg (by simpa using he)]
      exact ⟨fun h => absurd hb h, fun h => absurd hb h, Nat.le_add_right _ _, ⟨h1, by simp only; omega⟩, rfl⟩
    · rw [if_pos he]
      exact ⟨fun h => absurd hb h, fun _ => ⟨hf _ he, rfl⟩, Nat.le_refl _, ⟨h1, h2⟩, rfl⟩
  · rw [if_pos hb]
    exact ⟨fun _ => ⟨rfl, rfl⟩, fun _ => ⟨rfl, rfl⟩, Nat.le_refl _, ⟨h1, h2⟩, rfl⟩
theorem numR_err (bs : List UInt8) (most : Nat) : (numR bs most 0).2.2 ≠ 0 → (numR bs most 0).1 = 0 := by
  unfold numR
  split
  · intro _; rfl
  · split
    · intro _; rfl
    · intro h; exact absurd rfl h
theorem byteR_err (bs : List UInt8) : (byteR bs 0).2.2 ≠ 0 → (byteR bs 0).1 = 0 := by
  unfold byteR
  split
  · intro _; rfl
  · intro h; exact absurd rfl h
theorem byteR_le' (bs : List UInt8) : (byteR bs 0).2.1 ≤ bs.length := by
  unfold byteR
  split
  · exact Nat.le_refl _
  · simp
theorem nameR_err (bs : List UInt8) (s0 : ByteArray) : (nameR bs s0).2.2 ≠ 0 → (nameR bs s0).1 = s0 := by
  unfold nameR
  split
  · intro _; rfl
  · split
    · intro _; rfl
    · split
      · intro _; rfl
      · split
        · intro h; exact absurd rfl h
        · intro _; rfl
theorem nameR_le' (bs : List UInt8) (s0 : ByteArray) : (nameR bs s0).2.1 ≤ bs.length := by
  unfold nameR
  split
  · exact Nat.zero_le _
  · rename_i n k hn
    have := (numOf_got hn).2.1
    split
    · exact Nat.zero_le _
    · split
      · exact Nat.zero_le _
      · split
        · simp only; omega
        · exact Nat.zero_le _
theorem stop_false (r r' : Rdr) (sd : Bool) (n : Nat) (h1 : r.bad ≠ 0 → sd = false ∧ r' = r) (h2 : r'.bad ≠ 0 → sd = false ∧ r'.at_ = r.at_) (h3 : r.at_ ≤ r'.at_) (h4 : r'.bs.length = n) :
    (sel (sel (sel (sel (!decide (r.bad = 0)) (sel (sel sd true !decide ((r'.at_ : Int) = r.at_)) true (!decide (r'.spot = r.spot)) |> fun x => sel x true !decide (r'.bad = r.bad)) false) true (sel (!decide (r'.bad = 0)) (sel sd true !decide ((r'.at_ : Int) = r.at_)) false)) true (decide ((r'.at_ : Int) < r.at_))) true !decide ((r'.at_ : Int) + (r'.bs.length - r'.at_) = n)) = false := by
  have e1 : decide ((r'.at_ : Int) < r.at_) = false := decide_eq_false (by omega)
  have e2 : (!decide ((r'.at_ : Int) + (r'.bs.length - r'.at_) = n)) = false := by simp; omega
  rw [e1, e2]
  by_cases hb : r'.bad = 0
  · by_cases ha : r.bad = 0
    · simp [sel, hb, ha]
    · obtain ⟨rfl, rfl⟩ := h1 ha
      exact absurd hb ha
  · obtain ⟨rfl, h5⟩ := h2 hb
    by_cases ha : r.bad = 0
    · simp [sel, ha, h5]
    · obtain ⟨_, rfl⟩ := h1 ha
      simp [sel]
theorem OctetStops_runs {R R2 : Nat → Prop} (b : Value) (bs : List UInt8) (B : Option Addr) (l : List Stp) (cl : Nat) (w : World) (hb : RB w R b bs) (hl : Rd w R2 4 B (sR l)) (hok : ∀ s ∈ l, s.ok) (hcl : lenOk l.length cl) :
    Runs Try.prog 7 #[b, .slice B l.length cl] w fun v w' => v = .bool true ∧ Ext w w' := by
  have hb0 := hb
  obtain ⟨A0, c0, rfl, hl0, hb1⟩ := hb
  refine Runs.of_vc cx_ok [0, 1, 4, 5, 6, 7, 8, 9, 10, 11, 12, 20, 25, 29, 44, 48, 58, 117] [.v _, .v _] Try.func7 rfl rfl rfl (Holds.nil _) ?_
  refine And.intro (fun h => ?_) (fun h => ?_)
  · refine vcS (works_runs _) (Holds.nil _) fun w1 x1 hh1 => ?_
    exact ⟨rfl, x1⟩
  have hle : ¬ (4096 < bs.length) ∧ ¬ (100 < l.length) := by
    simp only [sel, Bool.or_eq_true, Bool.and_eq_true, Bool.not_eq_true', Bool.not_eq_false', decide_eq_true_eq, decide_eq_false_iff_not, Bool.or_eq_false_iff, Bool.and_eq_false_iff, Bool.and_false, Bool.or_false, Bool.and_true, Bool.or_true, Bool.true_and, Bool.false_or, Bool.true_or, Bool.false_and, Bool.false_eq_true, Bool.true_eq_false, or_false, false_or, and_true, true_and, Bool.not_true, Bool.not_false, sel] at h
    omega
  refine vcE (New_runs _ bs w hb0 (by omega)) (Holds.nil _) ?_
  rintro _ w1 x1 hh1 ⟨g, rfl, hg, ar⟩
  refine And.intro (fun h => by simp at h) (fun _ => ?_)
  have hg1 : g < w1.heap.size := ar.choose_spec.choose_spec.1.lt
  refine vLoop_mk (σ := Nat × Rdr) (fun q => [(0, .v (.slice A0 bs.length c0)), (1, .v (.slice B l.length cl)), (5, .v (.pointer (some ⟨g, 0, none⟩))), (6, .v (.int .i64 q.1))]) (fun _ => [])
    (fun q w' => Ext w w' ∧ g < w'.heap.size ∧ RdrAt w' (fun k => w.heap.size ≤ k ∧ k < g) g q.2 ∧ q.2.ok ∧ q.2.bs = bs ∧ q.1 ≤ l.length) (fun q => l.length - q.1) (0, ⟨bs, 0, 0, 0⟩) (fun _ => ⟨rfl, rfl⟩)
    ⟨⟨rfl, rfl, rfl, rfl, trivial⟩, trivial, x1, hg1, ar, ⟨by simp only; omega, Nat.zero_le _⟩, rfl, Nat.zero_le _⟩ ?_
  rintro ⟨i, r⟩ w2 hh ⟨x2, hg2, ar2, rok, rbs, hi⟩
  simp only at ar2 rok rbs hi
  refine And.intro (fun h2 => ?_) (fun h2 => ?_)
  · have hlt := of_decide_eq_true h2
    simp only at hlt
    have hil : i < l.length := by omega
    refine vcS (Bad_runs g _ _ ar2) (Holds.nil _) fun w3 x3 hh3 => ?_
    refine vcS (At_runs g _ _ (ar2.ext x3)) (Holds.nil _) fun w4 x4 hh4 => ?_
    have hget : (sR l)[i]? = some l[i].cells := by simp [sR, hil]
    have y4 := x2.trans (x3.trans x4)
    obtain ⟨a1, ha1, hR1, hrow⟩ := (hl.ext y4).at hget
    have sok := hok _ (List.getElem_mem hil)
    refine OpT.indexAddr Try.underlying51 Try.sizeOf53 rfl rfl ha1 (by omega) ?_
    refine Lands.v (Holds.nil _) ?_
    refine OpT.load Try.isAgg5 rfl (hrow.cell 0 rfl) ?_
    refine Lands.v (Holds.nil _) ?_
    refine vsd (by omega) ?_
    have hRg : ¬ (w.heap.size ≤ g ∧ g < g) := by omega
    have hRl : ∀ k, (w.heap.size ≤ k ∧ k < g) → k < w4.heap.size := fun k hk => by have := (x3.trans x4).size; omega
    have ar4 := ar2.ext (x3.trans x4)
    have fresh : ∀ w5, Upd g w4 w5 → Ext w w5 := fun w5 m5 => Ext.upd y4 m5 (by omega)
    refine And.intro (fun h5 => ?_) (fun h5 => ?_)
    · refine OpT.indexAddr Try.underlying51 Try.sizeOf53 rfl rfl ha1 (by omega) ?_
      refine Lands.v (Holds.nil _) ?_
      refine OpT.load Try.isAgg23 rfl (hrow.cell 1 rfl) ?_
      refine Lands.v (Holds.nil _) ?_
      have rel := read_rel r 0 (fun bs => numR bs l[i].n 0) (fun bs => numR_err bs _) (fun bs => numR_le bs _ _) rok
      refine (Number_runs g l[i].n r w4 ar4 hRg hRl rok).mono ?_
      rintro _ w5 ⟨rfl, m5, ar5⟩
      revert ar5 rel
      generalize (r.read 0 fun bs => numR bs l[i].n 0) = q
      obtain ⟨r', v'⟩ := q
      rintro rel ar5
      simp only at ar5 rel
      refine Lands.v (Holds.nil _) ?_
      have sdE : ∀ sd : Bool, sd = true → True := fun _ _ => trivial
      refine vcS (Bad_runs g _ _ ar5) (Holds.nil _) fun w6 x6 hh6 => ?_
      refine Or.inl (Exists.intro (.int .i64 r'.at_) (And.intro (fun _ _ => At_runs g _ _ (ar5.ext x6)) (fun w7 x7 hh7 => ?_)))
      have ar7 := (ar5.ext x6).ext x7
      refine Or.inl (Exists.intro (.int .i64 r'.at_) (And.intro (fun _ _ _ => At_runs g _ _ ar7) (fun w8 x8 hh8 => ?_)))
      refine Or.inl (Exists.intro (.int .i64 r'.at_) (And.intro (fun _ => At_runs g _ _ (ar7.ext x8)) (fun w9 x9 hh9 => ?_)))
      refine Or.inl (Exists.intro (.int .i64 r'.at_) (And.intro (fun _ => At_runs g _ _ ((ar7.ext x8).ext x9)) (fun w10 x10 hh10 => ?_)))
      have ar10 := ((ar7.ext x8).ext x9).ext x10
      refine Or.inl (Exists.intro (.int .i64 (r'.bs.length - r'.at_)) (And.intro (fun _ => Left_runs g _ _ ar10 ⟨by rw [rel.2.2.2.2, rbs]; omega, rel.2.2.2.1.2⟩) (fun w11 x11 hh11 => ?_)))
      have hlen : r'.bs.length = bs.length := by rw [rel.2.2.2.2, rbs]
      have hat : r'.at_ ≤ bs.length := by rw [← hlen]; exact rel.2.2.2.1.2
      refine And.intro (fun _ => by simp only [inKind]; omega) ?_
      refine And.intro (fun h12 => ?_) (fun h12 => ?_)
      · exact absurd h12 (by
          rw [stop_false r r' _ bs.length (fun h => ⟨by simp [(rel.1 h).1], (rel.1 h).2⟩) (fun h => ⟨by simp [(rel.2.1 h).1], (rel.2.1 h).2⟩) rel.2.2.1 hlen]
          simp)
      · refine vsd (by simp only [inKind]; omega) ?_
        exact Exists.intro (i + 1, r') ⟨by simp only; omega, ⟨rfl, rfl, rfl, rfl, trivial⟩, trivial, (fresh _ m5).trans (x6.trans (x7.trans (x8.trans (x9.trans (x10.trans x11))))), by have := m5.size; have := x6.size; have := x7.size; have := x8.size; have := x9.size; have := x10.size; have := x11.size; have := (x3.trans x4).size; omega, ar10.ext x11, rel.2.2.2.1, by rw [rel.2.2.2.2, rbs], hil⟩
    · refine And.intro (fun h55 => ?_) (fun h55 => ?_)
      · have rel := read_rel r 0 (fun bs => byteR bs 0) byteR_err byteR_le' rok
        refine (Byte_runs g r w4 ar4 hRg hRl rok).mono ?_
        rintro _ w5 ⟨rfl, m5, ar5⟩
        revert ar5 rel
        generalize (r.read 0 fun bs => byteR bs 0) = q
        obtain ⟨r', v'⟩ := q
        rintro rel ar5
        simp only at ar5 rel
        refine Lands.v (Holds.nil _) ?_
        have sdE : ∀ sd : Bool, sd = true → True := fun _ _ => trivial
        refine vcS (Bad_runs g _ _ ar5) (Holds.nil _) fun w6 x6 hh6 => ?_
        refine Or.inl (Exists.intro (.int .i64 r'.at_) (And.intro (fun _ _ => At_runs g _ _ (ar5.ext x6)) (fun w7 x7 hh7 => ?_)))
        have ar7 := (ar5.ext x6).ext x7
        refine Or.inl (Exists.intro (.int .i64 r'.at_) (And.intro (fun _ _ _ => At_runs g _ _ ar7) (fun w8 x8 hh8 => ?_)))
        refine Or.inl (Exists.intro (.int .i64 r'.at_) (And.intro (fun _ => At_runs g _ _ (ar7.ext x8)) (fun w9 x9 hh9 => ?_)))
        refine Or.inl (Exists.intro (.int .i64 r'.at_) (And.intro (fun _ => At_runs g _ _ ((ar7.ext x8).ext x9)) (fun w10 x10 hh10 => ?_)))
        have ar10 := ((ar7.ext x8).ext x9).ext x10
        refine Or.inl (Exists.intro (.int .i64 (r'.bs.length - r'.at_)) (And.intro (fun _ => Left_runs g _ _ ar10 ⟨by rw [rel.2.2.2.2, rbs]; omega, rel.2.2.2.1.2⟩) (fun w11 x11 hh11 => ?_)))
        have hlen : r'.bs.length = bs.length := by rw [rel.2.2.2.2, rbs]
        have hat : r'.at_ ≤ bs.length := by rw [← hlen]; exact rel.2.2.2.1.2
        refine And.intro (fun _ => by simp only [inKind]; omega) ?_
        refine And.intro (fun h12 => ?_) (fun h12 => ?_)
        · exact absurd h12 (by
            rw [stop_false r r' _ bs.length (fun h => ⟨by simp [(rel.1 h).1], (rel.1 h).2⟩) (fun h => ⟨by simp [(rel.2.1 h).1], (rel.2.1 h).2⟩) rel.2.2.1 hlen]
            simp)
        · refine vsd (by simp only [inKind]; omega) ?_
          exact Exists.intro (i + 1, r') ⟨by simp only; omega, ⟨rfl, rfl, rfl, rfl, trivial⟩, trivial, (fresh _ m5).trans (x6.trans (x7.trans (x8.trans (x9.trans (x10.trans x11))))), by have := m5.size; have := x6.size; have := x7.size; have := x8.size; have := x9.size; have := x10.size; have := x11.size; have := (x3.trans x4).size; omega, ar10.ext x11, rel.2.2.2.1, by rw [rel.2.2.2.2, rbs], hil⟩
      · have rel := read_rel r (⟨#[]⟩ : ByteArray) (fun bs => nameR bs ⟨#[]⟩) (fun bs => nameR_err bs _) (fun bs => nameR_le' bs _) rok
        refine (RName_runs g r w4 ar4 hRg hRl rok).mono ?_
        rintro _ w5 ⟨rfl, m5, ar5⟩
        revert ar5 rel
        generalize (r.read (⟨#[]⟩ : ByteArray) fun bs => nameR bs ⟨#[]⟩) = q
        obtain ⟨r', v'⟩ := q
        rintro rel ar5
        simp only at ar5 rel
        refine Lands.v (Holds.nil _) ?_
        have sdE : ∀ sd : Bool, sd = true → True := fun _ _ => trivial
        refine vcS (Bad_runs g _ _ ar5) (Holds.nil _) fun w6 x6 hh6 => ?_
        refine Or.inl (Exists.intro (.int .i64 r'.at_) (And.intro (fun _ _ => At_runs g _ _ (ar5.ext x6)) (fun w7 x7 hh7 => ?_)))
        have ar7 := (ar5.ext x6).ext x7
        refine Or.inl (Exists.intro (.int .i64 r'.at_) (And.intro (fun _ _ _ => At_runs g _ _ ar7) (fun w8 x8 hh8 => ?_)))
        refine Or.inl (Exists.intro (.int .i64 r'.at_) (And.intro (fun _ => At_runs g _ _ (ar7.ext x8)) (fun w9 x9 hh9 => ?_)))
        refine Or.inl (Exists.intro (.int .i64 r'.at_) (And.intro (fun _ => At_runs g _ _ ((ar7.ext x8).ext x9)) (fun w10 x10 hh10 => ?_)))
        have ar10 := ((ar7.ext x8).ext x9).ext x10
        refine Or.inl (Exists.intro (.int .i64 (r'.bs.length - r'.at_)) (And.intro (fun _ => Left_runs g _ _ ar10 ⟨by rw [rel.2.2.2.2, rbs]; omega, rel.2.2.2.1.2⟩) (fun w11 x11 hh11 => ?_)))
        have hlen : r'.bs.length = bs.length := by rw [rel.2.2.2.2, rbs]
        have hat : r'.at_ ≤ bs.length := by rw [← hlen]; exact rel.2.2.2.1.2
        refine And.intro (fun _ => by simp only [inKind]; omega) ?_
        refine And.intro (fun h12 => ?_) (fun h12 => ?_)
        · exact absurd h12 (by
            rw [stop_false r r' _ bs.length (fun h => ⟨by simp [(rel.1 h).1], (rel.1 h).2⟩) (fun h => ⟨by simp [(rel.2.1 h).1], (rel.2.1 h).2⟩) rel.2.2.1 hlen]
            simp)
        · refine vsd (by simp only [inKind]; omega) ?_
          exact Exists.intro (i + 1, r') ⟨by simp only; omega, ⟨rfl, rfl, rfl, rfl, trivial⟩, trivial, (fresh _ m5).trans (x6.trans (x7.trans (x8.trans (x9.trans (x10.trans x11))))), by have := m5.size; have := x6.size; have := x7.size; have := x8.size; have := x9.size; have := x10.size; have := x11.size; have := (x3.trans x4).size; omega, ar10.ext x11, rel.2.2.2.1, by rw [rel.2.2.2.2, rbs], hil⟩
  · refine vcS (works_runs _) (Holds.nil _) fun w3 x3 hh3 => ?_
    exact ⟨rfl, x2.trans x3⟩
end Go.Proofs.Ytcjkodcamkcljaa

