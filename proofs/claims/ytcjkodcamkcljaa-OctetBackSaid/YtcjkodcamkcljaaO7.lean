/-
  A reader's calls.
-/
import Derived.Test.YtcjkodcamkcljaaO6
namespace Go.Proofs.Ytcjkodcamkcljaa
open Go Go.RowKit Go.Proofs.Bw
set_option linter.unusedVariables false
set_option linter.unusedSimpArgs false

theorem RdrAt.upd {w w' : World} {R : Nat → Prop} {g q : Nat} {r : Rdr} (h : RdrAt w R g r) (hm : Upd q w w') (hg : g ≠ q) (hq : ¬ R q) : RdrAt w' R g r := by
  obtain ⟨A, c, b, hl, hr⟩ := h
  exact ⟨A, c, b.upd hm hg, hl, hr.mod hm fun k hk e => hq (by rw [← e]; exact hk)⟩
theorem Number_runs {R : Nat → Prop} (g most : Nat) (r : Rdr) (w : World) (h : RdrAt w R g r) (hR : ¬ R g) (hRl : ∀ k, R k → k < w.heap.size) (hr : r.ok) :
    Runs Try.prog 18 #[.pointer (some ⟨g, 0, none⟩), .int .u64 most] w fun v w' => v = .int .u64 (r.read 0 fun bs => numR bs most 0).2 ∧ Upd g w w' ∧ RdrAt w' R g (r.read 0 fun bs => numR bs most 0).1 := by
  have hg : g < w.heap.size := h.choose_spec.choose_spec.1.lt
  refine Runs.of_vc cx_ok [0, 1, 3, 4, 5] [.v _, .v _] Try.func18 rfl rfl rfl (Holds.nil _) ?_
  intro g1 w1 e1 x1 z1 hh1
  intro g2 w2 e2 x2 z2 hh2
  refine (readN_runs (R := R) g g1 g2 most 0 r w2 (h.ext (x1.trans x2)) hR (fun hk => by have := hRl _ hk; omega) hr (hh2.box 0 _ rfl) (hh2.box 1 _ rfl) (by omega) (by omega) (by omega)).mono ?_
  rintro _ w3 ⟨rfl, m3, hR3, b3⟩
  have hu : Upd g w w3 := (Ext.toUpd (x1.trans x2)).trans' m3 fun i hi hS => by rcases hS with h | h <;> omega
  refine Lands.to (H' := [(1, [.v (.int .u64 (r.read 0 fun bs => numR bs most 0).2)])]) (s := .v _) rfl rfl hh2 m3.size ⟨b3, trivial⟩ rfl fun hh3 => ?_
  intro w4 m4 z4 hh4
  replace m4 : Upd g2 w3 w4 := m4
  exact ⟨rfl, hu.upd m4 (fun h => by omega), hR3.upd m4 (by omega) fun hk => by have := hRl _ hk; omega⟩
theorem Byte_runs {R : Nat → Prop} (g : Nat) (r : Rdr) (w : World) (h : RdrAt w R g r) (hR : ¬ R g) (hRl : ∀ k, R k → k < w.heap.size) (hr : r.ok) :
    Runs Try.prog 24 #[.pointer (some ⟨g, 0, none⟩)] w fun v w' => v = .int .u8 (r.read 0 fun bs => byteR bs 0).2 ∧ Upd g w w' ∧ RdrAt w' R g (r.read 0 fun bs => byteR bs 0).1 := by
  have hg : g < w.heap.size := h.choose_spec.choose_spec.1.lt
  refine Runs.of_vc cx_ok [0, 2, 3] [.v _] Try.func24 rfl rfl rfl (Holds.nil _) ?_
  intro g2 w2 e2 x2 z2 hh2
  refine (readB_runs (R := R) g g2 0 r w2 (h.ext x2) hR (fun hk => by have := hRl _ hk; omega) hr (hh2.box 0 _ rfl) (by omega)).mono ?_
  rintro _ w3 ⟨rfl, m3, hR3, b3⟩
  have hu : Upd g w w3 := (Ext.toUpd x2).trans' m3 fun i hi hS => by rcases hS with h | h <;> omega
  refine Lands.to (H' := [(0, [.v (.int .u8 (r.read 0 fun bs => byteR bs 0).2)])]) (s := .v _) rfl rfl hh2 m3.size ⟨b3, trivial⟩ rfl fun hh3 => ?_
  intro w4 m4 z4 hh4
  replace m4 : Upd g2 w3 w4 := m4
  exact ⟨rfl, hu.upd m4 (fun h => by omega), hR3.upd m4 (by omega) fun hk => by have := hRl _ hk; omega⟩

theorem RName_runs {R : Nat → Prop} (g : Nat) (r : Rdr) (w : World) (h : RdrAt w R g r) (hR : ¬ R g) (hRl : ∀ k, R k → k < w.heap.size) (hr : r.ok) :
    Runs Try.prog 25 #[.pointer (some ⟨g, 0, none⟩)] w fun v w' => v = .string (r.read (⟨#[]⟩ : ByteArray) fun bs => nameR bs ⟨#[]⟩).2 ∧ Upd g w w' ∧ RdrAt w' R g (r.read (⟨#[]⟩ : ByteArray) fun bs => nameR bs ⟨#[]⟩).1 := by
  have hg : g < w.heap.size := h.choose_spec.choose_spec.1.lt
  refine Runs.of_vc cx_ok [0, 2, 3] [.v _] Try.func25 rfl rfl rfl (Holds.nil _) ?_
  intro g2 w2 e2 x2 z2 hh2
  refine (readS_runs (R := R) g g2 ⟨#[]⟩ r w2 (h.ext x2) hR (fun hk => by have := hRl _ hk; omega) hr (hh2.box 0 _ rfl) (by omega)).mono ?_
  rintro _ w3 ⟨rfl, m3, hR3, b3⟩
  have hu : Upd g w w3 := (Ext.toUpd x2).trans' m3 fun i hi hS => by rcases hS with h | h <;> omega
  refine Lands.to (H' := [(0, [.v (.string (r.read (⟨#[]⟩ : ByteArray) fun bs => nameR bs ⟨#[]⟩).2)])]) (s := .v _) rfl rfl hh2 m3.size ⟨b3, trivial⟩ rfl fun hh3 => ?_
  intro w4 m4 z4 hh4
  replace m4 : Upd g2 w3 w4 := m4
  exact ⟨rfl, hu.upd m4 (fun h => by omega), hR3.upd m4 (by omega) fun hk => by have := hRl _ hk; omega⟩

/-! of no reader -/
theorem readNil_runs (f : Value) (w : World) : Runs Try.prog 29 #[.pointer none, f] w fun v w' => v = .tuple #[] ∧ Ext w w' := by
  refine Runs.of_vc cx_ok [0, 1, 4, 5, 14, 30] [.v _, .v _] Try.func29 rfl rfl rfl (Holds.nil _) ?_
  refine vskip rfl ?_
  refine vskip rfl ?_
  refine vskip rfl ?_
  refine vskip rfl ?_
  refine OpT.pickT rfl rfl rfl ?_
  refine Lands.v (Holds.nil _) ?_
  exact And.intro (fun h => ⟨rfl, Ext.refl _⟩) (fun h => by cases h)
theorem NumberNil_runs (most : Int) (w : World) : Runs Try.prog 18 #[.pointer none, .int .u64 most] w fun v w' => v = .int .u64 0 ∧ Ext w w' := by
  refine Runs.of_vc cx_ok [0, 1, 3, 4, 5] [.v _, .v _] Try.func18 rfl rfl rfl (Holds.nil _) ?_
  intro g1 w1 e1 x1 z1 hh1
  intro g2 w2 e2 x2 z2 hh2
  refine vcS (readNil_runs _ _) hh2 fun w3 x3 hh3 => ?_
  intro w4 m4 z4 hh4
  exact ⟨rfl, Ext.upd (g := g2) ((x1.trans x2).trans x3) m4 (by have := x1.size; omega)⟩
theorem ByteNil_runs (w : World) : Runs Try.prog 24 #[.pointer none] w fun v w' => v = .int .u8 0 ∧ Ext w w' := by
  refine Runs.of_vc cx_ok [0, 2, 3] [.v _] Try.func24 rfl rfl rfl (Holds.nil _) ?_
  intro g2 w2 e2 x2 z2 hh2
  refine vcS (readNil_runs _ _) hh2 fun w3 x3 hh3 => ?_
  intro w4 m4 z4 hh4
  exact ⟨rfl, Ext.upd (g := g2) (x2.trans x3) m4 (by omega)⟩
theorem RNameNil_runs (w : World) : Runs Try.prog 25 #[.pointer none] w fun v w' => v = .string ⟨#[]⟩ ∧ Ext w w' := by
  refine Runs.of_vc cx_ok [0, 2, 3] [.v _] Try.func25 rfl rfl rfl (Holds.nil _) ?_
  intro g2 w2 e2 x2 z2 hh2
  refine vcS (readNil_runs _ _) hh2 fun w3 x3 hh3 => ?_
  intro w4 m4 z4 hh4
  exact ⟨rfl, Ext.upd (g := g2) (x2.trans x3) m4 (by omega)⟩
theorem AtNil_runs (w : World) : Runs Try.prog 21 #[.pointer none] w fun v w' => v = .int .i64 0 ∧ Ext w w' := by
  refine Runs.of_vc cx_ok [0, 2, 4] [.v _] Try.func21 rfl rfl rfl (Holds.nil _) ?_
  exact And.intro (fun h => ⟨rfl, Ext.refl _⟩) (fun h => by cases h)
theorem BadNil_runs (w : World) : Runs Try.prog 22 #[.pointer none] w fun v w' => v = .tuple #[.int .i64 0, .int .i64 1] ∧ Ext w w' := by
  refine Runs.of_vc cx_ok [0, 2, 3, 5] [.v _] Try.func22 rfl rfl rfl (Holds.nil _) ?_
  exact And.intro (fun h => ⟨rfl, Ext.refl _⟩) (fun h => by cases h)
theorem FailNil_runs (at_ e : Int) (w : World) : Runs Try.prog 23 #[.pointer none, .int .i64 at_, .int .i64 e] w fun v w' => v = .tuple #[] ∧ Ext w w' := by
  refine Runs.of_vc cx_ok [0, 1, 2, 18] [.v _, .v _, .v _] Try.func23 rfl rfl rfl (Holds.nil _) ?_
  refine vskip rfl ?_
  refine vskip rfl ?_
  refine vskip rfl ?_
  refine vskip rfl ?_
  refine OpT.pickF rfl rfl rfl ?_
  refine Lands.v (Holds.nil _) ?_
  refine And.intro (fun h => ?_) (fun h => ⟨rfl, Ext.refl _⟩)
  simp [sel] at h
end Go.Proofs.Ytcjkodcamkcljaa

