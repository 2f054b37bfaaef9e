/-
  Put and PutName, and their references; Clone, New.
-/
import Derived.Test.YtcjkodcamkcljaaO2
namespace Go.Proofs.Ytcjkodcamkcljaa
open Go Go.RowKit Go.Proofs.Bw
set_option linter.unusedVariables false
set_option linter.unusedSimpArgs false

/-- bytes of one's own; bytes that may be read -/
def OB (w : World) (lo : Nat) (v : Value) (bs : List UInt8) : Prop := ∃ A c, v = .slice A bs.length c ∧ OwnR w lo 5 1 A c (bR bs)
def RB (w : World) (R : Nat → Prop) (v : Value) (bs : List UInt8) : Prop := ∃ A c, v = .slice A bs.length c ∧ lenOk bs.length c ∧ Rd w R 1 A (bR bs)
theorem OB.rb {w : World} {lo : Nat} {v : Value} {bs : List UInt8} (h : OB w lo v bs) : RB w (fun k => lo ≤ k ∧ k < w.heap.size) v bs := by
  obtain ⟨A, c, rfl, h⟩ := h
  have := h.le
  rw [bR_length] at this
  exact ⟨A, c, rfl, this, h.rd⟩
theorem RB.ext {w w' : World} {R : Nat → Prop} {v : Value} {bs : List UInt8} (h : RB w R v bs) (hx : Ext w w') : RB w' R v bs := by
  obtain ⟨A, c, rfl, hl, h⟩ := h
  exact ⟨A, c, rfl, hl, h.ext hx⟩
theorem OB.ext {w w' : World} {lo : Nat} {v : Value} {bs : List UInt8} (h : OB w lo v bs) (hx : Ext w w') : OB w' lo v bs := by
  obtain ⟨A, c, rfl, h⟩ := h
  exact ⟨A, c, rfl, h.ext hx⟩
theorem Put_runs {R : Nat → Prop} (b : Value) (bs : List UInt8) (n : Nat) (hn : n < 2 ^ 64) (w : World) (hb : RB w R b bs) (hs : bs.length ≤ 1000000) :
    Runs Try.prog 10 #[b, .int .u64 n] w fun v w' => Ext w w' ∧ OB w' w.heap.size v (bs ++ num7 n) := by
  obtain ⟨A0, c0, rfl, hl0, hb⟩ := hb
  refine Runs.of_vc cx_ok [0, 1, 4, 5, 13] [.v _, .v _] Try.func10 rfl rfl rfl (Holds.nil _) ?_
  refine vsd (by simp only [inKind]; omega) ?_
  have ec : (bs.length : Int) + 10 = ((bs.length + 10 : Nat) : Int) := rfl
  refine OpT.makeSlice0 el5 Try.underlying22 rfl (c := bs.length + 10) rfl (by omega) (by omega) fun w1 g1 e1 x1 o1 => ?_
  have hh1 : Holds [] [] w1 := Holds.nil _
  refine Lands.v hh1 ?_
  refine OpT.appendR el5 Try.underlying22 rfl rfl o1 (hb.ext x1) rfl (bR_length bs).symm (bR_len bs) (bR_ones bs) (List.nil_append _) (n' := bs.length) (bR_length bs) (by rw [bR_length]; omega) x1.size fun w2 A2 c2 m2 o2 => ?_
  have x2 := x1.own o1 (Nat.le_refl _) m2
  refine Lands.v (Holds.nil _) ?_
  refine vLoop_mk (σ := Nat × List UInt8 × Option Addr × Nat) (fun q => [(1, .v (.int .u64 q.1)), (5, .v (.slice q.2.2.1 (bs ++ q.2.1).length q.2.2.2))]) (fun _ => [])
    (fun q w' => Ext w w' ∧ q.1 < 2 ^ 64 ∧ q.2.1 ++ num7 q.1 = num7 n ∧ OwnR w' w.heap.size 5 1 q.2.2.1 q.2.2.2 (bR (bs ++ q.2.1))) (fun q => q.1) (n, [], A2, c2) (fun _ => ⟨rfl, rfl⟩)
    ⟨⟨rfl, by simp only [List.append_nil]; rfl, trivial⟩, trivial, x2, hn, rfl, by simpa using o2⟩ ?_
  rintro ⟨m, ds, A, c⟩ w3 hh ⟨x3, hm, he, ho⟩
  simp only at hm he ho
  have hl := num7_len n hn
  rw [← he, List.length_append] at hl
  have hl2 := num7_len m hm
  refine And.intro (fun h => ?_) (fun h => ?_)
  · have hge := of_decide_eq_true h
    simp only at hge
    have e8 : bits .or .u8 (IntKind.u8.wrap (m : Int)) 128 = ((UInt8.ofNat (m % 128 + 128)).toNat : Int) := by rw [u8n (by omega), wrap8, or128 _ (by omega)]; omega
    refine OpT.buildSlice (cs := #[.int .u8 (bits .or .u8 (IntKind.u8.wrap (m : Int)) 128)]) (.cons rfl .nil) Try.underlying22 Try.sizeOf5 Try.zeroValue5 rfl (by kernel_rfl) fun w4 g4 e4 x4 z4 b4 => ?_
    refine Lands.v (Holds.nil _) ?_
    refine OpT.append1 el5 Try.underlying22 rfl rfl (ho.ext x4) b4 (by simp [bR]) rfl rfl (css' := bR (bs ++ (ds ++ [UInt8.ofNat (m % 128 + 128)]))) (by rw [← List.append_assoc, bR_append (bs ++ ds), e8]; rfl) (n' := (bs ++ (ds ++ [UInt8.ofNat (m % 128 + 128)])).length) (bR_length _) (by rw [bR_length]; simp; omega) (Nat.le_trans x3.size x4.size) fun w5 A5 c5 m5 o5 => ?_
    have x5 := (x3.trans x4).own (ho.ext x4) (Nat.le_refl _) m5
    refine Lands.v (Holds.nil _) ?_
    refine vsd (by omega) ?_
    exact Exists.intro (m / 128, ds ++ [UInt8.ofNat (m % 128 + 128)], A5, c5) ⟨by simp only; omega, ⟨by simp only; rw [← shr7]; rfl, rfl, trivial⟩, trivial, x5, by simp only; omega, by simp only; rw [← he, num7_ge (n := m) (by omega), List.append_assoc]; rfl, o5⟩
  · have hge := of_decide_eq_false h
    simp only at hge
    have e8 : IntKind.u8.wrap (m : Int) = ((UInt8.ofNat m).toNat : Int) := by rw [u8n (by omega), IntKind.wrap_u8]; omega
    rw [num7_lt (by omega)] at he
    refine OpT.buildSlice (cs := #[.int .u8 (IntKind.u8.wrap (m : Int))]) (.cons rfl .nil) Try.underlying22 Try.sizeOf5 Try.zeroValue5 rfl (by kernel_rfl) fun w4 g4 e4 x4 z4 b4 => ?_
    refine Lands.v (Holds.nil _) ?_
    refine OpT.append1 el5 Try.underlying22 rfl rfl (ho.ext x4) b4 (by simp [bR]) rfl rfl (css' := bR (bs ++ num7 n)) (by rw [← he, ← List.append_assoc, bR_append (bs ++ ds), e8]; rfl) (n' := (bs ++ num7 n).length) (bR_length _) (by rw [bR_length, List.length_append]; have := num7_len n hn; omega) (Nat.le_trans x3.size x4.size) fun w5 A5 c5 m5 o5 => ?_
    have x5 := (x3.trans x4).own (ho.ext x4) (Nat.le_refl _) m5
    refine Lands.v (Holds.nil _) ?_
    exact ⟨x5, A5, c5, rfl, o5⟩

theorem rPut_runs {R : Nat → Prop} (b : Value) (bs : List UInt8) (n : Nat) (hn : n < 2 ^ 64) (w : World) (hb : RB w R b bs) (hs : bs.length ≤ 1000000) :
    Runs Try.prog 13 #[b, .int .u64 n] w fun v w' => Ext w w' ∧ OB w' w.heap.size v (bs ++ num7 n) := by
  obtain ⟨A0, c0, rfl, hl0, hb⟩ := hb
  refine Runs.of_vc cx_ok [0, 1, 4] [.v _, .v _] Try.func13 rfl rfl rfl (Holds.nil _) ?_
  refine OpT.buildOwn (cs := #[]) (css := []) .nil Try.underlying22 Try.sizeOf5 Try.zeroValue5 rfl (by kernel_rfl) rfl (fun r hr => by cases hr) rfl rfl fun w1 g1 e1 x1 z1 o1 => ?_
  refine Lands.v (Holds.nil _) ?_
  refine OpT.appendR el5 Try.underlying22 rfl rfl o1 (hb.ext x1) rfl (bR_length bs).symm (bR_len bs) (bR_ones bs) (List.nil_append _) (n' := bs.length) (bR_length bs) (by rw [bR_length]; omega) x1.size fun w2 A2 c2 m2 o2 => ?_
  have x2 := x1.own o1 (Nat.le_refl _) m2
  refine Lands.v (Holds.nil _) ?_
  refine vcE (rNumber_runs n hn _) (Holds.nil _) ?_
  rintro _ w3 x3 hh3 ⟨A3, c3, rfl, o3⟩
  have := num7_len n hn
  refine OpT.appendR el5 Try.underlying22 rfl rfl (o2.ext x3) o3.rd (bR_length bs).symm (bR_length _).symm (bR_len _) (bR_ones _) (bR_append _ _).symm (n' := (bs ++ num7 n).length) (bR_length _) (by rw [bR_length, List.length_append]; omega) (Nat.le_trans x2.size x3.size) fun w4 A4 c4 m4 o4 => ?_
  have x4 := (x2.trans x3).own (o2.ext x3) (Nat.le_refl _) m4
  refine Lands.v (Holds.nil _) ?_
  exact ⟨x4, A4, c4, rfl, o4⟩

theorem Clone_runs {R : Nat → Prop} (b : Value) (bs : List UInt8) (w : World) (hb : RB w R b bs) (hs : bs.length ≤ 1000000) :
    Runs Try.prog 28 #[b] w fun v w' => Ext w w' ∧ OB w' w.heap.size v bs := by
  obtain ⟨A0, c0, rfl, hl0, hb⟩ := hb
  refine Runs.of_vc cx_ok [0, 2, 4] [.v _] Try.func28 rfl rfl rfl (Holds.nil _) ?_
  refine And.intro (fun h => ?_) (fun h => ?_)
  · have hA : A0 = none := by cases A0 <;> simp_all
    subst hA
    have h0 : bs = [] := by
      cases bs with
      | nil => rfl
      | cons b r => obtain ⟨a, ha, _⟩ := hb 0 _ rfl; cases ha
    subst h0
    exact ⟨Ext.refl _, none, 0, rfl, OwnR.nil _ _ _ _⟩
  · refine OpT.buildOwn (cs := #[]) (css := []) .nil Try.underlying22 Try.sizeOf5 Try.zeroValue5 rfl (by kernel_rfl) rfl (fun r hr => by cases hr) rfl rfl fun w1 g1 e1 x1 z1 o1 => ?_
    refine Lands.v (Holds.nil _) ?_
    refine OpT.appendR el5 Try.underlying22 rfl rfl o1 (hb.ext x1) rfl (bR_length bs).symm (bR_len bs) (bR_ones bs) (List.nil_append _) (n' := bs.length) (bR_length bs) (by rw [bR_length]; omega) x1.size fun w2 A2 c2 m2 o2 => ?_
    have x2 := x1.own o1 (Nat.le_refl _) m2
    refine Lands.v (Holds.nil _) ?_
    exact ⟨x2, A2, c2, rfl, o2⟩

/-- What putting a name yields. -/
def PN (w : World) (lo : Nat) (v : Value) (bs : List UInt8) (s : ByteArray) : Prop := ∃ v1, v = .tuple #[v1, .int .i64 (bif nameB s then 0 else 5)] ∧ (nameB s = true → OB w lo v1 (bs ++ num7 s.size ++ s.data.toList)) ∧ (nameB s = false → v1 = .slice none 0 0)
theorem PutName_runs {R : Nat → Prop} (b : Value) (bs : List UInt8) (s : ByteArray) (hsz : s.size ≤ 1000000) (w : World) (hb : RB w R b bs) (hs : bs.length ≤ 1000000) :
    Runs Try.prog 11 #[b, .string s] w fun v w' => Ext w w' ∧ PN w' w.heap.size v bs s := by
  refine Runs.of_vc cx_ok [0, 1, 4, 5, 8] [.v _, .v _] Try.func11 rfl rfl rfl (Holds.nil _) ?_
  refine vcS (Name_runs s (by omega) _) (Holds.nil _) fun w1 x1 hh1 => ?_
  refine And.intro (fun h => ?_) (fun h => ?_)
  · have h' : nameB s = false := by simpa using h
    exact ⟨x1, .slice none 0 0, (by rw [h']; rfl), fun h2 => (by rw [h'] at h2; cases h2), fun _ => rfl⟩
  · have h' : nameB s = true := by simpa using h
    refine vsd (by simp only [inKind]; omega) ?_
    refine vcE (Put_runs b bs s.size (by omega) _ (hb.ext x1) hs) (Holds.nil _) ?_
    rintro _ w2 x2 hh2 ⟨A2, c2, rfl, o2⟩
    have := num7_len s.size (by omega)
    refine OpT.appendS (news := bR s.data.toList) el5 Try.underlying22 (by rw [bR_length]; rfl) rfl o2 (by rw [← strR]; exact Go.Src.ofString _ Try.underlying9 s) (by rw [bR_length]; simp) (bR_len _) (by rw [bR_length, bR_length, List.length_append]; simp; omega) x2.size fun w3 A3 c3 m3 o3 => ?_
    have x3 := (x1.trans x2).own (lo := w1.heap.size) o2 x1.size m3
    refine Lands.v (Holds.nil _) ?_
    rw [← bR_append] at o3
    exact ⟨x3, .slice A3 (bR (bs ++ num7 s.size) ++ bR s.data.toList).length c3, (by rw [h']; rfl), fun _ => ⟨A3, c3, (by rw [← bR_append, bR_length]), o3.lower x1.size⟩, fun h2 => (by rw [h'] at h2; cases h2)⟩
theorem rPutName_runs {R : Nat → Prop} (b : Value) (bs : List UInt8) (s : ByteArray) (hsz : s.size ≤ 1000000) (w : World) (hb : RB w R b bs) (hs : bs.length ≤ 1000000) :
    Runs Try.prog 12 #[b, .string s] w fun v w' => Ext w w' ∧ PN w' w.heap.size v bs s := by
  refine Runs.of_vc cx_ok [0, 1, 4, 5, 8] [.v _, .v _] Try.func12 rfl rfl rfl (Holds.nil _) ?_
  refine vcS (Is_runs s (by omega) _) (Holds.nil _) fun w1 x1 hh1 => ?_
  refine And.intro (fun h => ?_) (fun h => ?_)
  · have h' : nameB s = false := by simpa using h
    exact ⟨x1, .slice none 0 0, (by rw [h']; rfl), fun h2 => (by rw [h'] at h2; cases h2), fun _ => rfl⟩
  · have h' : nameB s = true := by simpa using h
    refine vsd (by simp only [inKind]; omega) ?_
    refine vcE (rPut_runs b bs s.size (by omega) _ (hb.ext x1) hs) (Holds.nil _) ?_
    rintro _ w2 x2 hh2 ⟨A2, c2, rfl, o2⟩
    have := num7_len s.size (by omega)
    refine OpT.appendS (news := bR s.data.toList) el5 Try.underlying22 (by rw [bR_length]; rfl) rfl o2 (by rw [← strR]; exact Go.Src.ofString _ Try.underlying9 s) (by rw [bR_length]; simp) (bR_len _) (by rw [bR_length, bR_length, List.length_append]; simp; omega) x2.size fun w3 A3 c3 m3 o3 => ?_
    have x3 := (x1.trans x2).own (lo := w1.heap.size) o2 x1.size m3
    refine Lands.v (Holds.nil _) ?_
    rw [← bR_append] at o3
    exact ⟨x3, .slice A3 (bR (bs ++ num7 s.size) ++ bR s.data.toList).length c3, (by rw [h']; rfl), fun _ => ⟨A3, c3, (by rw [← bR_append, bR_length]), o3.lower x1.size⟩, fun h2 => (by rw [h'] at h2; cases h2)⟩

/-- A reader: its bytes, its place, its error and where. -/
structure Rdr where
  bs : List UInt8
  at_ : Nat
  bad : Int
  spot : Int
/-- how it lies in its block -/
def RdrAt (w : World) (R : Nat → Prop) (g : Nat) (r : Rdr) : Prop := ∃ A c, Box w g [.slice A r.bs.length c, .int .i64 r.at_, .int .i64 r.bad, .int .i64 r.spot] ∧ lenOk r.bs.length c ∧ Rd w R 1 A (bR r.bs)
theorem New_runs {R : Nat → Prop} (b : Value) (bs : List UInt8) (w : World) (hb : RB w R b bs) (hs : bs.length ≤ 1000000) :
    Runs Try.prog 17 #[b] w fun v w' => Ext w w' ∧ ∃ g, v = .pointer (some ⟨g, 0, none⟩) ∧ w.heap.size ≤ g ∧ RdrAt w' (fun k => w.heap.size ≤ k ∧ k < g) g ⟨bs, 0, 0, 0⟩ := by
  refine Runs.of_vc cx_ok [0, 2] [.v _] Try.func17 rfl rfl rfl (Holds.nil _) ?_
  refine vcE (Clone_runs b bs _ hb hs) (Holds.nil _) ?_
  rintro _ w1 x1 hh1 ⟨A1, c1, rfl, o1⟩
  intro g w2 e2 x2 z2 hh2
  have hle := o1.le
  rw [bR_length] at hle
  exact ⟨x1.trans x2, g, rfl, (by rw [e2]; exact x1.size), A1, c1, hh2.box 0 _ rfl, hle, (o1.rd.mono fun k hk => ⟨hk.1, by rw [e2]; exact hk.2⟩).ext x2⟩

/-- a reader's cells -/
def Rdr.cells (r : Rdr) (A : Option Addr) (c : Nat) : List SV := [.v (.slice A r.bs.length c), .v (.int .i64 r.at_), .v (.int .i64 r.bad), .v (.int .i64 r.spot)]
theorem Left_runs {R : Nat → Prop} (g : Nat) (r : Rdr) (w : World) (h : RdrAt w R g r) (hs : r.bs.length ≤ 1000000 ∧ r.at_ ≤ r.bs.length) :
    Runs Try.prog 19 #[.pointer (some ⟨g, 0, none⟩)] w fun v w' => v = .int .i64 ((r.bs.length : Int) - r.at_) ∧ Ext w w' := by
  obtain ⟨A, c, b, hl, hr⟩ := h
  have hh := Holds.one (cs := r.cells A c) b rfl
  refine Runs.of_vc (ρ := [g]) cx_ok [0, 2, 4] [.p 0 0] Try.func19 rfl rfl rfl hh ?_
  refine And.intro (fun h => by cases h) (fun _ => ?_)
  refine vDrw_mk [] [0, 1, 2, 3, 4, 5, 6, 7, 8, 9, 10] rfl fun w1 x1 hh1 => ?_
  refine vsd (by simp only [inKind]; omega) ?_
  exact ⟨rfl, x1⟩
theorem At_runs {R : Nat → Prop} (g : Nat) (r : Rdr) (w : World) (h : RdrAt w R g r) :
    Runs Try.prog 21 #[.pointer (some ⟨g, 0, none⟩)] w fun v w' => v = .int .i64 r.at_ ∧ Ext w w' := by
  obtain ⟨A, c, b, hl, hr⟩ := h
  have hh := Holds.one (cs := r.cells A c) b rfl
  refine Runs.of_vc (ρ := [g]) cx_ok [0, 2, 4] [.p 0 0] Try.func21 rfl rfl rfl hh ?_
  refine And.intro (fun h => by cases h) (fun _ => ?_)
  exact ⟨rfl, Ext.refl _⟩
theorem Bad_runs {R : Nat → Prop} (g : Nat) (r : Rdr) (w : World) (h : RdrAt w R g r) :
    Runs Try.prog 22 #[.pointer (some ⟨g, 0, none⟩)] w fun v w' => v = .tuple #[.int .i64 r.spot, .int .i64 r.bad] ∧ Ext w w' := by
  obtain ⟨A, c, b, hl, hr⟩ := h
  have hh := Holds.one (cs := r.cells A c) b rfl
  refine Runs.of_vc (ρ := [g]) cx_ok [0, 2, 3, 5] [.p 0 0] Try.func22 rfl rfl rfl hh ?_
  refine And.intro (fun h => by cases h) (fun _ => ?_)
  refine vDrw_mk [] [0, 1, 2, 3, 4, 5, 6, 7, 8, 9] rfl fun w1 x1 hh1 => ?_
  exact ⟨rfl, x1⟩
/-- of no reader -/
theorem LeftN_runs (w : World) : Runs Try.prog 19 #[.pointer none] w fun v w' => v = .int .i64 0 ∧ Ext w w' := by
  refine Runs.of_vc cx_ok [0, 2, 4] [.v _] Try.func19 rfl rfl rfl (Holds.nil _) ?_
  exact And.intro (fun h => ⟨rfl, Ext.refl _⟩) (fun h => by cases h)
end Go.Proofs.Ytcjkodcamkcljaa

