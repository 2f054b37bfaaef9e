/-
  What a reader's calls do: bytes, names, and reading at all.
-/
import Derived.Test.YtcjkodcamkcljaaO5
namespace Go.Proofs.Ytcjkodcamkcljaa
open Go Go.RowKit Go.Proofs.Bw
set_option linter.unusedVariables false
set_option linter.unusedSimpArgs false

def byteR (bs : List UInt8) (c0 : Nat) : Nat × Nat × Int := match bs with
  | [] => (c0, 0, 3)
  | b :: _ => (b.toNat, 1, 0)
theorem Byte1_runs {R : Nat → Prop} (b : Value) (bs : List UInt8) (c0 gc : Nat) (w : World) (hb : RB w R b bs) (hs : bs.length ≤ 1000000) (bc : Box w gc [.int .u8 c0]) :
    Runs Try.prog 32 #[b, .pointer (some ⟨gc, 0, none⟩)] w fun v w' => v = .tuple #[.int .i64 (byteR bs c0).2.1, .int .i64 (byteR bs c0).2.2] ∧ Upd gc w w' ∧ Box w' gc [.int .u8 (byteR bs c0).1] := by
  obtain ⟨A0, ca, rfl, hl0, hb⟩ := hb
  have hh := Holds.one (g := gc) (cs := [.v (.int .u8 c0)]) bc rfl
  refine Runs.of_vc (ρ := [gc]) cx_ok [0, 1, 3, 4, 7] [.v _, .p 0 0] Try.func32 rfl rfl rfl hh ?_
  refine And.intro (fun h => ?_) (fun h => ?_)
  · have h0 := of_decide_eq_true h
    have : bs = [] := List.eq_nil_of_length_eq_zero (by omega)
    subst this
    exact ⟨rfl, Mod.refl _ _, bc⟩
  · have h0 := of_decide_eq_false h
    cases bs with
    | nil => simp at h0
    | cons x r =>
      obtain ⟨a1, ha1, _, hrow⟩ := hb.at (i := 0) rfl
      refine OpT.indexAddr Try.underlying22 Try.sizeOf5 rfl rfl ha1 (by simp) ?_
      refine Lands.v hh ?_
      refine OpT.load Try.isAgg5 rfl (hrow.cell 0 rfl) ?_
      refine Lands.v hh ?_
      intro w2 m2 z2 hh2
      exact ⟨rfl, m2, hh2.box 0 _ rfl⟩
def nameR (bs : List UInt8) (s0 : ByteArray) : ByteArray × Nat × Int := match numOf bs with
  | none => (s0, 0, 3)
  | some (n, k) => if 32 < n then (s0, 0, 4) else if (bs.length : Int) - k < n then (s0, 0, 3) else if nameB (strOf ((bs.drop k).take n)) = true then (strOf ((bs.drop k).take n), k + n, 0) else (s0, 0, 5)
theorem Name1_runs {R : Nat → Prop} (b : Value) (bs : List UInt8) (s0 : ByteArray) (gs : Nat) (w : World) (hb : RB w R b bs) (hs : bs.length ≤ 1000000) (bc : Box w gs [.string s0]) :
    Runs Try.prog 33 #[b, .pointer (some ⟨gs, 0, none⟩)] w fun v w' => v = .tuple #[.int .i64 (nameR bs s0).2.1, .int .i64 (nameR bs s0).2.2] ∧ Upd gs w w' ∧ Box w' gs [.string (nameR bs s0).1] := by
  obtain ⟨A0, ca, rfl, hl0, hb'⟩ := hb
  have hh := Holds.one (g := gs) (cs := [.v (.string s0)]) bc rfl
  refine Runs.of_vc (ρ := [gs]) cx_ok [0, 1, 3, 4, 5, 6, 7, 8, 15, 19, 22, 40] [.v _, .p 0 0] Try.func33 rfl rfl rfl hh ?_
  refine vcS (number_runs _ bs _ ⟨A0, ca, rfl, hl0, hb'⟩ hs) hh fun w1 x1 hh1 => ?_
  cases hn : numOf bs with
  | none =>
    have e : nameR bs s0 = (s0, 0, 3) := by unfold nameR; rw [hn]
    rw [e]
    exact And.intro (fun h => ⟨rfl, x1.toUpd, bc.ext x1⟩) (fun h => by simp at h)
  | some p =>
    obtain ⟨n, k⟩ := p
    obtain ⟨_, hk, hn64, hk1⟩ := numOf_got hn
    refine And.intro (fun h => by simp at h) (fun _ => ?_)
    refine And.intro (fun h2 => ?_) (fun h2 => ?_)
    · have hlt := of_decide_eq_true h2
      have e : nameR bs s0 = (s0, 0, 4) := by unfold nameR; rw [hn]; simp only; rw [if_pos (by omega)]
      rw [e]
      exact ⟨rfl, x1.toUpd, bc.ext x1⟩
    · have hlt := of_decide_eq_false h2
      refine vsd (by simp only [inKind]; omega) ?_
      refine vsd (by simp only [inKind]; omega) ?_
      refine And.intro (fun h3 => ?_) (fun h3 => ?_)
      · have h3' := of_decide_eq_true h3
        have e : nameR bs s0 = (s0, 0, 3) := by unfold nameR; rw [hn]; simp only; rw [if_neg (by omega), if_pos h3']
        rw [e]
        exact ⟨rfl, x1.toUpd, bc.ext x1⟩
      · have h3' := of_decide_eq_false h3
        refine vsd (by simp only [inKind]; omega) ?_
        refine vsd (by simp only [inKind]; omega) ?_
        have cut : ∀ (A' : Option Addr) (w' : World), Rd w' R 1 A' ((bR bs).drop (Int.toNat (k : Int))) → Rd w' R 1 A' (bR ((bs.drop k).take n)) := by
          intro A' w' hr
          rw [show Int.toNat (k : Int) = k by omega, bR_drop] at hr
          rw [← bR_take]; exact hr.take n
        have hlen : n = ((bs.drop k).take n).length := by rw [List.length_take, List.length_drop]; omega
        refine OpT.sliceR (m := n) Try.underlying22 Try.sizeOf5 rfl rfl rfl (hb'.ext x1) (by rw [bR_length]; exact hl0.1) (by have := hl0.1; omega) (by omega) fun A1 r1 => ?_
        refine Lands.v hh1 ?_
        refine OpT.bytesStr Try.underlying22 Try.underlying5 Try.underlying9 rfl (cut _ _ r1) hlen ?_
        refine Lands.v hh1 ?_
        refine vcS (Name_runs _ (by rw [strOf_size, ← hlen]; omega) _) hh1 fun w2 x2 hh2 => ?_
        refine And.intro (fun h4 => ?_) (fun h4 => ?_)
        · have h4' : nameB (strOf ((bs.drop k).take n)) = false := by simpa using h4
          have e : nameR bs s0 = (s0, 0, 5) := by unfold nameR; rw [hn]; simp only; rw [if_neg (by omega), if_neg h3', if_neg (by rw [h4']; decide)]
          rw [e]
          exact ⟨rfl, (Ext.toUpd (x1.trans x2)), bc.ext (x1.trans x2)⟩
        · have h4' : nameB (strOf ((bs.drop k).take n)) = true := by simpa using h4
          have e : nameR bs s0 = (strOf ((bs.drop k).take n), k + n, 0) := by unfold nameR; rw [hn]; simp only; rw [if_neg (by omega), if_neg h3', if_pos h4']
          rw [e]
          refine OpT.sliceR (m := n) Try.underlying22 Try.sizeOf5 rfl rfl rfl (hb'.ext (x1.trans x2)) (by rw [bR_length]; exact hl0.1) (by have := hl0.1; omega) (by omega) fun A2 r2 => ?_
          refine Lands.v hh2 ?_
          refine OpT.bytesStr Try.underlying22 Try.underlying5 Try.underlying9 rfl (cut _ _ r2) hlen ?_
          refine Lands.v hh2 ?_
          intro w3 m3 z3 hh3
          exact ⟨rfl, (Ext.toUpd (x1.trans x2)).trans m3, hh3.box 0 _ rfl⟩

/-- What reading something does to a reader, by what it makes of the bytes that are left. -/
def Rdr.read {α : Type} (r : Rdr) (x0 : α) (f : List UInt8 → α × Nat × Int) : Rdr × α :=
  if r.bad ≠ 0 then (r, x0) else if (f (r.bs.drop r.at_)).2.2 ≠ 0 then ({ r with bad := (f (r.bs.drop r.at_)).2.2, spot := r.at_ }, (f (r.bs.drop r.at_)).1) else ({ r with at_ := r.at_ + (f (r.bs.drop r.at_)).2.1 }, (f (r.bs.drop r.at_)).1)
def Rdr.ok (r : Rdr) : Prop := r.bs.length ≤ 1000000 ∧ r.at_ ≤ r.bs.length
/-- Blocks of a reader and of what is read. -/
def Two (g gn : Nat) : Nat → Prop := fun k => k = g ∨ k = gn
theorem numR_le (bs : List UInt8) (most n0 : Nat) : (numR bs most n0).2.1 ≤ bs.length := by
  unfold numR
  cases hn : numOf bs with
  | none => simp
  | some p =>
    obtain ⟨n, s⟩ := p
    have := (numOf_got hn).2.1
    simp only
    split <;> simp [this]
theorem byteR_le (bs : List UInt8) (c0 : Nat) : (byteR bs c0).2.1 ≤ bs.length := by
  unfold byteR; cases bs <;> simp
theorem nameR_le (bs : List UInt8) (s0 : ByteArray) : (nameR bs s0).2.1 ≤ bs.length := by
  unfold nameR
  cases hn : numOf bs with
  | none => simp
  | some p =>
    obtain ⟨n, s⟩ := p
    have := (numOf_got hn).2.1
    simp only
    (repeat' split) <;> simp <;> omega
theorem readN_runs {R : Nat → Prop} (g gm gn most n0 : Nat) (r : Rdr) (w : World) (h : RdrAt w R g r) (hR : ¬ R g) (hRn : ¬ R gn) (hr : r.ok) (bm : Box w gm [.int .u64 most]) (bn : Box w gn [.int .u64 n0]) (h1 : g ≠ gm) (h2 : g ≠ gn) (h3 : gm ≠ gn) :
    Runs Try.prog 29 #[.pointer (some ⟨g, 0, none⟩), .func (.func 30) #[] #[.pointer (some ⟨gm, 0, none⟩), .pointer (some ⟨gn, 0, none⟩)]] w fun v w' => v = .tuple #[] ∧ Bw.Mod (Two g gn) w w' ∧
      RdrAt w' R g (r.read n0 fun bs => numR bs most n0).1 ∧ Box w' gn [.int .u64 (r.read n0 fun bs => numR bs most n0).2] := by
  have h0 := h
  obtain ⟨A, c, b, hl, hd⟩ := h
  have hh := Holds.one (cs := r.cells A c) b rfl
  refine Runs.of_vc (ρ := [g]) cx_ok [0, 1, 4, 5, 14, 30] [.p 0 0, .f 30 [] [.v _, .v _]] Try.func29 rfl rfl rfl hh ?_
  refine And.intro (fun hb => ?_) (fun hb => ?_)
  · simp only [sel, Bool.or_eq_true, Bool.and_eq_true, Bool.not_eq_true', Bool.not_eq_false', decide_eq_true_eq, decide_eq_false_iff_not, Bool.or_eq_false_iff, Bool.and_eq_false_iff, Bool.and_false, Bool.or_false, Bool.and_true, Bool.or_true, Bool.true_and, Bool.false_or, Bool.true_or, Bool.false_and, Bool.false_eq_true, Bool.true_eq_false, or_false, false_or, and_true, true_and, Bool.not_true, Bool.not_false] at hb
    have e : (r.read n0 fun bs => numR bs most n0) = (r, n0) := by unfold Rdr.read; rw [if_pos (by omega)]
    rw [e]
    exact ⟨rfl, Mod.refl _ _, h0, bn⟩
  · simp only [sel, Bool.or_eq_true, Bool.and_eq_true, Bool.not_eq_true', Bool.not_eq_false', decide_eq_true_eq, decide_eq_false_iff_not, Bool.or_eq_false_iff, Bool.and_eq_false_iff, Bool.and_false, Bool.or_false, Bool.and_true, Bool.or_true, Bool.true_and, Bool.false_or, Bool.true_or, Bool.false_and, Bool.false_eq_true, Bool.true_eq_false, or_false, false_or, and_true, true_and, Bool.not_true, Bool.not_false] at hb
    have hb0 : r.bad = 0 := by omega
    refine vDrw_mk [10] [0, 1, 2, 3, 4, 5, 6, 7, 8, 9, 10, 11, 12, 13, 14, 15] rfl fun w1 x1 hh1 => ?_
    have hlt := hr.2
    have hcut := hd.cut (by rw [bR_length]; exact hl.1) r.at_
    rw [bR_drop] at hcut
    refine Exists.intro (.slice (if c = r.at_ then A else A.map (·.add (r.at_ * 1))) (r.bs.drop r.at_).length (c - r.at_)) (And.intro (fun w2 x2 hh2 => OpT.slice (i := r.at_) (j := (r.bs.length : Int)) Try.underlying22 Try.sizeOf5 rfl rfl rfl (by have := hl.1; omega) ⟨by rw [List.length_drop]; rfl, rfl⟩) ?_)
    refine (Number1_runs (R := R) _ (r.bs.drop r.at_) most n0 gm gn _ ⟨_, _, rfl, ⟨by rw [List.length_drop]; have := hl.1; omega, by have := hl.2; omega⟩, hcut.ext x1⟩ (by rw [List.length_drop]; have := hr.1; omega) (bm.ext x1) (bn.ext x1) h3).mono ?_
    rintro _ w2 ⟨rfl, m2, b2⟩
    have m02 : Upd gn w w2 := (Ext.toUpd x1).trans m2
    have hbg := b.upd m02 h2
    refine Lands.to (H' := [(0, r.cells A c)]) (s := .v _) rfl rfl hh1 m2.size ⟨hbg, trivial⟩ rfl fun hh2 => ?_
    have hR2 : RdrAt w2 R g r := ⟨A, c, hbg, hl, hd.mod m02 fun k hk e => hRn (by rw [← e]; exact hk)⟩
    have two1 : Bw.Mod (Two g gn) w w2 := m02.mono fun k hk => .inr hk
    refine And.intro (fun he => ?_) (fun he => ?_)
    · have he' : (numR (r.bs.drop r.at_) most n0).2.2 ≠ 0 := by simpa using he
      refine (Fail_runs g r r.at_ _ _ hR2 hR).mono ?_
      rintro _ w3 ⟨rfl, m3, hR3⟩
      refine Lands.to (H' := []) (s := .v _) rfl rfl hh2 m3.size trivial rfl fun hh3 => ?_
      have e : (r.read n0 fun bs => numR bs most n0) = (r.fail r.at_ (numR (r.bs.drop r.at_) most n0).2.2, (numR (r.bs.drop r.at_) most n0).1) := by
        unfold Rdr.read Rdr.fail; rw [if_neg (by omega), if_pos he', if_pos ⟨hb0, he'⟩]
      rw [e]
      exact ⟨rfl, two1.trans (m3.mono fun k hk => .inl hk), hR3, b2.upd m3 (fun h => h2 h.symm)⟩
    · have he' : (numR (r.bs.drop r.at_) most n0).2.2 = 0 := by simpa using he
      refine vsd (by have h9 := numR_le (r.bs.drop r.at_) most n0; rw [List.length_drop] at h9; simp only [inKind]; have := hr.1; omega) ?_
      intro w3 m3 z3 hh3
      have e : (r.read n0 fun bs => numR bs most n0) = ({ r with at_ := r.at_ + (numR (r.bs.drop r.at_) most n0).2.1 }, (numR (r.bs.drop r.at_) most n0).1) := by
        unfold Rdr.read; rw [if_neg (by omega), if_neg (by rw [he']; decide)]
      rw [e]
      exact ⟨rfl, two1.trans (m3.mono fun k hk => .inl hk), RdrAt.box hl (hd.mod m02 fun k hk e => hRn (by rw [← e]; exact hk)) m3 hR rfl (hh3.box 0 _ rfl), b2.upd m3 (fun h => h2 h.symm)⟩
theorem readB_runs {R : Nat → Prop} (g gn c0 : Nat) (r : Rdr) (w : World) (h : RdrAt w R g r) (hR : ¬ R g) (hRn : ¬ R gn) (hr : r.ok) (bn : Box w gn [.int .u8 c0]) (h2 : g ≠ gn) :
    Runs Try.prog 29 #[.pointer (some ⟨g, 0, none⟩), .func (.func 32) #[] #[.pointer (some ⟨gn, 0, none⟩)]] w fun v w' => v = .tuple #[] ∧ Bw.Mod (Two g gn) w w' ∧
      RdrAt w' R g (r.read c0 fun bs => byteR bs c0).1 ∧ Box w' gn [.int .u8 (r.read c0 fun bs => byteR bs c0).2] := by
  have h0 := h
  obtain ⟨A, c, b, hl, hd⟩ := h
  have hh := Holds.one (cs := r.cells A c) b rfl
  refine Runs.of_vc (ρ := [g]) cx_ok [0, 1, 4, 5, 14, 30] [.p 0 0, .f 32 [] [.v _]] Try.func29 rfl rfl rfl hh ?_
  refine And.intro (fun hb => ?_) (fun hb => ?_)
  · simp only [sel, Bool.or_eq_true, Bool.and_eq_true, Bool.not_eq_true', Bool.not_eq_false', decide_eq_true_eq, decide_eq_false_iff_not, Bool.or_eq_false_iff, Bool.and_eq_false_iff, Bool.and_false, Bool.or_false, Bool.and_true, Bool.or_true, Bool.true_and, Bool.false_or, Bool.true_or, Bool.false_and, Bool.false_eq_true, Bool.true_eq_false, or_false, false_or, and_true, true_and, Bool.not_true, Bool.not_false] at hb
    have e : (r.read c0 fun bs => byteR bs c0) = (r, c0) := by unfold Rdr.read; rw [if_pos (by omega)]
    rw [e]
    exact ⟨rfl, Mod.refl _ _, h0, bn⟩
  · simp only [sel, Bool.or_eq_true, Bool.and_eq_true, Bool.not_eq_true', Bool.not_eq_false', decide_eq_true_eq, decide_eq_false_iff_not, Bool.or_eq_false_iff, Bool.and_eq_false_iff, Bool.and_false, Bool.or_false, Bool.and_true, Bool.or_true, Bool.true_and, Bool.false_or, Bool.true_or, Bool.false_and, Bool.false_eq_true, Bool.true_eq_false, or_false, false_or, and_true, true_and, Bool.not_true, Bool.not_false] at hb
    have hb0 : r.bad = 0 := by omega
    refine vDrw_mk [10] [0, 1, 2, 3, 4, 5, 6, 7, 8, 9, 10, 11, 12, 13, 14, 15] rfl fun w1 x1 hh1 => ?_
    have hlt := hr.2
    have hcut := hd.cut (by rw [bR_length]; exact hl.1) r.at_
    rw [bR_drop] at hcut
    refine Exists.intro (.slice (if c = r.at_ then A else A.map (·.add (r.at_ * 1))) (r.bs.drop r.at_).length (c - r.at_)) (And.intro (fun w2 x2 hh2 => OpT.slice (i := r.at_) (j := (r.bs.length : Int)) Try.underlying22 Try.sizeOf5 rfl rfl rfl (by have := hl.1; omega) ⟨by rw [List.length_drop]; rfl, rfl⟩) ?_)
    refine (Byte1_runs (R := R) _ (r.bs.drop r.at_) c0 gn _ ⟨_, _, rfl, ⟨by rw [List.length_drop]; have := hl.1; omega, by have := hl.2; omega⟩, hcut.ext x1⟩ (by rw [List.length_drop]; have := hr.1; omega) (bn.ext x1)).mono ?_
    rintro _ w2 ⟨rfl, m2, b2⟩
    have m02 : Upd gn w w2 := (Ext.toUpd x1).trans m2
    have hbg := b.upd m02 h2
    refine Lands.to (H' := [(0, r.cells A c)]) (s := .v _) rfl rfl hh1 m2.size ⟨hbg, trivial⟩ rfl fun hh2 => ?_
    have hR2 : RdrAt w2 R g r := ⟨A, c, hbg, hl, hd.mod m02 fun k hk e => hRn (by rw [← e]; exact hk)⟩
    have two1 : Bw.Mod (Two g gn) w w2 := m02.mono fun k hk => .inr hk
    refine And.intro (fun he => ?_) (fun he => ?_)
    · have he' : (byteR (r.bs.drop r.at_) c0).2.2 ≠ 0 := by simpa using he
      refine (Fail_runs g r r.at_ _ _ hR2 hR).mono ?_
      rintro _ w3 ⟨rfl, m3, hR3⟩
      refine Lands.to (H' := []) (s := .v _) rfl rfl hh2 m3.size trivial rfl fun hh3 => ?_
      have e : (r.read c0 fun bs => byteR bs c0) = (r.fail r.at_ (byteR (r.bs.drop r.at_) c0).2.2, (byteR (r.bs.drop r.at_) c0).1) := by
        unfold Rdr.read Rdr.fail; rw [if_neg (by omega), if_pos he', if_pos ⟨hb0, he'⟩]
      rw [e]
      exact ⟨rfl, two1.trans (m3.mono fun k hk => .inl hk), hR3, b2.upd m3 (fun h => h2 h.symm)⟩
    · have he' : (byteR (r.bs.drop r.at_) c0).2.2 = 0 := by simpa using he
      refine vsd (by have h9 := byteR_le (r.bs.drop r.at_) c0; rw [List.length_drop] at h9; simp only [inKind]; have := hr.1; omega) ?_
      intro w3 m3 z3 hh3
      have e : (r.read c0 fun bs => byteR bs c0) = ({ r with at_ := r.at_ + (byteR (r.bs.drop r.at_) c0).2.1 }, (byteR (r.bs.drop r.at_) c0).1) := by
        unfold Rdr.read; rw [if_neg (by omega), if_neg (by rw [he']; decide)]
      rw [e]
      exact ⟨rfl, two1.trans (m3.mono fun k hk => .inl hk), RdrAt.box hl (hd.mod m02 fun k hk e => hRn (by rw [← e]; exact hk)) m3 hR rfl (hh3.box 0 _ rfl), b2.upd m3 (fun h => h2 h.symm)⟩

theorem readS_runs {R : Nat → Prop} (g gn : Nat) (s0 : ByteArray) (r : Rdr) (w : World) (h : RdrAt w R g r) (hR : ¬ R g) (hRn : ¬ R gn) (hr : r.ok) (bn : Box w gn [.string s0]) (h2 : g ≠ gn) :
    Runs Try.prog 29 #[.pointer (some ⟨g, 0, none⟩), .func (.func 33) #[] #[.pointer (some ⟨gn, 0, none⟩)]] w fun v w' => v = .tuple #[] ∧ Bw.Mod (Two g gn) w w' ∧
      RdrAt w' R g (r.read s0 fun bs => nameR bs s0).1 ∧ Box w' gn [.string (r.read s0 fun bs => nameR bs s0).2] := by
  have h0 := h
  obtain ⟨A, c, b, hl, hd⟩ := h
  have hh := Holds.one (cs := r.cells A c) b rfl
  refine Runs.of_vc (ρ := [g]) cx_ok [0, 1, 4, 5, 14, 30] [.p 0 0, .f 33 [] [.v _]] Try.func29 rfl rfl rfl hh ?_
  refine And.intro (fun hb => ?_) (fun hb => ?_)
  · simp only [sel, Bool.or_eq_true, Bool.and_eq_true, Bool.not_eq_true', Bool.not_eq_false', decide_eq_true_eq, decide_eq_false_iff_not, Bool.or_eq_false_iff, Bool.and_eq_false_iff, Bool.and_false, Bool.or_false, Bool.and_true, Bool.or_true, Bool.true_and, Bool.false_or, Bool.true_or, Bool.false_and, Bool.false_eq_true, Bool.true_eq_false, or_false, false_or, and_true, true_and, Bool.not_true, Bool.not_false] at hb
    have e : (r.read s0 fun bs => nameR bs s0) = (r, s0) := by unfold Rdr.read; rw [if_pos (by omega)]
    rw [e]
    exact ⟨rfl, Mod.refl _ _, h0, bn⟩
  · simp only [sel, Bool.or_eq_true, Bool.and_eq_true, Bool.not_eq_true', Bool.not_eq_false', decide_eq_true_eq, decide_eq_false_iff_not, Bool.or_eq_false_iff, Bool.and_eq_false_iff, Bool.and_false, Bool.or_false, Bool.and_true, Bool.or_true, Bool.true_and, Bool.false_or, Bool.true_or, Bool.false_and, Bool.false_eq_true, Bool.true_eq_false, or_false, false_or, and_true, true_and, Bool.not_true, Bool.not_false] at hb
    have hb0 : r.bad = 0 := by omega
    refine vDrw_mk [10] [0, 1, 2, 3, 4, 5, 6, 7, 8, 9, 10, 11, 12, 13, 14, 15] rfl fun w1 x1 hh1 => ?_
    have hlt := hr.2
    have hcut := hd.cut (by rw [bR_length]; exact hl.1) r.at_
    rw [bR_drop] at hcut
    refine Exists.intro (.slice (if c = r.at_ then A else A.map (·.add (r.at_ * 1))) (r.bs.drop r.at_).length (c - r.at_)) (And.intro (fun w2 x2 hh2 => OpT.slice (i := r.at_) (j := (r.bs.length : Int)) Try.underlying22 Try.sizeOf5 rfl rfl rfl (by have := hl.1; omega) ⟨by rw [List.length_drop]; rfl, rfl⟩) ?_)
    refine (Name1_runs (R := R) _ (r.bs.drop r.at_) s0 gn _ ⟨_, _, rfl, ⟨by rw [List.length_drop]; have := hl.1; omega, by have := hl.2; omega⟩, hcut.ext x1⟩ (by rw [List.length_drop]; have := hr.1; omega) (bn.ext x1)).mono ?_
    rintro _ w2 ⟨rfl, m2, b2⟩
    have m02 : Upd gn w w2 := (Ext.toUpd x1).trans m2
    have hbg := b.upd m02 h2
    refine Lands.to (H' := [(0, r.cells A c)]) (s := .v _) rfl rfl hh1 m2.size ⟨hbg, trivial⟩ rfl fun hh2 => ?_
    have hR2 : RdrAt w2 R g r := ⟨A, c, hbg, hl, hd.mod m02 fun k hk e => hRn (by rw [← e]; exact hk)⟩
    have two1 : Bw.Mod (Two g gn) w w2 := m02.mono fun k hk => .inr hk
    refine And.intro (fun he => ?_) (fun he => ?_)
    · have he' : (nameR (r.bs.drop r.at_) s0).2.2 ≠ 0 := by simpa using he
      refine (Fail_runs g r r.at_ _ _ hR2 hR).mono ?_
      rintro _ w3 ⟨rfl, m3, hR3⟩
      refine Lands.to (H' := []) (s := .v _) rfl rfl hh2 m3.size trivial rfl fun hh3 => ?_
      have e : (r.read s0 fun bs => nameR bs s0) = (r.fail r.at_ (nameR (r.bs.drop r.at_) s0).2.2, (nameR (r.bs.drop r.at_) s0).1) := by
        unfold Rdr.read Rdr.fail; rw [if_neg (by omega), if_pos he', if_pos ⟨hb0, he'⟩]
      rw [e]
      exact ⟨rfl, two1.trans (m3.mono fun k hk => .inl hk), hR3, b2.upd m3 (fun h => h2 h.symm)⟩
    · have he' : (nameR (r.bs.drop r.at_) s0).2.2 = 0 := by simpa using he
      refine vsd (by have h9 := nameR_le (r.bs.drop r.at_) s0; rw [List.length_drop] at h9; simp only [inKind]; have := hr.1; omega) ?_
      intro w3 m3 z3 hh3
      have e : (r.read s0 fun bs => nameR bs s0) = ({ r with at_ := r.at_ + (nameR (r.bs.drop r.at_) s0).2.1 }, (nameR (r.bs.drop r.at_) s0).1) := by
        unfold Rdr.read; rw [if_neg (by omega), if_neg (by rw [he']; decide)]
      rw [e]
      exact ⟨rfl, two1.trans (m3.mono fun k hk => .inl hk), RdrAt.box hl (hd.mod m02 fun k hk e => hRn (by rw [← e]; exact hk)) m3 hR rfl (hh3.box 0 _ rfl), b2.upd m3 (fun h => h2 h.symm)⟩

end Go.Proofs.Ytcjkodcamkcljaa

