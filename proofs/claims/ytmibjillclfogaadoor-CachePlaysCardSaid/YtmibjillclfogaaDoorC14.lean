/-
  The document's cache: find, Has.
-/
import Derived.Test.YtmibjillclfogaaDoorC11
import Derived.Test.YtmibjillclfogaaDoorFns2
namespace Go.Proofs.YtmibjillclfogaaDoor
open Go Go.RowKit Go.Proofs.Bw
set_option linter.unusedVariables false
set_option linter.unusedSimpArgs false

structure PE where
  ca : List Value
  cb : List Value
  a : T
  b : T
def PE.row (e : PE) : List Value := e.ca ++ e.cb
def PE.ok (w : World) (R : Nat → Prop) (e : PE) : Prop := VT w R e.ca e.a ∧ VT w R e.cb e.b
theorem PE.ok.ext {w w' : World} {R : Nat → Prop} {e : PE} (h : e.ok w R) (x : Ext w w') : e.ok w' R := ⟨h.1.ext x, h.2.ext x⟩
def peR (L : List PE) : List (List Value) := L.map PE.row
theorem peR_get {L : List PE} {i : Nat} (h : i < L.length) : (peR L)[i]? = some L[i].row := by simp [peR, h]
theorem peR_length (L : List PE) : (peR L).length = L.length := by simp [peR]
def same2 (e : PE) (a b : T) : Bool := sel (sel (sameB e.a a) (sameB e.b b) false) true (sel (sameB e.a b) (sameB e.b a) false)
theorem same2_iff (e : PE) (a b : T) : same2 e a b = true ↔ (e.a = a ∧ e.b = b) ∨ (e.a = b ∧ e.b = a) := by
  unfold same2
  rw [← sameB_iff, ← sameB_iff, ← sameB_iff, ← sameB_iff]
  cases sameB e.a a <;> cases sameB e.b b <;> cases sameB e.a b <;> cases sameB e.b a <;> simp [sel]
def fI (a b : T) : List PE → Nat → Int
  | [], _ => -1
  | e :: r, i => if same2 e a b = true then i else fI a b r (i + 1)
theorem fI_drop (a b : T) (L : List PE) (i : Nat) (h : i < L.length) : fI a b (L.drop i) i = if same2 L[i] a b = true then (i : Int) else fI a b (L.drop (i + 1)) (i + 1) := by
  rw [List.drop_eq_getElem_cons h, fI]
/-- the document's cache, how it lies -/
structure RAt (w : World) (lo : Nat) (R : Nat → Prop) (g most : Nat) (L : List PE) (A : Option Addr) (c : Nat) : Prop where
  box : Box w g [.int .i64 most, .slice A L.length c]
  own : OwnR w lo 62 10 A c (peR L)
  ne : ¬ ownOf A g
  lo_ : lo ≤ g
  oks : ∀ e ∈ L, e.ok w R
  low : ∀ k, R k → k < lo
theorem RAt.ext {w w' : World} {lo : Nat} {R : Nat → Prop} {g most : Nat} {L : List PE} {A : Option Addr} {c : Nat} (h : RAt w lo R g most L A c) (x : Ext w w') : RAt w' lo R g most L A c :=
  ⟨h.box.ext x, h.own.ext x, h.ne, h.lo_, fun e he => (h.oks e he).ext x, h.low⟩
theorem RAt.mod {S : Nat → Prop} {w w' : World} {lo : Nat} {R : Nat → Prop} {g most : Nat} {L : List PE} {A : Option Addr} {c : Nat} (h : RAt w lo R g most L A c) (x : Bw.Mod S w w') (h1 : ¬ S g) (h2 : ∀ k, ownOf A k → ¬ S k) (h3 : ∀ k, S k → lo ≤ k) : RAt w' lo R g most L A c :=
  ⟨h.box.mod x h1, h.own.mod x fun a ha => h2 _ ⟨a, ha, rfl⟩, h.ne, h.lo_, fun e he => ⟨(h.oks e he).1.mod x fun k hk hs => by have := h.low k hk; have := h3 k hs; omega, (h.oks e he).2.mod x fun k hk hs => by have := h.low k hk; have := h3 k hs; omega⟩, h.low⟩
set_option maxRecDepth 20000 in
theorem find_runs {lo : Nat} {R : Nat → Prop} (g most : Nat) (L : List PE) (A : Option Addr) (c : Nat) (a b : T) (ca cb : List Value) (w : World) (h : RAt w lo R g most L A c) (hva : VT w R ca a) (hvb : VT w R cb b) (hsz : L.length ≤ 1000000) :
    Runs Tryd.prog 21 #[.pointer (some ⟨g, 0, none⟩), .agg ca.toArray, .agg cb.toArray] w fun v w' => v = .int .i64 (fI a b L 0) ∧ Ext w w' := by
  have hva0 := hva
  have hvb0 := hvb
  obtain ⟨k, n, s, ls, ts, la, lc, ta, tc, ea, rfl, -⟩ := hva.inv
  obtain ⟨k', n', s', ls', ts', la', lc', ta', tc', eb, rfl, -⟩ := hvb.inv
  have hh := Holds.one (g := g) (cs := [.v (.int .i64 most), .v (.slice A L.length c)]) h.box rfl
  refine Runs.of_vc (ρ := [g]) cx_ok [0, 1, 2, 4, 5, 6, 7, 8, 15, 46] [.p 0 0, .a [.v (.int .u8 k), .v (.int .i64 n), .v (.string s), .v (.slice la ls.length lc), .v (.slice ta ts.length tc)], .a [.v (.int .u8 k'), .v (.int .i64 n'), .v (.string s'), .v (.slice la' ls'.length lc'), .v (.slice ta' ts'.length tc')]] Tryd.func21 rfl rfl rfl hh ?_
  intro g1 w1 e1 x1 z1 hh1
  intro g2 w2 e2 x2 z2 hh2
  have y2 := x1.trans x2
  refine vLoop_mk (σ := Nat) (fun i => [(0, .p 0 0), (4, .p 1 0), (5, .p 2 0), (7, .v (.int .i64 i))]) (fun _ => [(0, [.v (.int .i64 most), .v (.slice A L.length c)]), (1, [.v (.int .u8 k), .v (.int .i64 n), .v (.string s), .v (.slice la ls.length lc), .v (.slice ta ts.length tc)]), (2, [.v (.int .u8 k'), .v (.int .i64 n'), .v (.string s'), .v (.slice la' ls'.length lc'), .v (.slice ta' ts'.length tc')])])
    (fun i w' => Ext w w' ∧ i ≤ L.length ∧ fI a b L 0 = fI a b (L.drop i) i) (fun i => L.length - i) 0 (fun _ => ⟨rfl, rfl⟩)
    ⟨⟨rfl, rfl, rfl, rfl, trivial⟩, ⟨rfl, rfl, rfl, trivial⟩, y2, Nat.zero_le _, rfl⟩ ?_
  rintro i w3 hh3 ⟨x3, hi, hf⟩
  refine And.intro (fun h => ?_) (fun h => ?_)
  · have hil : i < L.length := by have := of_decide_eq_true h; omega
    rename_i hR0
    clear h
    obtain ⟨a1, ha1, _, hrow⟩ := (hR0.own.ext x3).rd.at (peR_get hil)
    obtain ⟨o1, o2⟩ := (hR0.oks _ (List.getElem_mem hil)).ext x3
    refine OpT.indexAddr Tryd.underlying31 Tryd.sizeOf62 rfl rfl ha1 (by omega) ?_
    refine Lands.v hh3 ?_
    rw [fI_drop a b L i hil] at hf
    generalize L[i] = e at *
    obtain ⟨ca1, cb1, tA, tB⟩ := e
    simp only at o1 o2
    have o1' := o1
    have o2' := o2
    obtain ⟨k1, n1, s1, ls1, ts1, la1, lc1, ta1, tc1, ea1, rfl, -⟩ := o1.inv
    obtain ⟨k2, n2, s2, ls2, ts2, la2, lc2, ta2, tc2, eb1, rfl, -⟩ := o2.inv
    refine OpT.loadA (cs := [.int .u8 k1, .int .i64 n1, .string s1, .slice la1 ls1.length lc1, .slice ta1 ts1.length tc1, .int .u8 k2, .int .i64 n2, .string s2, .slice la2 ls2.length lc2, .slice ta2 ts2.length tc2]) Tryd.isAgg62 Tryd.sizeOf62 rfl hrow ?_
    refine Lands.ret (s := .a [.v (.int .u8 k1), .v (.int .i64 n1), .v (.string s1), .v (.slice la1 ls1.length lc1), .v (.slice ta1 ts1.length tc1), .v (.int .u8 k2), .v (.int .i64 n2), .v (.string s2), .v (.slice la2 ls2.length lc2), .v (.slice ta2 ts2.length tc2)]) rfl rfl hh3 ?_
    intro g4 w4 e4 x4 z4 hh4
    intro w5 m5 z5 hh5
    replace m5 : Upd g4 w4 w5 := m5
    have y5 : Ext w3 w5 := x4.upd m5 (by omega)
    have z0 := x3.size
    replace hf : fI a b L 0 = if same2 ⟨[], [], tA, tB⟩ a b = true then (i : Int) else fI a b (L.drop (i + 1)) (i + 1) := hf
    refine vcS (rSame_runs tA a _ _ w5 R R (o1'.ext y5) (hva0.ext (x3.trans y5))) hh5 fun w6 x6 hh6 => ?_
    have y6 := y5.trans x6
    refine Or.inl (Exists.intro (.bool (sameB tB b)) (And.intro (fun _ => rSame_runs tB b _ _ w6 R R (o2'.ext y6) (hvb0.ext (x3.trans y6))) (fun w7 x7 hh7 => ?_)))
    have y7 := y6.trans x7
    refine Or.inl (Exists.intro (.bool (sameB tA b)) (And.intro (fun _ => rSame_runs tA b _ _ w7 R R (o1'.ext y7) (hvb0.ext (x3.trans y7))) (fun w8 x8 hh8 => ?_)))
    have y8 := y7.trans x8
    refine Or.inl (Exists.intro (.bool (sameB tB a)) (And.intro (fun _ _ => rSame_runs tB a _ _ w8 R R (o2'.ext y8) (hva0.ext (x3.trans y8))) (fun w9 x9 hh9 => ?_)))
    have y9 := y8.trans x9
    refine And.intro (fun h => ?_) (fun h => ?_)
    · have e : same2 ⟨[], [], tA, tB⟩ a b = true := h
      rw [if_pos e] at hf
      exact ⟨congrArg (Value.int .i64) hf.symm, x3.trans y9⟩
    · have e : ¬ same2 ⟨[], [], tA, tB⟩ a b = true := fun e => by rw [show same2 ⟨[], [], tA, tB⟩ a b = false from h] at e; cases e
      rw [if_neg e] at hf
      refine vsd (by simp only [inKind]; omega) ?_
      exact Exists.intro (i + 1) ⟨by omega, ⟨rfl, rfl, rfl, rfl, trivial⟩, ⟨rfl, rfl, rfl, trivial⟩, x3.trans y9, hil, hf⟩
  · obtain rfl : i = L.length := by have := of_decide_eq_false h; omega
    rw [List.drop_length] at hf
    exact ⟨congrArg (Value.int .i64) hf.symm, x3⟩
set_option maxRecDepth 20000 in
theorem rHas_runs {lo : Nat} {R : Nat → Prop} (g most : Nat) (L : List PE) (A : Option Addr) (c : Nat) (a b : T) (ca cb : List Value) (w : World) (h : RAt w lo R g most L A c) (hva : VT w R ca a) (hvb : VT w R cb b) (hsz : L.length ≤ 1000000) :
    Runs Tryd.prog 11 #[.pointer (some ⟨g, 0, none⟩), .agg ca.toArray, .agg cb.toArray] w fun v w' => v = .bool (decide (0 ≤ fI a b L 0)) ∧ Ext w w' := by
  have hva0 := hva
  have hvb0 := hvb
  obtain ⟨k, n, s, ls, ts, la, lc, ta, tc, ea, rfl, -⟩ := hva.inv
  obtain ⟨k', n', s', ls', ts', la', lc', ta', tc', eb, rfl, -⟩ := hvb.inv
  refine Runs.of_vc (ρ := []) cx_ok [0, 1, 2, 4, 5, 6] [.v (.pointer (some ⟨g, 0, none⟩)), .a [.v (.int .u8 k), .v (.int .i64 n), .v (.string s), .v (.slice la ls.length lc), .v (.slice ta ts.length tc)], .a [.v (.int .u8 k'), .v (.int .i64 n'), .v (.string s'), .v (.slice la' ls'.length lc'), .v (.slice ta' ts'.length tc')]] Tryd.func11 rfl rfl rfl (Holds.nil w) ?_
  intro g1 w1 e1 x1 z1 hh1
  intro g2 w2 e2 x2 z2 hh2
  have y2 := x1.trans x2
  refine vcS (find_runs g most L A c a b _ _ w2 (h.ext y2) (hva0.ext y2) (hvb0.ext y2) hsz) hh2 fun w3 x3 hh3 => ?_
  exact ⟨rfl, y2.trans x3⟩
end Go.Proofs.YtmibjillclfogaaDoor

