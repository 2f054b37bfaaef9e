/-
  The pair of two terms' texts.
-/
import Derived.Test.YtmibjillclfogaaDoorC2
import Derived.Sort.OwnSorted
namespace Go.Proofs.YtmibjillclfogaaDoor
open Go Go.RowKit Go.Proofs.Bw
set_option linter.unusedVariables false
set_option linter.unusedSimpArgs false

theorem OpT.sliceArrAll {P : Program} {e : Env} {w : World} {K : Value → World → Prop} {d : Option Tmp} {t : TypeId} {pos : String} {af : Array Edge} {g : Option (Nat × Bool)} {x : Operand} {at_ el : TypeId} {n sz b : Nat} (hs : P.underlying at_ = some (.array (n + 1) el)) (hz : SizeIs P el sz)
    (hx : evalO e x = some (.pointer (some ⟨b, 0, none⟩))) (h : K (.slice (some ⟨b, 0, none⟩) (n + 1) (n + 1)) w) : Bw.OpT P e w ⟨d, .slice at_ x none none none, t, pos, af, g⟩ K := by
  refine Bw.OpT.value (fun ρ hρ => ?_) h
  simp [execOp, hρ x _ hx, Instr.sliceAt, run_underlying hs, Instr.sureAddr, Instr.sliceBounds, hz w, Addr.add_lit]
def srt (l : List (List UInt8)) : List (List UInt8) := l.mergeSort fun x y => decide (x ≤ y)
abbrev SP := List UInt8 × List UInt8
def prP (x y : List UInt8) : SP := if x ≤ y then (x, y) else (y, x)
theorem srt_two (x y : List UInt8) : srt [x, y] = [(prP x y).1, (prP x y).2] := by
  have hs := List.pairwise_mergeSort (le := fun x y : List UInt8 => decide (x ≤ y)) (fun a b c h1 h2 => by simp only [decide_eq_true_eq] at *; exact List.le_trans h1 h2) (fun a b => by simp only [Bool.or_eq_true, decide_eq_true_eq]; exact List.le_total a b) [x, y]
  have hp : (srt [x, y]).Perm [x, y] := List.mergeSort_perm _ _
  have hl : (srt [x, y]).length = 2 := List.length_mergeSort _
  unfold prP
  change List.Pairwise _ (srt [x, y]) at hs
  match h : srt [x, y], hl with
  | [p, q], _ =>
    rw [h] at hp hs
    have hpq : p ≤ q := of_decide_eq_true ((List.pairwise_cons.1 hs).1 q (by simp))
    have hm : p = x ∨ p = y := by simpa using hp.mem_iff.1 (List.mem_cons_self (a := p) (l := [q]))
    rcases hm with rfl | rfl
    · have hq : q = y := by have := (List.perm_cons p).1 hp; simpa using this
      subst hq
      rw [if_pos hpq]
    · have hp2 : [p, q].Perm [p, x] := hp.trans (List.Perm.swap _ _ _)
      have hq : q = x := by have := (List.perm_cons p).1 hp2; simpa using this
      subst hq
      by_cases h1 : q ≤ p
      · have e := List.le_antisymm h1 hpq
        subst e
        rw [if_pos h1]
      · rw [if_neg h1]
theorem SortBox_runs (g : Nat) (x y : List UInt8) (w : World) (b : Box w g [encStr x, encStr y]) :
    Runs Tryd.prog 28 #[.slice (some ⟨g, 0, none⟩) 2 2] w fun v w' => v = .tuple #[] ∧ Upd g w w' ∧ Box w' g [encStr (prP x y).1, encStr (prP x y).2] := by
  obtain ⟨t, hg⟩ := b
  refine Calls.mono (Tryd.slices_Sort_string g 0 2 [x, y] w (Go.holds_of_block hg (by simp)) (Array.getElem?_eq_some_iff.1 hg).1 (by simp)) ?_
  rintro e w' ⟨rfl, n, os, rfl⟩
  refine ⟨_, rfl, rfl, (Mod.of_grown (Go.grownBy_sorted _)).mono (fun k hk => by injection hk), t, ?_⟩
  have h1 := Go.heap_sorted (n := n) (os := os) (srt [x, y]).toArray hg
  refine h1.trans ?_
  rw [srt_two]
  rfl
theorem strOf_enc (l : List UInt8) : Value.string (strOf l) = encStr l := rfl
theorem text0_runs {B : Nat} (t : T) (cs : List Value) (w : World) (R : Nat → Prop) (hv : VT w R cs t) (hR : ∀ k, R k → k < w.heap.size) (hT : Tb B w) (hB : B ≤ w.heap.size) (hno : nodes t = true) (hsz : size t ≤ 100000) :
    Runs Tryd.prog 27 #[.slice none 0 0, .agg cs.toArray] w fun v w' => Ext w w' ∧ ∃ A c, v = .slice A (encT t).length c ∧ OwnR w' w.heap.size 5 1 A c (bR (encT t)) := by
  refine (text_runs hB t cs none 0 [] w R hv hR (Nat.le_refl _) hT (OwnR.nil _ _ _ _) hno (by simp only [List.length_nil]; omega)).mono ?_
  rintro v w' ⟨d, A, c, rfl, rfl, o, m⟩
  exact ⟨⟨m.os, m.tape, m.output, m.size, fun k hk _ => m.block k hk fun h => by have := h.1; omega⟩, A, c, rfl, o⟩
/-- the pair of two terms -/
def prT (a b : T) : SP := if mayT a = true ∧ mayT b = true then prP (encT a) (encT b) else ([], [])
def prC (p : SP) : List Value := [encStr p.1, encStr p.2]
set_option maxRecDepth 20000 in
theorem of_runs {B : Nat} (a b : T) (ca cb : List Value) (w : World) (R : Nat → Prop) (hva : VT w R ca a) (hvb : VT w R cb b) (hT : Tb B w) (hB : B ≤ w.heap.size) :
    Runs Tryd.prog 20 #[.agg ca.toArray, .agg cb.toArray] w fun v w' => v = .tuple #[.agg (prC (prT a b)).toArray, .bool (mayT a && mayT b)] ∧ Ext w w' := by
  have hsa := hva.small
  have hsb := hvb.small
  obtain ⟨k, n, s, ls, ts, la, lc, ta, tc, ea, rfl, -⟩ := hva.inv
  obtain ⟨k', n', s', ls', ts', la', lc', ta', tc', eb, rfl, -⟩ := hvb.inv
  refine Runs.of_vc (ρ := []) cx_ok [0, 1, 2, 3, 4, 5, 13] [.a [.v (.int .u8 k), .v (.int .i64 n), .v (.string s), .v (.slice la ls.length lc), .v (.slice ta ts.length tc)], .a [.v (.int .u8 k'), .v (.int .i64 n'), .v (.string s'), .v (.slice la' ls'.length lc'), .v (.slice ta' ts'.length tc')]] Tryd.func20 rfl rfl rfl (Holds.nil w) ?_
  intro g1 w1 e1 x1 z1 hh1
  intro g2 w2 e2 x2 z2 hh2
  intro g3 w3 e3 x3 z3 hh3
  have y3 := (x1.trans x2).trans x3
  refine vcS (may_runs a _ w3 R (hva.ext y3)) hh3 fun w4 x4 hh4 => ?_
  refine Or.inl (Exists.intro (.bool (mayT b)) (And.intro (fun _ => may_runs b _ w4 R (hvb.ext (y3.trans x4))) (fun w5 x5 hh5 => ?_)))
  have y5 := y3.trans (x4.trans x5)
  refine And.intro (fun h => ?_) (fun h => ?_)
  · have hm : (mayT a && mayT b) = false := by
      cases h1 : mayT a <;> cases h2 : mayT b <;> first | rfl | (rw [h1, h2] at h; simp [sel] at h)
    have hp : prT a b = ([], []) := by
      unfold prT
      rw [if_neg]
      rintro ⟨h1, h2⟩
      rw [h1, h2] at hm; cases hm
    intro w6 m6 z6 hh6
    replace m6 : Upd g3 w5 w6 := m6
    rw [hm, hp]
    exact ⟨rfl, y5.upd m6 (by have := (x1.trans x2).size; omega)⟩
  · have hm : mayT a = true ∧ mayT b = true := by
      cases h1 : mayT a <;> cases h2 : mayT b <;> first | exact ⟨rfl, rfl⟩ | (rw [h1, h2] at h; simp [sel] at h)
    have hp : prT a b = prP (encT a) (encT b) := by unfold prT; rw [if_pos hm]
    rw [hm.1, hm.2, hp]
    have sa := may_size hm.1
    have sb := may_size hm.2
    refine vDrw_mk [1, 4, 7] [0, 3, 1, 2, 4, 5, 6, 7] rfl fun w6 x6 hh6 => ?_
    have y6 := y5.trans x6
    have b6 : B ≤ w6.heap.size := by have := y6.size; omega
    have sm : ∀ {t : T} {c : List Value} {w0 : World}, VT w (fun k => R k ∧ k < w.heap.size) c t → Ext w w0 → VT w0 (fun k => R k ∧ k < w.heap.size) c t := fun h hx => h.ext hx
    refine vcE (text0_runs a _ w6 _ (sm hsa y6) (fun k hk => by have := hk.2; have := y6.size; omega) (hT.ext y6 hB) b6 (may_nodes hm.1) (by omega)) hh6 ?_
    rintro _ w7 x7 hh7 ⟨A7, c7, rfl, o7⟩
    refine And.intro x7 ?_
    refine Exists.intro (encStr (encT a)) (And.intro (fun w' x hh => OpT.bytesStr Tryd.underlying64 Tryd.underlying5 Tryd.underlying9 rfl (o7.ext x).rd rfl ⟨by rw [strOf_enc], rfl⟩) ?_)
    have y7 := y6.trans x7
    refine vcE (text0_runs b _ w7 _ (sm hsb y7) (fun k hk => by have := hk.2; have := y7.size; omega) (hT.ext y7 hB) (by have := y7.size; omega) (may_nodes hm.2) (by omega)) hh7 ?_
    rintro _ w8 x8 hh8 ⟨A8, c8, rfl, o8⟩
    refine And.intro x8 ?_
    refine Exists.intro (encStr (encT b)) (And.intro (fun w' x hh => OpT.bytesStr Tryd.underlying64 Tryd.underlying5 Tryd.underlying9 rfl (o8.ext x).rd rfl ⟨by rw [strOf_enc], rfl⟩) ?_)
    have y8 := y7.trans x8
    refine Exists.intro (.agg #[encStr (encT a), encStr (encT b)]) (And.intro (fun w' x hh => OpT.buildArr (zc := #[.string ⟨#[]⟩, .string ⟨#[]⟩]) (.cons rfl (.cons rfl .nil)) Tryd.zeroValue55 Tryd.underlying55 Tryd.sizeOf9 rfl ⟨rfl, rfl⟩) ?_)
    intro w9 m9 z9 hh9
    replace m9 : Upd g3 w8 w9 := m9
    have y9 : Ext w w9 := y8.upd m9 (by have := (x1.trans x2).size; omega)
    refine OpT.sliceArrAll (n := 1) Tryd.underlying55 Tryd.sizeOf9 rfl ?_
    refine Lands.v hh9 ?_
    refine (SortBox_runs g3 (encT a) (encT b) w9 (hh9.box 2 _ rfl)).mono ?_
    rintro _ w10 ⟨rfl, m10, b10⟩
    refine Lands.to (H' := [(2, [.v (encStr (prP (encT a) (encT b)).1), .v (encStr (prP (encT a) (encT b)).2)])]) (s := .v _) rfl rfl hh9 m10.size ⟨b10, trivial⟩ rfl fun hh10 => ?_
    intro w11 m11 z11 hh11
    replace m11 : Upd g3 w10 w11 := m11
    have hg3 : w.heap.size ≤ g3 := by have := (x1.trans x2).size; omega
    exact ⟨rfl, (y9.upd m10 hg3).upd m11 hg3⟩
end Go.Proofs.YtmibjillclfogaaDoor

