/-
  Put.
-/
import Derived.Test.YtmibjillclfogaaDoorC7
namespace Go.Proofs.YtmibjillclfogaaDoor
open Go Go.RowKit Go.Proofs.Bw
set_option linter.unusedVariables false
set_option linter.unusedSimpArgs false

def putL (most : Nat) (p : SP) (l : List SP) : List SP := if most < ((if p ∈ l then flt p l else l) ++ [p]).length then ((if p ∈ l then flt p l else l) ++ [p]).drop 1 else (if p ∈ l then flt p l else l) ++ [p]
def Ch.put (q : Ch) (a b : T) : Ch := if mayT a = true ∧ mayT b = true then ⟨q.most, putL q.most (prT a b) q.l⟩ else q
theorem flt_mem (p : SP) (l : List SP) (x : SP) : x ∈ flt p l ↔ x ∈ l ∧ x ≠ p := by unfold flt; simp [List.mem_filter]
theorem flt_if (p : SP) (l : List SP) : (if p ∈ l then flt p l else l) = flt p l := by
  split
  · rfl
  · rename_i h; exact (flt_none p l h).symm
theorem flt_nodup {p : SP} {l : List SP} (h : l.Nodup) : (flt p l ++ [p]).Nodup := List.nodup_append.2 ⟨h.filter _, by simp, fun x hx y hy e => by
  rw [List.mem_singleton] at hy
  rw [e, hy, flt_mem] at hx
  exact hx.2 rfl⟩
theorem Ch.put_ok {q : Ch} (h : q.ok) (a b : T) : (q.put a b).ok := by
  unfold Ch.put
  split
  · obtain ⟨h1, h2, h3, h4⟩ := h
    have hn := flt_nodup (p := prT a b) h4
    have hl : (flt (prT a b) q.l).length ≤ q.l.length := List.length_filter_le _ _
    refine ⟨h1, h2, ?_, ?_⟩
    · simp only [putL, flt_if]
      split
      · rw [List.length_drop, List.length_append, List.length_cons, List.length_nil]; omega
      · omega
    · simp only [putL, flt_if]
      split
      · exact hn.sublist (List.drop_sublist _ _)
      · exact hn
  · exact h
theorem elP : ElOk Tryd.prog 55 2 32 := ⟨⟨Tryd.t55, Tryd.t55.zero.get rfl, by kernel_rfl, rfl, rfl, rfl, rfl⟩, by omega⟩
set_option maxRecDepth 20000 in
set_option maxHeartbeats 2000000 in
theorem Put_runs {B lo : Nat} (g : Nat) (q : Ch) (own : Nat → Prop) (a b : T) (ca cb : List Value) (w : World) (R : Nat → Prop) (h : ChAt w lo g q own) (hq : q.ok) (hva : VT w R ca a) (hvb : VT w R cb b) (hT : Tb B w) (hB : B ≤ w.heap.size) (hlo : lo ≤ w.heap.size) :
    Runs Tryd.prog 12 #[.pointer (some ⟨g, 0, none⟩), .agg ca.toArray, .agg cb.toArray] w fun v w' => v = .tuple #[] ∧ ∃ own', ChAt w' lo g (q.put a b) own' ∧ Bw.Mod own w w' ∧ ∀ k, own' k → own k ∨ w.heap.size ≤ k := by
  have h0 := h
  obtain ⟨A, c, m, ents, bx, o, hm, kt, hgm, hAg, hAm, hlg, hlm, hown⟩ := h
  obtain ⟨k, n, s, ls, ts, la, lc, ta, tc, ea, rfl, -⟩ := hva.inv
  obtain ⟨k', n', s', ls', ts', la', lc', ta', tc', eb, rfl, -⟩ := hvb.inv
  have hh := Holds.one (g := g) (cs := [.v (.int .i64 q.most), .v (.slice A q.l.length c), .v (.map (some m))]) bx rfl
  refine Runs.of_vc (ρ := [g]) cx_ok [0, 1, 2, 4, 5, 6, 7, 19, 25, 59] [.p 0 0, .a [.v (.int .u8 k), .v (.int .i64 n), .v (.string s), .v (.slice la ls.length lc), .v (.slice ta ts.length tc)], .a [.v (.int .u8 k'), .v (.int .i64 n'), .v (.string s'), .v (.slice la' ls'.length lc'), .v (.slice ta' ts'.length tc')]] Tryd.func12 rfl rfl rfl hh ?_
  intro g1 w1 e1 x1 z1 hh1
  intro g2 w2 e2 x2 z2 hh2
  have y2 := x1.trans x2
  refine vcS (of_runs a b _ _ w2 R (hva.ext y2) (hvb.ext y2) (hT.ext y2 hB) (by have := y2.size; omega)) hh2 fun w3 x3 hh3 => ?_
  intro g3 w4 e4 x4 z4 hh4
  intro w5 m5 z5 hh5
  replace m5 : Upd g3 w4 w5 := m5
  have y5 : Ext w w5 := ((y2.trans x3).trans x4).upd m5 (by have := (y2.trans x3).size; omega)
  refine And.intro (fun h => ?_) (fun h => ?_)
  · have hn : ¬ (mayT a = true ∧ mayT b = true) := by
      rintro ⟨h1, h2⟩; rw [h1, h2] at h; simp [sel] at h
    have eq : q.put a b = q := by unfold Ch.put; rw [if_neg hn]
    rw [eq]
    exact ⟨rfl, own, h0.ext y5, Mod.mono y5 fun _ h => h.elim, fun k hk => .inl hk⟩
  have hy : mayT a = true ∧ mayT b = true := by
    cases h1 : mayT a <;> cases h2 : mayT b <;> first | exact ⟨rfl, rfl⟩ | (rw [h1, h2] at h; simp [sel] at h)
  have eq : q.put a b = ⟨q.most, putL q.most (prT a b) q.l⟩ := by unfold Ch.put; rw [if_pos hy]
  rw [eq]
  clear h
  obtain ⟨hq1, hq2, hq3, hq4⟩ := hq
  have g1w : g < w.heap.size := bx.lt
  have m1w : m < w.heap.size := hm.lt
  have g3w : g1 = w.heap.size ∧ g2 = w1.heap.size ∧ w2.heap.size ≤ g3 ∧ w.heap.size ≤ w2.heap.size ∧ w1.heap.size = w.heap.size + 1 ∧ w2.heap.size = w1.heap.size + 1 := ⟨e1, e2, by have := x3.size; omega, y2.size, z1.1, z2.1⟩
  have hAw : ∀ k, ownOf A k → k < w.heap.size := fun k ⟨p, hp, hk⟩ => by rw [hk]; exact (o.block hp).2
  generalize hp : prT a b = p at *
  refine vDrw_mk [] [0, 1, 2, 3, 4, 5] rfl fun w6 x6 hh6 => ?_
  have y6 := y5.trans x6
  refine Exists.intro (.bool (decide (p ∈ q.l))) (And.intro (fun w' x hh => OpT.lookup (k := p) Tryd.underlying50 keyP Tryd.zeroValue4 rfl rfl (hm.ext (y6.trans x)) ⟨kt.get _, rfl⟩) ?_)
  refine And.intro (fun h => ?_) (fun h => ?_)
  · have hin : p ∈ q.l := of_decide_eq_true h
    refine (Del_runs A c q.l p g3 w6 (o.ext y6) (hh6.box 3 _ rfl) (fun h => by have := hAw _ h; omega) (by omega)).mono ?_
    rintro _ w7 ⟨A1, c1, rfl, hc1, fA1, o7, m7⟩
    revert o7
    generalize hl0 : flt p q.l = l1
    intro o7
    have hl := hl0.symm
    have hh7 := hh6.mod m7 (fun i hi h => by
      have h2 := hAw _ h
      match i, hi with
      | 0, _ => exact hAg h
      | 1, _ => have h3 : g1 < w.heap.size := h2; omega
      | 2, _ => have h3 : g2 < w.heap.size := h2; omega
      | 3, _ => have h3 : g3 < w.heap.size := h2; omega)
    refine Lands.v hh7 ?_
    intro wS mS zS hhS
    replace mS : Upd g w7 wS := mS
    have oS := o7.mod mS (fun a ha e => hAg (fA1 _ ⟨a, ha, e.symm⟩))
    have hmS : MapAt encK wS m ents := ((hm.ext y6).mod m7 hAm).mod mS (fun e => hgm e.symm)
    have mmS : Bw.Mod own w wS := ((Mod.mono y6 fun _ h => h.elim).trans (m7.mono fun k hk => (hown k).2 (.inr (.inr hk)))).trans (mS.mono fun k hk => (hown k).2 (.inl hk))
    have hlen : l1.length ≤ q.l.length := by rw [hl]; exact List.length_filter_le _ _
    have hl1 : ∀ x, x ∈ l1 ↔ x ∈ q.l ∧ x ≠ p := fun x => by rw [hl]; exact flt_mem p q.l x
    have el1 : (if p ∈ q.l then flt p q.l else q.l) = l1 := by rw [if_pos hin, hl]
    have hnd : (l1 ++ [p]).Nodup := by rw [hl]; exact flt_nodup hq4
    have own1 : ∀ k, ownOf A1 k → ownOf A k := fA1
    have hA1g : ¬ ownOf A1 g ∧ ¬ ownOf A1 m ∧ ∀ i, i < [g, g1, g2, g3].length → ¬ ownOf A1 (adr [g, g1, g2, g3] i) := ⟨fun h => hAg (own1 _ h), fun h => hAm (own1 _ h), fun i hi h => by
      have h1 := own1 _ h
      have h2 := hAw _ h1
      match i, hi with
      | 0, _ => exact hAg h1
      | 1, _ => have h3 : g1 < w.heap.size := h2; omega
      | 2, _ => have h3 : g2 < w.heap.size := h2; omega
      | 3, _ => have h3 : g3 < w.heap.size := h2; omega⟩
    have hnm : ∀ i, i < [g, g1, g2, g3].length → ¬ (adr [g, g1, g2, g3] i = m) := fun i hi h => by
      match i, hi with
      | 0, _ => exact hgm h
      | 1, _ => have h3 : g1 = m := h; omega
      | 2, _ => have h3 : g2 = m := h; omega
      | 3, _ => have h3 : g3 = m := h; omega
    refine vDrw_mk [5] [0, 1, 2, 3, 4, 5] rfl fun w8 x8 hh8 => ?_
    refine OpT.mapUpdate (v := .bool true) (k := p) Tryd.underlying50 keyP rfl rfl rfl (hmS.ext x8) fun w9 m9 hm9 => ?_
    have hh9 := hh8.mod m9 hnm
    refine Lands.v hh9 ?_
    have o9 := (oS.ext x8).mod m9 (fun a ha e => hA1g.2.1 ⟨a, ha, e.symm⟩)
    have mm9 : Bw.Mod own w w9 := (mmS.trans (Mod.mono x8 fun _ h => h.elim)).trans (m9.mono fun k hk => (hown k).2 (.inr (.inl hk)))
    refine vDrwS_mk (ownOf A1) [6, 7, 10] [0, 1, 2, 3, 4, 5, 6, 7, 8, 9, 10] rfl fun w10 x10 hh10 => ?_
    refine Exists.intro (.slice A1 l1.length c1) (And.intro (fun w' x hh => OpT.loadB (b := g) (i := 1) Tryd.isAgg51 rfl ((hh10.box 0 _ rfl).mod x hA1g.1) rfl ⟨rfl, rfl⟩) ?_)
    refine Exists.intro (.agg #[encStr p.1, encStr p.2]) (And.intro (fun w' x hh => OpT.loadAB (b := g3) (vs := [encStr p.1, encStr p.2]) Tryd.isAgg55 Tryd.sizeOf55 rfl ((hh10.box 3 _ rfl).mod x (hA1g.2.2 3 (by show 3 < 4; omega))) rfl ⟨rfl, rfl⟩) ?_)
    refine OpT.buildSlice (cs := #[encStr p.1, encStr p.2]) (.cons rfl .nil) Tryd.underlying51 Tryd.sizeOf55 Tryd.zeroValue55 rfl (by kernel_rfl) fun w11 g11 e11 x11 z11 b11 => ?_
    refine Lands.v (hh10.ext x11) ?_
    refine And.intro (Mod.mono x11 fun _ h => h.elim) ?_
    have o11 := (o9.ext x10).ext x11
    have ll1 : l1.length ≤ 4096 := by omega
    refine OpT.appendO1 elP Tryd.underlying51 rfl rfl o11 b11 (by rw [pR_length]) rfl rfl (css' := pR (l1 ++ [p])) (by simp [pR, prC]) (n' := (l1 ++ [p]).length) (pR_length _) (by rw [pR_length, List.length_append, List.length_cons, List.length_nil]; omega) (by have := mm9.size; have := x10.size; have := x11.size; omega) fun w12 A2 c2 m12 o12 f12 => ?_
    have hh12 := (hh10.ext x11).mod m12 hA1g.2.2
    refine Lands.v hh12 ?_
    refine And.intro m12 ?_
    intro w13 m13 z13 hh13
    replace m13 : Upd g w12 w13 := m13
    have s12 : w.heap.size ≤ w11.heap.size := by have := mm9.size; have := x10.size; have := x11.size; omega
    have fA2 : ∀ k, ownOf A2 k → ownOf A k ∨ w.heap.size ≤ k := fun k hk => (f12 k hk).imp (own1 k) (fun h => by omega)
    have hA2g : ¬ ownOf A2 g ∧ ¬ ownOf A2 m := ⟨fun h => by rcases fA2 _ h with h | h; exact hAg h; omega, fun h => by rcases fA2 _ h with h | h; exact hAm h; omega⟩
    have o13 := o12.mod m13 (fun a ha e => hA2g.1 ⟨a, ha, e.symm⟩)
    have hm13 : MapAt encK w13 m (mput p (.bool true) ents) := ((((hm9.ext x10).ext x11).mod m12 hA1g.2.1).mod m13 (fun e => hgm e.symm))
    have mm13 : Bw.Mod own w w13 := (((mm9.trans (Mod.mono (x10.trans x11) fun _ h => h.elim)).trans (m12.mono fun k hk => (hown k).2 (.inr (.inr (own1 k hk))))).trans (m13.mono fun k hk => (hown k).2 (.inl hk)))
    have kt13 : Kt (mput p (.bool true) ents) (l1 ++ [p]) := kt.put p fun x => by
      have e : x ∈ l1 ++ [p] ↔ x ∈ l1 ∨ x = p := by simp
      refine e.trans ⟨fun h => ?_, fun h => ?_⟩
      · rcases h with h1 | h1
        · exact .inl ((hl1 x).1 h1).1
        · exact .inr h1
      · rcases h with h1 | h1
        · by_cases hx : x = p
          · exact .inr hx
          · exact .inl ((hl1 x).2 ⟨h1, hx⟩)
        · exact .inr h1
    refine vDrw_mk [] [0, 1, 2, 3, 4, 5, 6, 7, 8, 9] rfl fun w14 x14 hh14 => ?_
    have eL : putL q.most p q.l = if q.most < (l1 ++ [p]).length then (l1 ++ [p]).drop 1 else l1 ++ [p] := by unfold putL; rw [el1]
    refine And.intro (fun h5 => ?_) (fun h5 => ?_)
    · have h5' : q.most < (l1 ++ [p]).length := by have := of_decide_eq_true h5; omega
      rw [eL, if_pos h5']
      refine vDrw_mk [10] [0, 1, 2, 3, 4, 5, 6, 7, 8, 9, 10] rfl fun w15 x15 hh15 => ?_
      have o15 := (o13.ext x14).ext x15
      have hpos : 0 < (l1 ++ [p]).length := by omega
      obtain ⟨a1, ha1, _, hrow⟩ := o15.rd.at (pR_get hpos)
      refine Exists.intro (.pointer (some (a1.add (0 * 2)))) (And.intro (fun w' x hh => OpT.indexAddr Tryd.underlying51 Tryd.sizeOf55 rfl rfl ha1 (by omega) ⟨rfl, rfl⟩) ?_)
      refine Exists.intro (.agg (prC (l1 ++ [p])[0]).toArray) (And.intro (fun w' x hh => OpT.loadA (cs := prC (l1 ++ [p])[0]) Tryd.isAgg55 Tryd.sizeOf55 rfl (hrow.ext x) ⟨rfl, rfl⟩) ?_)
      refine OpT.mapDelete (k := (l1 ++ [p])[0]) Tryd.underlying50 keyP rfl rfl ((hm13.ext x14).ext x15) fun w16 m16 hm16 => ?_
      have hh16 := hh15.mod m16 hnm
      refine Lands.v hh16 ?_
      have o16 := o15.mod m16 (fun a ha e => hA2g.2 ⟨a, ha, e.symm⟩)
      refine OpT.sliceO (i := 1) (j := ((l1 ++ [p]).length : Int)) (m := ((l1 ++ [p]).drop 1).length) Tryd.underlying51 Tryd.sizeOf55 rfl rfl rfl o16 (by rw [pR_length]; omega) (by have := o16.le.1; rw [pR_length] at this; omega) (by rw [List.length_drop]; omega) fun A3 hA3 o17 => ?_
      refine Lands.v hh16 ?_
      intro w18 m18 z18 hh18
      replace m18 : Upd g w16 w18 := m18
      rw [pR_drop] at o17
      have o18 := o17.mod m18 (fun a ha e => hA2g.1 (hA3 _ ⟨a, ha, e.symm⟩))
      have hm18 := hm16.mod m18 (fun e => hgm e.symm)
      have mm18 : Bw.Mod own w w18 := ((mm13.trans (Mod.mono (x14.trans x15) fun _ h => h.elim)).trans (m16.mono fun k hk => (hown k).2 (.inr (.inl hk)))).trans (m18.mono fun k hk => (hown k).2 (.inl hk))
      have hd : (l1 ++ [p]).drop 0 = (l1 ++ [p])[0] :: (l1 ++ [p]).drop 1 := List.drop_eq_getElem_cons hpos
      rw [List.drop_zero] at hd
      have kt18 : Kt (mdel (l1 ++ [p])[0] (mput p (.bool true) ents)) ((l1 ++ [p]).drop 1) := kt13.del _ fun x => by
        have hn2 := hnd
        rw [hd, List.nodup_cons] at hn2
        constructor
        · intro hx
          exact ⟨List.mem_of_mem_drop hx, fun e => hn2.1 (by rw [← e]; exact hx)⟩
        · rintro ⟨hx, hne⟩
          rw [hd] at hx
          rcases List.mem_cons.1 hx with h1 | h1
          · exact absurd h1 hne
          · exact h1
      refine ⟨rfl, fun k => k = g ∨ k = m ∨ ownOf A3 k, ⟨A3, _, m, _, hh18.box 0 _ rfl, o18, hm18, kt18, hgm, fun h => hA2g.1 (hA3 _ h), fun h => hA2g.2 (hA3 _ h), hlg, hlm, fun k => Iff.rfl⟩, mm18, fun k hk => ?_⟩
      rcases hk with h1 | h1 | h1
      · exact .inl ((hown k).2 (.inl h1))
      · exact .inl ((hown k).2 (.inr (.inl h1)))
      · exact (fA2 _ (hA3 _ h1)).imp (fun h => (hown k).2 (.inr (.inr h))) id
    · have h5' : ¬ q.most < (l1 ++ [p]).length := by have := of_decide_eq_false h5; omega
      rw [eL, if_neg h5']
      refine ⟨rfl, fun k => k = g ∨ k = m ∨ ownOf A2 k, ⟨A2, c2, m, _, hh14.box 0 _ rfl, o13.ext x14, hm13.ext x14, kt13, hgm, hA2g.1, hA2g.2, hlg, hlm, fun k => Iff.rfl⟩, mm13.trans (Mod.mono x14 fun _ h => h.elim), fun k hk => ?_⟩
      rcases hk with h1 | h1 | h1
      · exact .inl ((hown k).2 (.inl h1))
      · exact .inl ((hown k).2 (.inr (.inl h1)))
      · exact (fA2 _ h1).imp (fun h => (hown k).2 (.inr (.inr h))) id
  · have hin : p ∉ q.l := of_decide_eq_false h
    have fA1 : ∀ k, ownOf A k → ownOf A k := fun k h => h
    have oS : OwnO w6 lo 55 2 A c (pR q.l) := o.ext y6
    have hmS : MapAt encK w6 m ents := hm.ext y6
    have mmS : Bw.Mod own w w6 := Mod.mono y6 fun _ h => h.elim
    have hlen : q.l.length ≤ q.l.length := Nat.le_refl _
    have hl1 : ∀ x, x ∈ q.l ↔ x ∈ q.l ∧ x ≠ p := fun x => ⟨fun h => ⟨h, fun e => hin (by rw [← e]; exact h)⟩, fun h => h.1⟩
    have el1 : (if p ∈ q.l then flt p q.l else q.l) = q.l := by rw [if_neg hin]
    have hnd : (q.l ++ [p]).Nodup := by
      have := flt_nodup (p := p) hq4
      rwa [flt_none p q.l hin] at this
    clear h
    have own1 : ∀ k, ownOf A k → ownOf A k := fA1
    have hA1g : ¬ ownOf A g ∧ ¬ ownOf A m ∧ ∀ i, i < [g, g1, g2, g3].length → ¬ ownOf A (adr [g, g1, g2, g3] i) := ⟨fun h => hAg (own1 _ h), fun h => hAm (own1 _ h), fun i hi h => by
      have h1 := own1 _ h
      have h2 := hAw _ h1
      match i, hi with
      | 0, _ => exact hAg h1
      | 1, _ => have h3 : g1 < w.heap.size := h2; omega
      | 2, _ => have h3 : g2 < w.heap.size := h2; omega
      | 3, _ => have h3 : g3 < w.heap.size := h2; omega⟩
    have hnm : ∀ i, i < [g, g1, g2, g3].length → ¬ (adr [g, g1, g2, g3] i = m) := fun i hi h => by
      match i, hi with
      | 0, _ => exact hgm h
      | 1, _ => have h3 : g1 = m := h; omega
      | 2, _ => have h3 : g2 = m := h; omega
      | 3, _ => have h3 : g3 = m := h; omega
    refine vDrw_mk [5] [0, 1, 2, 3, 4, 5] rfl fun w8 x8 hh8 => ?_
    refine OpT.mapUpdate (v := .bool true) (k := p) Tryd.underlying50 keyP rfl rfl rfl (hmS.ext x8) fun w9 m9 hm9 => ?_
    have hh9 := hh8.mod m9 hnm
    refine Lands.v hh9 ?_
    have o9 := (oS.ext x8).mod m9 (fun a ha e => hA1g.2.1 ⟨a, ha, e.symm⟩)
    have mm9 : Bw.Mod own w w9 := (mmS.trans (Mod.mono x8 fun _ h => h.elim)).trans (m9.mono fun k hk => (hown k).2 (.inr (.inl hk)))
    refine vDrwS_mk (ownOf A) [6, 7, 10] [0, 1, 2, 3, 4, 5, 6, 7, 8, 9, 10] rfl fun w10 x10 hh10 => ?_
    refine Exists.intro (.slice A q.l.length c) (And.intro (fun w' x hh => OpT.loadB (b := g) (i := 1) Tryd.isAgg51 rfl ((hh10.box 0 _ rfl).mod x hA1g.1) rfl ⟨rfl, rfl⟩) ?_)
    refine Exists.intro (.agg #[encStr p.1, encStr p.2]) (And.intro (fun w' x hh => OpT.loadAB (b := g3) (vs := [encStr p.1, encStr p.2]) Tryd.isAgg55 Tryd.sizeOf55 rfl ((hh10.box 3 _ rfl).mod x (hA1g.2.2 3 (by show 3 < 4; omega))) rfl ⟨rfl, rfl⟩) ?_)
    refine OpT.buildSlice (cs := #[encStr p.1, encStr p.2]) (.cons rfl .nil) Tryd.underlying51 Tryd.sizeOf55 Tryd.zeroValue55 rfl (by kernel_rfl) fun w11 g11 e11 x11 z11 b11 => ?_
    refine Lands.v (hh10.ext x11) ?_
    refine And.intro (Mod.mono x11 fun _ h => h.elim) ?_
    have o11 := (o9.ext x10).ext x11
    have ll1 : q.l.length ≤ 4096 := by omega
    refine OpT.appendO1 elP Tryd.underlying51 rfl rfl o11 b11 (by rw [pR_length]) rfl rfl (css' := pR (q.l ++ [p])) (by simp [pR, prC]) (n' := (q.l ++ [p]).length) (pR_length _) (by rw [pR_length, List.length_append, List.length_cons, List.length_nil]; omega) (by have := mm9.size; have := x10.size; have := x11.size; omega) fun w12 A2 c2 m12 o12 f12 => ?_
    have hh12 := (hh10.ext x11).mod m12 hA1g.2.2
    refine Lands.v hh12 ?_
    refine And.intro m12 ?_
    intro w13 m13 z13 hh13
    replace m13 : Upd g w12 w13 := m13
    have s12 : w.heap.size ≤ w11.heap.size := by have := mm9.size; have := x10.size; have := x11.size; omega
    have fA2 : ∀ k, ownOf A2 k → ownOf A k ∨ w.heap.size ≤ k := fun k hk => (f12 k hk).imp (own1 k) (fun h => by omega)
    have hA2g : ¬ ownOf A2 g ∧ ¬ ownOf A2 m := ⟨fun h => by rcases fA2 _ h with h | h; exact hAg h; omega, fun h => by rcases fA2 _ h with h | h; exact hAm h; omega⟩
    have o13 := o12.mod m13 (fun a ha e => hA2g.1 ⟨a, ha, e.symm⟩)
    have hm13 : MapAt encK w13 m (mput p (.bool true) ents) := ((((hm9.ext x10).ext x11).mod m12 hA1g.2.1).mod m13 (fun e => hgm e.symm))
    have mm13 : Bw.Mod own w w13 := (((mm9.trans (Mod.mono (x10.trans x11) fun _ h => h.elim)).trans (m12.mono fun k hk => (hown k).2 (.inr (.inr (own1 k hk))))).trans (m13.mono fun k hk => (hown k).2 (.inl hk)))
    have kt13 : Kt (mput p (.bool true) ents) (q.l ++ [p]) := kt.put p fun x => by
      have e : x ∈ q.l ++ [p] ↔ x ∈ q.l ∨ x = p := by simp
      refine e.trans ⟨fun h => ?_, fun h => ?_⟩
      · rcases h with h1 | h1
        · exact .inl ((hl1 x).1 h1).1
        · exact .inr h1
      · rcases h with h1 | h1
        · by_cases hx : x = p
          · exact .inr hx
          · exact .inl ((hl1 x).2 ⟨h1, hx⟩)
        · exact .inr h1
    refine vDrw_mk [] [0, 1, 2, 3, 4, 5, 6, 7, 8, 9] rfl fun w14 x14 hh14 => ?_
    have eL : putL q.most p q.l = if q.most < (q.l ++ [p]).length then (q.l ++ [p]).drop 1 else q.l ++ [p] := by unfold putL; rw [el1]
    refine And.intro (fun h5 => ?_) (fun h5 => ?_)
    · have h5' : q.most < (q.l ++ [p]).length := by have := of_decide_eq_true h5; omega
      rw [eL, if_pos h5']
      refine vDrw_mk [10] [0, 1, 2, 3, 4, 5, 6, 7, 8, 9, 10] rfl fun w15 x15 hh15 => ?_
      have o15 := (o13.ext x14).ext x15
      have hpos : 0 < (q.l ++ [p]).length := by omega
      obtain ⟨a1, ha1, _, hrow⟩ := o15.rd.at (pR_get hpos)
      refine Exists.intro (.pointer (some (a1.add (0 * 2)))) (And.intro (fun w' x hh => OpT.indexAddr Tryd.underlying51 Tryd.sizeOf55 rfl rfl ha1 (by omega) ⟨rfl, rfl⟩) ?_)
      refine Exists.intro (.agg (prC (q.l ++ [p])[0]).toArray) (And.intro (fun w' x hh => OpT.loadA (cs := prC (q.l ++ [p])[0]) Tryd.isAgg55 Tryd.sizeOf55 rfl (hrow.ext x) ⟨rfl, rfl⟩) ?_)
      refine OpT.mapDelete (k := (q.l ++ [p])[0]) Tryd.underlying50 keyP rfl rfl ((hm13.ext x14).ext x15) fun w16 m16 hm16 => ?_
      have hh16 := hh15.mod m16 hnm
      refine Lands.v hh16 ?_
      have o16 := o15.mod m16 (fun a ha e => hA2g.2 ⟨a, ha, e.symm⟩)
      refine OpT.sliceO (i := 1) (j := ((q.l ++ [p]).length : Int)) (m := ((q.l ++ [p]).drop 1).length) Tryd.underlying51 Tryd.sizeOf55 rfl rfl rfl o16 (by rw [pR_length]; omega) (by have := o16.le.1; rw [pR_length] at this; omega) (by rw [List.length_drop]; omega) fun A3 hA3 o17 => ?_
      refine Lands.v hh16 ?_
      intro w18 m18 z18 hh18
      replace m18 : Upd g w16 w18 := m18
      rw [pR_drop] at o17
      have o18 := o17.mod m18 (fun a ha e => hA2g.1 (hA3 _ ⟨a, ha, e.symm⟩))
      have hm18 := hm16.mod m18 (fun e => hgm e.symm)
      have mm18 : Bw.Mod own w w18 := ((mm13.trans (Mod.mono (x14.trans x15) fun _ h => h.elim)).trans (m16.mono fun k hk => (hown k).2 (.inr (.inl hk)))).trans (m18.mono fun k hk => (hown k).2 (.inl hk))
      have hd : (q.l ++ [p]).drop 0 = (q.l ++ [p])[0] :: (q.l ++ [p]).drop 1 := List.drop_eq_getElem_cons hpos
      rw [List.drop_zero] at hd
      have kt18 : Kt (mdel (q.l ++ [p])[0] (mput p (.bool true) ents)) ((q.l ++ [p]).drop 1) := kt13.del _ fun x => by
        have hn2 := hnd
        rw [hd, List.nodup_cons] at hn2
        constructor
        · intro hx
          exact ⟨List.mem_of_mem_drop hx, fun e => hn2.1 (by rw [← e]; exact hx)⟩
        · rintro ⟨hx, hne⟩
          rw [hd] at hx
          rcases List.mem_cons.1 hx with h1 | h1
          · exact absurd h1 hne
          · exact h1
      refine ⟨rfl, fun k => k = g ∨ k = m ∨ ownOf A3 k, ⟨A3, _, m, _, hh18.box 0 _ rfl, o18, hm18, kt18, hgm, fun h => hA2g.1 (hA3 _ h), fun h => hA2g.2 (hA3 _ h), hlg, hlm, fun k => Iff.rfl⟩, mm18, fun k hk => ?_⟩
      rcases hk with h1 | h1 | h1
      · exact .inl ((hown k).2 (.inl h1))
      · exact .inl ((hown k).2 (.inr (.inl h1)))
      · exact (fA2 _ (hA3 _ h1)).imp (fun h => (hown k).2 (.inr (.inr h))) id
    · have h5' : ¬ q.most < (q.l ++ [p]).length := by have := of_decide_eq_false h5; omega
      rw [eL, if_neg h5']
      refine ⟨rfl, fun k => k = g ∨ k = m ∨ ownOf A2 k, ⟨A2, c2, m, _, hh14.box 0 _ rfl, o13.ext x14, hm13.ext x14, kt13, hgm, hA2g.1, hA2g.2, hlg, hlm, fun k => Iff.rfl⟩, mm13.trans (Mod.mono x14 fun _ h => h.elim), fun k hk => ?_⟩
      rcases hk with h1 | h1 | h1
      · exact .inl ((hown k).2 (.inl h1))
      · exact .inl ((hown k).2 (.inr (.inl h1)))
      · exact (fA2 _ h1).imp (fun h => (hown k).2 (.inr (.inr h))) id
end Go.Proofs.YtmibjillclfogaaDoor

