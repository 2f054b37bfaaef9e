/-
  What functions of the program compute, step by step (printed by a program of this work), part 3.
-/
import Derived.Test.YtmmhamabkiffaaaFns2
namespace Go.Proofs.Ytmmhamabkiffaaa
open Go Go.RowKit Go.Proofs.Bw
set_option linter.unusedVariables false
set_option linter.unusedSimpArgs false

set_option maxHeartbeats 1000000 in
set_option maxRecDepth 20000 in
theorem rApply_runs (f : T) (ts : List T) (cf : List Value) (ta : Option Addr) (tc : Nat) (w0 : World) (R : Nat → Prop) (hR : ∀ k, w0.heap.size ≤ k → R k) (hf : VT w0 R cf f) (hT : SlT w0 R ta ts) (ht : lenOk ts.length tc) :
    Runs Try.prog 14 #[.agg cf.toArray, .slice ta ts.length tc] w0 fun v w' => ∃ cs, v = .agg cs.toArray ∧ VT w' R cs (apT f ts) ∧ Ext w0 w' := by
  obtain ⟨kf, nf, sf, lsf, tsf, laf, lcf, taf, tcf, etf, rfl, hkf, hnf, hsf, hlf, htf, hLf, hTf⟩ := hf.inv
  refine Runs.of_W (vs := [_, _]) Try.func14 rfl rfl ?_
  refine W.seqK fun K1 hK1 => ?_
  refine W.region ?_
  refine Rg.od rfl rfl rfl (OpT.box rfl fun w2 g2 e2 x2 z2 b2 => ?_)
  replace b2 : Box w2 g2 [.int .u8 kf, .int .i64 nf, .string sf, .slice laf lsf.length lcf, .slice taf tsf.length tcf] := b2
  refine Rg.od rfl rfl rfl (OpT.alloc Try.zeroValue26 fun w3 g3 e3 x3 z3 b3 => ?_)
  replace b3 : Box w3 g3 [.int .u8 0, .int .i64 0, .string (⟨#[]⟩ : ByteArray), .slice none 0 0, .slice none 0 0] := b3
  refine Rg.nil ?_
  refine hK1 _ _ ?_
  refine W.seqK fun K4 hK4 => ?_
  refine W.seqK fun K5 hK5 => ?_
  refine W.region ?_
  refine Rg.od rfl rfl rfl (OpT.assign rfl ?_)
  refine Rg.nil ?_
  refine hK5 _ _ ?_
  refine W.block ?_
  have hT_6 : SlT w0 (fun k => R k ∧ k ≠ g2 ∧ k ≠ g3) ta ts := (hT.small).mono (fun k h => ⟨h.1, by have h1 := h.2; have h9 := Nat.le_refl w0.heap.size; have h200 := Nat.le_refl w0.heap.size; have h201 := Nat.le_trans (Nat.le_refl w0.heap.size) x2.size; omega⟩)
  have hst6 : VT w0 (fun k => R k ∧ k ≠ g2 ∧ k ≠ g3) [.int .u8 kf, .int .i64 nf, .string sf, .slice laf lsf.length lcf, .slice taf tsf.length tcf] ((fun q => apT f (ts.take q)) 0) := by have h : VT w0 (fun k => R k ∧ k ≠ g2 ∧ k ≠ g3) [.int .u8 kf, .int .i64 nf, .string sf, .slice laf lsf.length lcf, .slice taf tsf.length tcf] f := VT.mono (VT.small hf) (fun k h => ⟨h.1, by have h1 := h.2; have h200 := Nat.le_refl w0.heap.size; have h201 := Nat.le_trans (Nat.le_refl w0.heap.size) x2.size; omega⟩); exact h
  refine W.loop (σ := Nat) (fun q e w' => Sub [(1, .slice ta ts.length tc), (2, .pointer (some ⟨g2, 0, none⟩)), (4, .pointer (some ⟨g3, 0, none⟩)), (5, .int .i64 ((q : Nat) : Int))] e ∧ Upd g2 w3 w' ∧ (∃ cs, Box w' g2 cs ∧ VT w' (fun k => R k ∧ k ≠ g2 ∧ k ≠ g3) cs ((fun q => apT f (ts.take q)) q)) ∧ q ≤ ts.length) (fun q => ts.length - q) 0
    ⟨⟨rfl, rfl, rfl, (intSlot (by omega) rfl), trivial⟩, Mod.refl _ _, ⟨_, (b2.ext x3), (hst6.ext (x2.trans x3))⟩, by omega⟩ ?_
  rintro q6 en6 w6 ⟨hs6, x6, ⟨cs6, b6, hv6⟩, hq6⟩
  refine W.sub hs6 ?_
  obtain ⟨kq6, nq6, sq6, lsq6, tsq6, laq6, lcq6, taq6, tcq6, etq6, rfl, hkq6, hnq6, hsq6, hlq6, htq6, hLq6, hTq6⟩ := hv6.inv
  refine W.seqK fun K7 hK7 => ?_
  refine W.seqK fun K8 hK8 => ?_
  refine W.region ?_
  refine Rg.od rfl rfl rfl (OpT.move rfl ?_)
  refine Rg.od rfl rfl rfl (OpT.move rfl ?_)
  refine Rg.od rfl rfl rfl (OpT.lenS Try.underlying24 rfl ?_)
  refine Rg.od rfl rfl rfl (OpT.lss rfl rfl ?_)
  refine Rg.nil ?_
  refine hK8 _ _ ?_
  rcases Bool.eq_false_or_eq_true (decide (((q6 : Nat) : Int) < ((ts.length : Nat) : Int))) with hb9 | hb9
  · have hp9 := of_decide_eq_true hb9
    refine W.condTb rfl hb9 ?_
    refine W.skip ?_
    refine hK7 _ _ ?_
    refine W.seqK fun K10 hK10 => ?_
    refine W.block ?_
    obtain ⟨a16, cs16, ha16, hr16, hw16, hv16⟩ := (hT_6.ext ((x2.trans x3).upd x6 (by omega))).at (i := q6) (by first | omega | (unfold lenOk at *; omega))
    obtain ⟨k16, n16, s16, ls16, ts16, la16, lc16, ta16, tc16, et16, rfl, hk16, hn16, hs16, hl16, ht16, hL16, hT16⟩ := hv16.inv
    refine W.drawE 5 [.ex (.agg ([.int .u8 kq6, .int .i64 nq6, .string sq6, .slice laq6 lsq6.length lcq6, .slice taq6 tsq6.length tcq6].toArray)), .ex (.slice ta ts.length tc), .ex (.int .i64 ((q6 : Nat) : Int)), .ex (.pointer (some (a16.add (q6 * 5)))), .ex (.agg ([.int .u8 k16, .int .i64 n16, .string s16, .slice la16 ls16.length lc16, .slice ta16 ts16.length tc16].toArray))] mixed rfl rfl rfl ⟨trivial, trivial, trivial, trivial, trivial, trivial⟩ ?_ ?_
    · refine ⟨?_, ?_, ?_, ?_, ?_, trivial⟩
      · intro w' hx _
        exact OpT.loadAB Try.isAgg26 Try.sizeOf26 rfl (b6.ext hx) rfl VS.ok
      · intro w' hx _
        exact OpT.move rfl VS.ok
      · intro w' hx _
        exact OpT.move rfl VS.ok
      · intro w' hx _
        exact OpT.indexAddr Try.underlying24 Try.sizeOf26 rfl rfl ha16 (by first | omega | (unfold lenOk at *; omega)) VS.ok
      · intro w' hx _
        exact OpT.loadA (cs := [.int .u8 k16, .int .i64 n16, .string s16, .slice la16 ls16.length lc16, .slice ta16 ts16.length tc16]) Try.isAgg26 Try.sizeOf26 rfl (hw16.ext hx) VS.ok
    · intro w11 x11
      refine ⟨rfl, rfl, OpT.call Try.call32 (.cons rfl (.cons rfl .nil)) (Runs.mono (rApp_runs _ _ _ _ _ (fun k => R k ∧ k ≠ g2 ∧ k ≠ g3) (fun k hk => ⟨(fun k hk => hR k (Nat.le_trans (Nat.le_trans (Nat.le_trans (Nat.le_trans (Nat.le_trans (Nat.le_refl w0.heap.size) x2.size) x3.size) x6.size) x11.size) hk)) k hk, by have h100 := Nat.le_trans (Nat.le_trans (Nat.le_trans (Nat.le_refl w2.heap.size) x3.size) x6.size) x11.size; have h101 := Nat.le_trans (Nat.le_trans (Nat.le_refl w3.heap.size) x6.size) x11.size; omega⟩) (hv6.ext x11) (hv16.ext x11)) ?_)⟩
      rintro _ w18 ⟨cs18, rfl, hv18, x18⟩
      obtain ⟨kr18, nr18, sr18, lsr18, tsr18, lar18, lcr18, tar18, tcr18, etr18, rfl, hkr18, hnr18, hsr18, hlr18, htr18, hLr18, hTr18⟩ := hv18.inv
      refine ⟨rfl, rfl, OpT.storeA Try.sizeOf26 rfl rfl rfl rfl (b6.ext (x11.trans x18)) rfl fun w19 m19 z19 b19 => ?_⟩
      replace b19 : Box w19 g2 [.int .u8 kr18, .int .i64 nr18, .string sr18, .slice lar18 lsr18.length lcr18, .slice tar18 tsr18.length tcr18] := b19
      refine hK10 _ _ ?_
      refine W.region ?_
      refine Rg.od rfl rfl rfl (OpT.move rfl ?_)
      refine Rg.od rfl rfl rfl (OpT.add rfl rfl (by first | omega | (unfold lenOk at *; omega)) ?_)
      refine Rg.od rfl rfl rfl (OpT.assign rfl ?_)
      refine Rg.nil ?_
      exact ⟨q6 + 1, ⟨⟨rfl, rfl, rfl, (intSlot (by omega) rfl), trivial⟩, ((x6.ext (x11.trans x18)).trans m19), ⟨_, b19, (by show VT _ _ _ (apT f (ts.take (q6 + 1))); rw [apT_succ _ _ _ (by omega)]; exact (hv18.upd m19 (fun h => h.2.1 rfl)))⟩, by omega⟩, by omega⟩
  · have hp9 := of_decide_eq_false hb9
    refine W.condFb rfl hb9 ?_
    refine W.exit ?_
    refine hK4 _ _ ?_
    refine W.seqK fun K20 hK20 => ?_
    refine W.region ?_
    refine Rg.od rfl rfl rfl (OpT.loadAB Try.isAgg26 Try.sizeOf26 rfl b6 rfl ?_)
    refine Rg.on rfl rfl (OpT.storeA Try.sizeOf26 rfl rfl rfl rfl (b3.upd x6 (by have h1 := Nat.le_refl w2.heap.size; omega)) rfl fun w21 m21 z21 b21 => ?_)
    replace b21 : Box w21 g3 [.int .u8 kq6, .int .i64 nq6, .string sq6, .slice laq6 lsq6.length lcq6, .slice taq6 tsq6.length tcq6] := b21
    refine Rg.nil ?_
    refine hK20 _ _ ?_
    refine W.ret ?_
    refine ⟨_, Res.cellA rfl rfl Try.isAgg26 Try.sizeOf26 rfl b21, ?_⟩
    have hq : q6 = ts.length := by omega
    exact ⟨_, rfl, by have h := VT.mono (hv6.upd m21 (fun h => h.2.2 rfl)) (fun k h => h.1); simp only [hq, List.take_length] at h; exact h, (((x2.trans x3).upd x6 (by omega)).upd m21 (by have h1 := x2.size; omega))⟩
set_option maxHeartbeats 1000000 in
set_option maxRecDepth 20000 in
theorem tApply_runs (f : T) (ts : List T) (cf : List Value) (ta : Option Addr) (tc : Nat) (w0 : World) (R : Nat → Prop) (hR : ∀ k, w0.heap.size ≤ k → R k) (hf : VT w0 R cf f) (hT : SlT w0 R ta ts) (ht : lenOk ts.length tc) :
    Runs Try.prog 15 #[.agg cf.toArray, .slice ta ts.length tc] w0 fun v w' => ∃ cs, v = .agg cs.toArray ∧ VT w' R cs (bif mayT (apT f ts) then apT f ts else tZ) ∧ Ext w0 w' := by
  obtain ⟨kf, nf, sf, lsf, tsf, laf, lcf, taf, tcf, etf, rfl, hkf, hnf, hsf, hlf, htf, hLf, hTf⟩ := hf.inv
  refine Runs.of_W (vs := [_, _]) Try.func15 rfl rfl ?_
  refine W.seqK fun K1 hK1 => ?_
  refine W.region ?_
  refine Rg.od rfl rfl rfl (OpT.box rfl fun w2 g2 e2 x2 z2 b2 => ?_)
  replace b2 : Box w2 g2 [.int .u8 kf, .int .i64 nf, .string sf, .slice laf lsf.length lcf, .slice taf tsf.length tcf] := b2
  refine Rg.od rfl rfl rfl (OpT.alloc Try.zeroValue26 fun w3 g3 e3 x3 z3 b3 => ?_)
  replace b3 : Box w3 g3 [.int .u8 0, .int .i64 0, .string (⟨#[]⟩ : ByteArray), .slice none 0 0, .slice none 0 0] := b3
  refine Rg.nil ?_
  refine hK1 _ _ ?_
  refine W.seqK fun K4 hK4 => ?_
  refine W.seqK fun K5 hK5 => ?_
  refine W.region ?_
  refine Rg.od rfl rfl rfl (OpT.move rfl ?_)
  refine Rg.od rfl rfl rfl (OpT.lenS Try.underlying24 rfl ?_)
  refine Rg.od rfl rfl rfl (OpT.move rfl ?_)
  refine Rg.nil ?_
  refine hK5 _ _ ?_
  refine W.block ?_
  have hT_6 : SlT w0 (fun k => R k ∧ k ≠ g2 ∧ k ≠ g3) ta ts := (hT.small).mono (fun k h => ⟨h.1, by have h1 := h.2; have h9 := Nat.le_refl w0.heap.size; have h200 := Nat.le_refl w0.heap.size; have h201 := Nat.le_trans (Nat.le_refl w0.heap.size) x2.size; omega⟩)
  have hst6 : VT w0 (fun k => R k ∧ k ≠ g2 ∧ k ≠ g3) [.int .u8 kf, .int .i64 nf, .string sf, .slice laf lsf.length lcf, .slice taf tsf.length tcf] ((fun q => apT f (ts.take q)) 0) := by have h : VT w0 (fun k => R k ∧ k ≠ g2 ∧ k ≠ g3) [.int .u8 kf, .int .i64 nf, .string sf, .slice laf lsf.length lcf, .slice taf tsf.length tcf] f := VT.mono (VT.small hf) (fun k h => ⟨h.1, by have h1 := h.2; have h200 := Nat.le_refl w0.heap.size; have h201 := Nat.le_trans (Nat.le_refl w0.heap.size) x2.size; omega⟩); exact h
  refine W.loop (σ := Nat) (fun q e w' => Sub [(1, .slice ta ts.length tc), (2, .pointer (some ⟨g2, 0, none⟩)), (4, .pointer (some ⟨g3, 0, none⟩)), (7, .slice ta ts.length tc), (8, .int .i64 ((ts.length : Nat) : Int)), (9, .int .i64 ((q : Nat) : Int))] e ∧ Upd g2 w3 w' ∧ (∃ cs, Box w' g2 cs ∧ VT w' (fun k => R k ∧ k ≠ g2 ∧ k ≠ g3) cs ((fun q => apT f (ts.take q)) q)) ∧ q ≤ ts.length) (fun q => ts.length - q) 0
    ⟨⟨rfl, rfl, rfl, rfl, rfl, (intSlot (by omega) rfl), trivial⟩, Mod.refl _ _, ⟨_, (b2.ext x3), (hst6.ext (x2.trans x3))⟩, by omega⟩ ?_
  rintro q6 en6 w6 ⟨hs6, x6, ⟨cs6, b6, hv6⟩, hq6⟩
  refine W.sub hs6 ?_
  obtain ⟨kq6, nq6, sq6, lsq6, tsq6, laq6, lcq6, taq6, tcq6, etq6, rfl, hkq6, hnq6, hsq6, hlq6, htq6, hLq6, hTq6⟩ := hv6.inv
  refine W.seqK fun K7 hK7 => ?_
  refine W.region ?_
  refine Rg.od rfl rfl rfl (OpT.lss rfl rfl ?_)
  refine Rg.nil ?_
  refine hK7 _ _ ?_
  refine W.seqK fun K8 hK8 => ?_
  rcases Bool.eq_false_or_eq_true (decide (((q6 : Nat) : Int) < ((ts.length : Nat) : Int))) with hb9 | hb9
  · have hp9 := of_decide_eq_true hb9
    refine W.condTb rfl hb9 ?_
    refine W.skip ?_
    refine hK8 _ _ ?_
    refine W.seqK fun K10 hK10 => ?_
    refine W.block ?_
    refine W.seqK fun K11 hK11 => ?_
    refine W.region ?_
    obtain ⟨a12, cs12, ha12, hr12, hw12, hv12⟩ := (hT_6.ext ((x2.trans x3).upd x6 (by omega))).at (i := q6) (by first | omega | (unfold lenOk at *; omega))
    obtain ⟨k12, n12, s12, ls12, ts12, la12, lc12, ta12, tc12, et12, rfl, hk12, hn12, hs12, hl12, ht12, hL12, hT12⟩ := hv12.inv
    refine Rg.od rfl rfl rfl (OpT.indexAddr Try.underlying24 Try.sizeOf26 rfl rfl ha12 (by first | omega | (unfold lenOk at *; omega)) ?_)
    refine Rg.od rfl rfl rfl (OpT.loadA (cs := [.int .u8 k12, .int .i64 n12, .string s12, .slice la12 ls12.length lc12, .slice ta12 ts12.length tc12]) Try.isAgg26 Try.sizeOf26 rfl hw12 ?_)
    refine Rg.od rfl rfl rfl (OpT.alloc Try.zeroValue26 fun w13 g13 e13 x13 z13 b13 => ?_)
    replace b13 : Box w13 g13 [.int .u8 0, .int .i64 0, .string (⟨#[]⟩ : ByteArray), .slice none 0 0, .slice none 0 0] := b13
    refine Rg.on rfl rfl (OpT.storeA Try.sizeOf26 rfl rfl rfl rfl b13 rfl fun w14 m14 z14 b14 => ?_)
    replace b14 : Box w14 g13 [.int .u8 k12, .int .i64 n12, .string s12, .slice la12 ls12.length lc12, .slice ta12 ts12.length tc12] := b14
    refine Rg.nil ?_
    refine hK11 _ _ ?_
    refine W.region ?_
    refine Rg.od rfl rfl rfl (OpT.loadAB Try.isAgg26 Try.sizeOf26 rfl ((b6.ext x13).upd m14 (by have h1 := Nat.le_trans (Nat.le_trans (Nat.le_refl w2.heap.size) x3.size) x6.size; omega)) rfl ?_)
    refine Rg.od rfl rfl rfl (OpT.loadAB Try.isAgg26 Try.sizeOf26 rfl b14 rfl ?_)
    refine Rg.od rfl rfl rfl (OpT.buildSlice (cs := #[.int .u8 kq6, .int .i64 nq6, .string sq6, .slice laq6 lsq6.length lcq6, .slice taq6 tsq6.length tcq6, .int .u8 k12, .int .i64 n12, .string s12, .slice la12 ls12.length lc12, .slice ta12 ts12.length tc12]) (.cons rfl (.cons rfl .nil)) Try.underlying24 Try.sizeOf26 Try.zeroValue26 rfl (by kernel_rfl) fun w15 g15 e15 x15 z15 b15 => ?_)
    replace b15 : Box w15 g15 [.int .u8 kq6, .int .i64 nq6, .string sq6, .slice laq6 lsq6.length lcq6, .slice taq6 tsq6.length tcq6, .int .u8 k12, .int .i64 n12, .string s12, .slice la12 ls12.length lc12, .slice ta12 ts12.length tc12] := b15
    refine Rg.od rfl rfl rfl (OpT.build (cs := #[.int .u8 4, .int .i64 0, .string (⟨#[]⟩ : ByteArray), .slice none 0 0, .slice (some ⟨g15, 0, none⟩) 2 2]) (.cons rfl (.cons rfl .nil)) Try.zeroValue26 places26.choose_spec.1 places26.choose_spec.2 (by kernel_rfl) ?_)
    refine Rg.on rfl rfl (OpT.storeA Try.sizeOf26 rfl rfl rfl rfl (((b6.ext x13).upd m14 (by have h1 := Nat.le_trans (Nat.le_trans (Nat.le_refl w2.heap.size) x3.size) x6.size; omega)).ext x15) rfl fun w16 m16 z16 b16 => ?_)
    replace b16 : Box w16 g2 [.int .u8 4, .int .i64 0, .string (⟨#[]⟩ : ByteArray), .slice none 0 0, .slice (some ⟨g15, 0, none⟩) 2 2] := b16
    refine Rg.nil ?_
    refine hK10 _ _ ?_
    refine W.region ?_
    refine Rg.od rfl rfl rfl (OpT.add rfl rfl (by first | omega | (unfold lenOk at *; omega)) ?_)
    refine Rg.od rfl rfl rfl (OpT.move rfl ?_)
    refine Rg.nil ?_
    exact ⟨q6 + 1, ⟨⟨rfl, rfl, rfl, rfl, rfl, (intSlot (by omega) rfl), trivial⟩, ((x6.ext ((x13.upd m14 (by omega)).trans x15)).trans m16), ⟨_, b16, (by show VT _ _ _ (apT f (ts.take (q6 + 1))); rw [apT_succ _ _ _ (by omega)]; exact VT.intro (w := w16) (R := (fun k => R k ∧ k ≠ g2 ∧ k ≠ g3)) (k := 4) (n := 0) (s := (⟨#[]⟩ : ByteArray)) (la := none) (lc := 0) (ta := (some ⟨g15, 0, none⟩)) (tc := 2) (ls := []) (ts := [((fun q => apT f (ts.take q)) q6), ts[q6]]) (by omega) (by unfold i64ok at *; omega) (by first | assumption | decide) ⟨Nat.le_refl 0, by decide⟩ (by unfold lenOk at *; simp only [List.length_cons, List.length_nil]; omega) (SlL.nil _ _ _) (SlT.box2 (c1 := [.int .u8 kq6, .int .i64 nq6, .string sq6, .slice laq6 lsq6.length lcq6, .slice taq6 tsq6.length tcq6]) (c2 := [.int .u8 k12, .int .i64 n12, .string s12, .slice la12 ls12.length lc12, .slice ta12 ts12.length tc12]) (b15.upd m16 (by have h1 := Nat.le_trans (Nat.le_trans (Nat.le_trans (Nat.le_trans (Nat.le_refl w2.heap.size) x3.size) x6.size) x13.size) m14.size; omega)) ⟨(hR _ (by have h1 := Nat.le_trans (Nat.le_trans (Nat.le_trans (Nat.le_trans (Nat.le_trans (Nat.le_refl w0.heap.size) x2.size) x3.size) x6.size) x13.size) m14.size; omega)), by have h100 := Nat.le_trans (Nat.le_trans (Nat.le_trans (Nat.le_trans (Nat.le_refl w2.heap.size) x3.size) x6.size) x13.size) m14.size; have h101 := Nat.le_trans (Nat.le_trans (Nat.le_trans (Nat.le_refl w3.heap.size) x6.size) x13.size) m14.size; omega⟩ ((hv6.ext ((x13.upd m14 (by omega)).trans x15)).upd m16 (fun h => h.2.1 rfl)) ((hv12.ext ((x13.upd m14 (by omega)).trans x15)).upd m16 (fun h => h.2.1 rfl))))⟩, by omega⟩, by omega⟩
  · have hp9 := of_decide_eq_false hb9
    refine W.condFb rfl hb9 ?_
    refine W.exit ?_
    refine hK4 _ _ ?_
    refine W.seqK fun K17 hK17 => ?_
    refine W.seqK fun K18 hK18 => ?_
    refine W.region ?_
    refine Rg.od rfl rfl rfl (OpT.loadAB Try.isAgg26 Try.sizeOf26 rfl b6 rfl ?_)
    refine Rg.od rfl rfl rfl (OpT.call Try.call8 (.cons rfl .nil) (Runs.mono (may_runs _ _ _ _ hv6) ?_))
    rintro _ w19 ⟨rfl, x19⟩
    refine Rg.od rfl rfl rfl (OpT.notB rfl ?_)
    refine Rg.nil ?_
    refine hK18 _ _ ?_
    rcases Bool.eq_false_or_eq_true (mayT ((fun q => apT f (ts.take q)) q6)) with hb20 | hb20
    · have hp20 := hb20
      refine W.condFb rfl (nT hb20) ?_
      refine W.skip ?_
      refine hK17 _ _ ?_
      refine W.seqK fun K21 hK21 => ?_
      refine W.region ?_
      refine Rg.od rfl rfl rfl (OpT.loadAB Try.isAgg26 Try.sizeOf26 rfl (b6.ext x19) rfl ?_)
      refine Rg.on rfl rfl (OpT.storeA Try.sizeOf26 rfl rfl rfl rfl ((b3.upd x6 (by have h1 := Nat.le_refl w2.heap.size; omega)).ext x19) rfl fun w22 m22 z22 b22 => ?_)
      replace b22 : Box w22 g3 [.int .u8 kq6, .int .i64 nq6, .string sq6, .slice laq6 lsq6.length lcq6, .slice taq6 tsq6.length tcq6] := b22
      refine Rg.nil ?_
      refine hK21 _ _ ?_
      refine W.ret ?_
      refine ⟨_, Res.cellA rfl rfl Try.isAgg26 Try.sizeOf26 rfl b22, ?_⟩
      have hq : q6 = ts.length := by omega
      have hm := hb20
      simp only [hq, List.take_length] at hm
      exact ⟨_, rfl, by have h := VT.mono ((hv6.ext x19).upd m22 (fun h => h.2.2 rfl)) (fun k h => h.1); simp only [hq, List.take_length] at h; rw [hm]; exact h, ((((x2.trans x3).upd x6 (by omega)).trans x19).upd m22 (by have h1 := x2.size; omega))⟩
    · have hp20 := hb20
      refine W.condTb rfl (nF hb20) ?_
      refine W.seqK fun K23 hK23 => ?_
      refine W.region ?_
      refine Rg.od rfl rfl rfl (OpT.build (cs := #[.int .u8 0, .int .i64 0, .string (⟨#[]⟩ : ByteArray), .slice none 0 0, .slice none 0 0]) .nil Try.zeroValue26 places26.choose_spec.1 places26.choose_spec.2 (by kernel_rfl) ?_)
      refine Rg.on rfl rfl (OpT.storeA Try.sizeOf26 rfl rfl rfl rfl ((b3.upd x6 (by have h1 := Nat.le_refl w2.heap.size; omega)).ext x19) rfl fun w24 m24 z24 b24 => ?_)
      replace b24 : Box w24 g3 [.int .u8 0, .int .i64 0, .string (⟨#[]⟩ : ByteArray), .slice none 0 0, .slice none 0 0] := b24
      refine Rg.nil ?_
      refine hK23 _ _ ?_
      refine W.ret ?_
      refine ⟨_, Res.cellA rfl rfl Try.isAgg26 Try.sizeOf26 rfl b24, ?_⟩
      have hq : q6 = ts.length := by omega
      have hm := hb20
      simp only [hq, List.take_length] at hm
      exact ⟨_, rfl, by have h := VT.mono (VT.intro (w := w24) (R := (fun k => R k ∧ k ≠ g2 ∧ k ≠ g3)) (k := 0) (n := 0) (s := (⟨#[]⟩ : ByteArray)) (la := none) (lc := 0) (ta := none) (tc := 0) (ls := []) (ts := []) (by omega) (by unfold i64ok at *; omega) (by first | assumption | decide) ⟨Nat.le_refl 0, by decide⟩ ⟨Nat.le_refl 0, by decide⟩ (SlL.nil _ _ _) (SlT.nil _ _ _)) (fun k h => h.1); rw [hm]; exact h, ((((x2.trans x3).upd x6 (by omega)).trans x19).upd m24 (by have h1 := x2.size; omega))⟩
set_option maxHeartbeats 1000000 in
set_option maxRecDepth 20000 in
theorem TermSpines_runs (f : T) (ts : List T) (cf : List Value) (ta : Option Addr) (tc : Nat) (w0 : World) (hf : VT w0 (fun _ => True) cf f) (hT : SlT w0 (fun _ => True) ta ts) (ht : lenOk ts.length tc) :
    Runs Try.prog 4 #[.agg cf.toArray, .slice ta ts.length tc] w0 fun v w' => v = .bool true ∧ Ext w0 w' := by
  have hR : ∀ k, w0.heap.size ≤ k → (fun _ => True : Nat → Prop) k := fun _ _ => trivial
  have hlap : (spArgs f ++ ts).length = (spArgs f).length + ts.length := List.length_append
  obtain ⟨kf, nf, sf, lsf, tsf, laf, lcf, taf, tcf, etf, rfl, hkf, hnf, hsf, hlf, htf, hLf, hTf⟩ := hf.inv
  refine Runs.of_W (vs := [_, _]) Try.func4 rfl rfl ?_
  refine W.seqK fun K1 hK1 => ?_
  refine W.region ?_
  refine Rg.od rfl rfl rfl (OpT.box rfl fun w2 g2 e2 x2 z2 b2 => ?_)
  replace b2 : Box w2 g2 [.int .u8 kf, .int .i64 nf, .string sf, .slice laf lsf.length lcf, .slice taf tsf.length tcf] := b2
  refine Rg.od rfl rfl rfl (OpT.assign rfl ?_)
  refine Rg.nil ?_
  refine hK1 _ _ ?_
  refine W.seqK fun K3 hK3 => ?_
  refine W.seqK fun K4 hK4 => ?_
  refine W.region ?_
  refine Rg.od rfl rfl rfl (OpT.loadAB Try.isAgg26 Try.sizeOf26 rfl b2 rfl ?_)
  refine Rg.od rfl rfl rfl (OpT.call Try.call13 (.cons rfl .nil) (Runs.mono (rDeep_runs _ _ _ _ (hf.ext x2)) ?_))
  rintro _ w5 ⟨rfl, x5⟩
  refine Rg.od rfl rfl rfl (OpT.move rfl ?_)
  rcases Bool.eq_false_or_eq_true (isDeep f) with hb6 | hb6
  · have hp6 := hb6
    refine Rg.gn rfl rfl rfl rfl hb6 ?_
    refine Rg.gn rfl rfl rfl rfl hb6 ?_
    refine Rg.gn rfl rfl rfl rfl hb6 ?_
    refine Rg.od rfl rfl rfl (OpT.pickT rfl hb6 rfl ?_)
    refine Rg.nil ?_
    refine hK4 _ _ ?_
    refine W.condTb rfl rfl ?_
    refine W.seqK fun K7 hK7 => ?_
    refine W.region ?_
    refine Rg.od rfl rfl rfl (OpT.call Try.call9 .nil (Runs.mono (works_runs _) ?_))
    rintro _ w8 ⟨rfl, x8⟩
    refine Rg.od rfl rfl rfl (OpT.assign rfl ?_)
    refine Rg.nil ?_
    refine hK7 _ _ ?_
    refine W.ret ?_
    refine ⟨_, Res.one rfl rfl, ?_⟩
    exact ⟨rfl, ((x2.trans x5).trans x8)⟩
  · have hp6 := hb6
    refine Rg.gy rfl rfl rfl rfl hb6 (OpT.move rfl ?_)
    refine Rg.gy rfl rfl rfl rfl hb6 (OpT.lenS Try.underlying24 rfl ?_)
    refine Rg.gy rfl rfl rfl rfl hb6 (OpT.gtr rfl rfl ?_)
    refine Rg.od rfl rfl rfl (OpT.pickF rfl hb6 rfl ?_)
    refine Rg.nil ?_
    refine hK4 _ _ ?_
    rcases Bool.eq_false_or_eq_true (decide (40 < ((ts.length : Nat) : Int))) with hb9 | hb9
    · have hp9 := of_decide_eq_true hb9
      refine W.condTb rfl hb9 ?_
      refine W.seqK fun K10 hK10 => ?_
      refine W.region ?_
      refine Rg.od rfl rfl rfl (OpT.call Try.call9 .nil (Runs.mono (works_runs _) ?_))
      rintro _ w11 ⟨rfl, x11⟩
      refine Rg.od rfl rfl rfl (OpT.assign rfl ?_)
      refine Rg.nil ?_
      refine hK10 _ _ ?_
      refine W.ret ?_
      refine ⟨_, Res.one rfl rfl, ?_⟩
      exact ⟨rfl, ((x2.trans x5).trans x11)⟩
    · have hp9 := of_decide_eq_false hb9
      refine W.condFb rfl hb9 ?_
      refine W.skip ?_
      refine hK3 _ _ ?_
      refine W.seqK fun K12 hK12 => ?_
      refine W.region ?_
      refine Rg.od rfl rfl rfl (OpT.assign rfl ?_)
      refine Rg.nil ?_
      refine hK12 _ _ ?_
      refine W.seqK fun K13 hK13 => ?_
      refine W.seqK fun K14 hK14 => ?_
      refine W.region ?_
      refine Rg.od rfl rfl rfl (OpT.assign rfl ?_)
      refine Rg.nil ?_
      refine hK14 _ _ ?_
      refine W.block ?_
      refine W.loop (σ := Nat) (fun q e w' => Sub [(0, .agg ([.int .u8 kf, .int .i64 nf, .string sf, .slice laf lsf.length lcf, .slice taf tsf.length tcf].toArray)), (1, .slice ta ts.length tc), (2, .pointer (some ⟨g2, 0, none⟩)), (4, .bool false), (5, .int .i64 (((sizes (ts.take q) + q) : Nat) : Int)), (6, .int .i64 ((q : Nat) : Int)), (15, .agg ([.int .u8 kf, .int .i64 nf, .string sf, .slice laf lsf.length lcf, .slice taf tsf.length tcf].toArray)), (16, .bool (isDeep f)), (17, .bool (isDeep f)), (18, .slice ta ts.length tc), (19, .int .i64 ((ts.length : Nat) : Int)), (20, .bool (decide (40 < ((ts.length : Nat) : Int)))), (21, .bool (decide (40 < ((ts.length : Nat) : Int))))] e ∧ Ext w5 w' ∧ q ≤ ts.length ∧ sizes (ts.take q) ≤ q * 131072) (fun q => ts.length - q) 0
        ⟨⟨rfl, rfl, rfl, rfl, intSlot (by simp [sizes]) rfl, rfl, rfl, rfl, rfl, rfl, rfl, rfl, rfl, trivial⟩, Mod.refl _ _, Nat.zero_le _, by simp [sizes]⟩ ?_
      rintro s15 en15 w15 ⟨hs15, x15, hi15_0, hi15_1⟩
      refine W.sub hs15 ?_
      refine W.seqK fun K16 hK16 => ?_
      refine W.seqK fun K17 hK17 => ?_
      refine W.region ?_
      refine Rg.od rfl rfl rfl (OpT.move rfl ?_)
      refine Rg.od rfl rfl rfl (OpT.move rfl ?_)
      refine Rg.od rfl rfl rfl (OpT.lenS Try.underlying24 rfl ?_)
      refine Rg.od rfl rfl rfl (OpT.lss rfl rfl ?_)
      refine Rg.nil ?_
      refine hK17 _ _ ?_
      rcases Bool.eq_false_or_eq_true (decide (((s15 : Nat) : Int) < ((ts.length : Nat) : Int))) with hb18 | hb18
      · have hp18 := of_decide_eq_true hb18
        refine W.condTb rfl hb18 ?_
        refine W.skip ?_
        refine hK16 _ _ ?_
        refine W.seqK fun K19 hK19 => ?_
        refine W.block ?_
        refine W.seqK fun K20 hK20 => ?_
        refine W.seqK fun K21 hK21 => ?_
        refine W.region ?_
        refine Rg.od rfl rfl rfl (OpT.move rfl ?_)
        refine Rg.od rfl rfl rfl (OpT.move rfl ?_)
        obtain ⟨a22, cs22, ha22, hr22, hw22, hv22⟩ := hT.at (i := s15) (by first | omega | (unfold lenOk at *; omega))
        obtain ⟨k22, n22, s22, ls22, ts22, la22, lc22, ta22, tc22, et22, rfl, hk22, hn22, hs22, hl22, ht22, hL22, hT22⟩ := hv22.inv
        refine Rg.od rfl rfl rfl (OpT.indexAddr Try.underlying24 Try.sizeOf26 rfl rfl ha22 (by first | omega | (unfold lenOk at *; omega)) ?_)
        refine Rg.od rfl rfl rfl (OpT.loadA (cs := [.int .u8 k22, .int .i64 n22, .string s22, .slice la22 ls22.length lc22, .slice ta22 ts22.length tc22]) Try.isAgg26 Try.sizeOf26 rfl (hw22.ext ((x2.trans x5).trans x15)) ?_)
        refine Rg.od rfl rfl rfl (OpT.call Try.call13 (.cons rfl .nil) (Runs.mono (rDeep_runs _ _ _ _ (hv22.ext ((x2.trans x5).trans x15))) ?_))
        rintro _ w23 ⟨rfl, x23⟩
        refine Rg.nil ?_
        refine hK21 _ _ ?_
        rcases Bool.eq_false_or_eq_true (isDeep (ts[s15])) with hb24 | hb24
        · have hp24 := hb24
          refine W.condTb rfl hb24 ?_
          refine W.seqK fun K25 hK25 => ?_
          refine W.region ?_
          refine Rg.od rfl rfl rfl (OpT.call Try.call9 .nil (Runs.mono (works_runs _) ?_))
          rintro _ w26 ⟨rfl, x26⟩
          refine Rg.od rfl rfl rfl (OpT.assign rfl ?_)
          refine Rg.nil ?_
          refine hK25 _ _ ?_
          refine W.ret ?_
          refine ⟨_, Res.one rfl rfl, ?_⟩
          exact ⟨rfl, ((((x2.trans x5).trans x15).trans x23).trans x26)⟩
        · have hp24 := hb24
          refine W.condFb rfl hb24 ?_
          refine W.skip ?_
          refine hK20 _ _ ?_
          have hdq := isDeep_no hb24
          refine W.region ?_
          refine Rg.od rfl rfl rfl (OpT.move rfl ?_)
          refine Rg.od rfl rfl rfl (OpT.move rfl ?_)
          refine Rg.od rfl rfl rfl (OpT.move rfl ?_)
          obtain ⟨a27, cs27, ha27, hr27, hw27, hv27⟩ := hT.at (i := s15) (by first | omega | (unfold lenOk at *; omega))
          obtain ⟨k27, n27, s27, ls27, ts27, la27, lc27, ta27, tc27, et27, rfl, hk27, hn27, hs27, hl27, ht27, hL27, hT27⟩ := hv27.inv
          refine Rg.od rfl rfl rfl (OpT.indexAddr Try.underlying24 Try.sizeOf26 rfl rfl ha27 (by first | omega | (unfold lenOk at *; omega)) ?_)
          refine Rg.od rfl rfl rfl (OpT.loadA (cs := [.int .u8 k27, .int .i64 n27, .string s27, .slice la27 ls27.length lc27, .slice ta27 ts27.length tc27]) Try.isAgg26 Try.sizeOf26 rfl (hw27.ext (((x2.trans x5).trans x15).trans x23)) ?_)
          refine Rg.od rfl rfl rfl (OpT.call Try.call12 (.cons rfl .nil) (Runs.mono (rSize_runs _ _ _ _ (hv27.ext (((x2.trans x5).trans x15).trans x23)) (by first | assumption | omega)) ?_))
          rintro _ w28 ⟨rfl, x28⟩
          refine Rg.od rfl rfl rfl (OpT.add rfl rfl (by first | omega | (unfold lenOk at *; omega)) ?_)
          refine Rg.od rfl rfl rfl (OpT.add rfl rfl (by first | omega | (unfold lenOk at *; omega)) ?_)
          refine Rg.od rfl rfl rfl (OpT.assign rfl ?_)
          refine Rg.nil ?_
          refine hK19 _ _ ?_
          refine W.region ?_
          refine Rg.od rfl rfl rfl (OpT.move rfl ?_)
          refine Rg.od rfl rfl rfl (OpT.add rfl rfl (by first | omega | (unfold lenOk at *; omega)) ?_)
          refine Rg.od rfl rfl rfl (OpT.assign rfl ?_)
          refine Rg.nil ?_
          have hst := sizes_take ts s15 (by omega)
          exact ⟨s15 + 1, ⟨⟨rfl, rfl, rfl, rfl, intSlot (by rw [hst]; omega) rfl, rfl, rfl, rfl, rfl, rfl, rfl, rfl, rfl, trivial⟩, ((x15.trans x23).trans x28), by omega, by rw [hst]; omega⟩, by omega⟩
      · have hp18 := of_decide_eq_false hb18
        refine W.condFb rfl hb18 ?_
        refine W.exit ?_
        refine hK13 _ _ ?_
        refine W.seqK fun K29 hK29 => ?_
        refine W.seqK fun K30 hK30 => ?_
        refine W.region ?_
        refine Rg.od rfl rfl rfl (OpT.move rfl ?_)
        refine Rg.od rfl rfl rfl (OpT.gtr rfl rfl ?_)
        refine Rg.nil ?_
        refine hK30 _ _ ?_
        rcases Bool.eq_false_or_eq_true (decide (12000 < (((sizes (ts.take s15) + s15) : Nat) : Int))) with hb31 | hb31
        · have hp31 := of_decide_eq_true hb31
          refine W.condTb rfl hb31 ?_
          refine W.seqK fun K32 hK32 => ?_
          refine W.region ?_
          refine Rg.od rfl rfl rfl (OpT.call Try.call9 .nil (Runs.mono (works_runs _) ?_))
          rintro _ w33 ⟨rfl, x33⟩
          refine Rg.od rfl rfl rfl (OpT.assign rfl ?_)
          refine Rg.nil ?_
          refine hK32 _ _ ?_
          refine W.ret ?_
          refine ⟨_, Res.one rfl rfl, ?_⟩
          exact ⟨rfl, (((x2.trans x5).trans x15).trans x33)⟩
        · have hp31 := of_decide_eq_false hb31
          refine W.condFb rfl hb31 ?_
          refine W.skip ?_
          refine hK29 _ _ ?_
          refine W.seqK fun K34 hK34 => ?_
          refine W.region ?_
          refine Rg.od rfl rfl rfl (OpT.loadAB Try.isAgg26 Try.sizeOf26 rfl (b2.ext (x5.trans x15)) rfl ?_)
          refine Rg.od rfl rfl rfl (OpT.move rfl ?_)
          refine Rg.od rfl rfl rfl (OpT.call Try.call14 (.cons rfl (.cons rfl .nil)) (Runs.mono (rApply_runs _ _ _ _ _ _ (fun _ => True) (fun k hk => hR k (Nat.le_trans (Nat.le_trans (Nat.le_trans (Nat.le_trans (Nat.le_refl w0.heap.size) x2.size) x5.size) x15.size) hk)) (hf.ext ((x2.trans x5).trans x15)) (hT.ext ((x2.trans x5).trans x15)) (by first | assumption | (unfold lenOk at *; omega))) ?_))
          rintro _ w35 ⟨cs35, rfl, hv35, x35⟩
          obtain ⟨kr35, nr35, sr35, lsr35, tsr35, lar35, lcr35, tar35, tcr35, etr35, rfl, hkr35, hnr35, hsr35, hlr35, htr35, hLr35, hTr35⟩ := hv35.inv
          refine Rg.od rfl rfl rfl (OpT.alloc Try.zeroValue26 fun w36 g36 e36 x36 z36 b36 => ?_)
          replace b36 : Box w36 g36 [.int .u8 0, .int .i64 0, .string (⟨#[]⟩ : ByteArray), .slice none 0 0, .slice none 0 0] := b36
          refine Rg.on rfl rfl (OpT.storeA Try.sizeOf26 rfl rfl rfl rfl b36 rfl fun w37 m37 z37 b37 => ?_)
          replace b37 : Box w37 g36 [.int .u8 kr35, .int .i64 nr35, .string sr35, .slice lar35 lsr35.length lcr35, .slice tar35 tsr35.length tcr35] := b37
          refine Rg.nil ?_
          refine hK34 _ _ ?_
          refine W.seqK fun K38 hK38 => ?_
          refine W.region ?_
          refine Rg.od rfl rfl rfl (OpT.loadAB Try.isAgg26 Try.sizeOf26 rfl ((b2.ext (((x5.trans x15).trans x35).trans x36)).upd m37 (by have h1 := Nat.le_trans (Nat.le_trans (Nat.le_trans (Nat.le_refl w2.heap.size) x5.size) x15.size) x35.size; omega)) rfl ?_)
          refine Rg.od rfl rfl rfl (OpT.move rfl ?_)
          refine Rg.od rfl rfl rfl (OpT.call Try.call15 (.cons rfl (.cons rfl .nil)) (Runs.mono (tApply_runs _ _ _ _ _ _ (fun _ => True) (fun k hk => hR k (Nat.le_trans (Nat.le_trans (Nat.le_trans (Nat.le_trans (Nat.le_trans (Nat.le_trans (Nat.le_trans (Nat.le_refl w0.heap.size) x2.size) x5.size) x15.size) x35.size) x36.size) m37.size) hk)) (hf.ext (((((x2.trans x5).trans x15).trans x35).trans x36).upd m37 (by have h1 := (((x2.trans x5).trans x15).trans x35).size; omega))) (hT.ext (((((x2.trans x5).trans x15).trans x35).trans x36).upd m37 (by have h1 := (((x2.trans x5).trans x15).trans x35).size; omega))) (by first | assumption | (unfold lenOk at *; omega))) ?_))
          rintro _ w39 ⟨cs39, rfl, hv39, x39⟩
          obtain ⟨kr39, nr39, sr39, lsr39, tsr39, lar39, lcr39, tar39, tcr39, etr39, rfl, hkr39, hnr39, hsr39, hlr39, htr39, hLr39, hTr39⟩ := hv39.inv
          refine Rg.od rfl rfl rfl (OpT.alloc Try.zeroValue26 fun w40 g40 e40 x40 z40 b40 => ?_)
          replace b40 : Box w40 g40 [.int .u8 0, .int .i64 0, .string (⟨#[]⟩ : ByteArray), .slice none 0 0, .slice none 0 0] := b40
          refine Rg.on rfl rfl (OpT.storeA Try.sizeOf26 rfl rfl rfl rfl b40 rfl fun w41 m41 z41 b41 => ?_)
          replace b41 : Box w41 g40 [.int .u8 kr39, .int .i64 nr39, .string sr39, .slice lar39 lsr39.length lcr39, .slice tar39 tsr39.length tcr39] := b41
          refine Rg.nil ?_
          refine hK38 _ _ ?_
          refine W.seqK fun K42 hK42 => ?_
          refine W.seqK fun K43 hK43 => ?_
          refine W.region ?_
          refine Rg.od rfl rfl rfl (OpT.loadAB Try.isAgg26 Try.sizeOf26 rfl ((b37.ext (x39.trans x40)).upd m41 (by have h1 := Nat.le_trans (Nat.le_trans (Nat.le_refl w36.heap.size) m37.size) x39.size; omega)) rfl ?_)
          refine Rg.od rfl rfl rfl (OpT.call Try.call13 (.cons rfl .nil) (Runs.mono (rDeep_runs _ _ _ _ (hv35.ext ((((x36.upd m37 (by omega)).trans x39).trans x40).upd m41 (by have h1 := ((x36.upd m37 (by omega)).trans x39).size; omega)))) ?_))
          rintro _ w44 ⟨rfl, x44⟩
          refine Rg.od rfl rfl rfl (OpT.move rfl ?_)
          rcases Bool.eq_false_or_eq_true (isDeep (apT f ts)) with hb45 | hb45
          · have hp45 := hb45
            refine Rg.gn rfl rfl rfl rfl hb45 ?_
            refine Rg.gn rfl rfl rfl rfl hb45 ?_
            refine Rg.gn rfl rfl rfl rfl hb45 ?_
            refine Rg.od rfl rfl rfl (OpT.pickT rfl hb45 rfl ?_)
            refine Rg.nil ?_
            refine hK43 _ _ ?_
            refine W.condTb rfl rfl ?_
            refine W.seqK fun K46 hK46 => ?_
            refine W.region ?_
            refine Rg.od rfl rfl rfl (OpT.loadAB Try.isAgg26 Try.sizeOf26 rfl (b41.ext x44) rfl ?_)
            refine Rg.od rfl rfl rfl (OpT.build (cs := #[.int .u8 0, .int .i64 0, .string (⟨#[]⟩ : ByteArray), .slice none 0 0, .slice none 0 0]) .nil Try.zeroValue26 places26.choose_spec.1 places26.choose_spec.2 (by kernel_rfl) ?_)
            refine Rg.od rfl rfl rfl (OpT.call Try.call17 (.cons rfl (.cons rfl .nil)) (Runs.mono (rSame_runs _ _ _ _ _ _ _ (hv39.ext ((x40.upd m41 (by omega)).trans x44)) (VT.intro (w := w44) (R := (fun _ => True)) (k := 0) (n := 0) (s := (⟨#[]⟩ : ByteArray)) (la := none) (lc := 0) (ta := none) (tc := 0) (ls := []) (ts := []) (by omega) (by unfold i64ok at *; omega) (by first | assumption | decide) ⟨Nat.le_refl 0, by decide⟩ ⟨Nat.le_refl 0, by decide⟩ (SlL.nil _ _ _) (SlT.nil _ _ _))) ?_))
            rintro _ w47 ⟨rfl, x47⟩
            refine Rg.od rfl rfl rfl (OpT.move rfl ?_)
            have hb48 : (sameB (bif mayT (apT f ts) then apT f ts else tZ) (T.mk 0 0 (⟨#[]⟩ : ByteArray) [] [])) = true := (by rw [show mayT (apT f ts) = false from (Bool.eq_false_iff.2 fun h => by rw [may_isDeep h] at hb45; cases hb45)]; exact sameB_refl _)
            refine Rg.gy rfl rfl rfl rfl hb48 (OpT.call Try.call9 .nil (Runs.mono (works_runs _) ?_))
            rintro _ w49 ⟨rfl, x49⟩
            refine Rg.od rfl rfl rfl (OpT.pickT rfl hb48 rfl ?_)
            refine Rg.od rfl rfl rfl (OpT.assign rfl ?_)
            refine Rg.nil ?_
            refine hK46 _ _ ?_
            refine W.ret ?_
            refine ⟨_, Res.one rfl rfl, ?_⟩
            exact ⟨rfl, (((((((((((x2.trans x5).trans x15).trans x35).trans x36).upd m37 (by have h1 := (((x2.trans x5).trans x15).trans x35).size; omega)).trans x39).trans x40).upd m41 (by have h1 := ((((((x2.trans x5).trans x15).trans x35).trans x36).upd m37 (by have h1 := (((x2.trans x5).trans x15).trans x35).size; omega)).trans x39).size; omega)).trans x44).trans x47).trans x49)⟩
          · have hp45 := hb45
            refine Rg.gy rfl rfl rfl rfl hb45 (OpT.loadAB Try.isAgg26 Try.sizeOf26 rfl (((b37.ext (x39.trans x40)).upd m41 (by have h1 := Nat.le_trans (Nat.le_trans (Nat.le_refl w36.heap.size) m37.size) x39.size; omega)).ext x44) rfl ?_)
            refine Rg.gy rfl rfl rfl rfl hb45 (OpT.call Try.call16 (.cons rfl .nil) (Runs.mono (rMay_runs _ _ _ _ (hv35.ext (((((x36.upd m37 (by omega)).trans x39).trans x40).upd m41 (by have h1 := ((x36.upd m37 (by omega)).trans x39).size; omega)).trans x44))) ?_))
            rintro _ w50 ⟨rfl, x50⟩
            refine Rg.gy rfl rfl rfl rfl hb45 (OpT.notB rfl ?_)
            refine Rg.od rfl rfl rfl (OpT.pickF rfl hb45 rfl ?_)
            refine Rg.nil ?_
            refine hK43 _ _ ?_
            rcases Bool.eq_false_or_eq_true (mayT (apT f ts)) with hb51 | hb51
            · have hp51 := hb51
              refine W.condFb rfl (nT hb51) ?_
              refine W.skip ?_
              refine hK42 _ _ ?_
              refine W.seqK fun K52 hK52 => ?_
              refine W.region ?_
              refine Rg.od rfl rfl rfl (OpT.loadAB Try.isAgg26 Try.sizeOf26 rfl (b41.ext (x44.trans x50)) rfl ?_)
              refine Rg.od rfl rfl rfl (OpT.call Try.call18 (.cons rfl .nil) (Runs.mono (by have h := Spine_runs _ _ _ (fun _ => True) (fun k hk => hR k (Nat.le_trans (Nat.le_trans (Nat.le_trans (Nat.le_trans (Nat.le_trans (Nat.le_trans (Nat.le_trans (Nat.le_trans (Nat.le_trans (Nat.le_trans (Nat.le_trans (Nat.le_trans (Nat.le_refl w0.heap.size) x2.size) x5.size) x15.size) x35.size) x36.size) m37.size) x39.size) x40.size) m41.size) x44.size) x50.size) hk)) (hv39.ext (((x40.upd m41 (by omega)).trans x44).trans x50)); simp only [hb51, cond_true, head_apT, spArgs_apT] at h; exact h) ?_))
              rintro _ w53 ⟨cs53, A53, c53, rfl, hv53, hT53, hl53, x53⟩
              obtain ⟨kr53, nr53, sr53, lsr53, tsr53, lar53, lcr53, tar53, tcr53, etr53, rfl, hkr53, hnr53, hsr53, hlr53, htr53, hLr53, hTr53⟩ := hv53.inv
              refine Rg.od rfl rfl rfl (OpT.move rfl ?_)
              refine Rg.od rfl rfl rfl (OpT.extract rfl rfl ?_)
              refine Rg.od rfl rfl rfl (OpT.extract rfl rfl ?_)
              refine Rg.od rfl rfl rfl (OpT.alloc Try.zeroValue26 fun w54 g54 e54 x54 z54 b54 => ?_)
              replace b54 : Box w54 g54 [.int .u8 0, .int .i64 0, .string (⟨#[]⟩ : ByteArray), .slice none 0 0, .slice none 0 0] := b54
              refine Rg.on rfl rfl (OpT.storeA Try.sizeOf26 rfl rfl rfl rfl b54 rfl fun w55 m55 z55 b55 => ?_)
              replace b55 : Box w55 g54 [.int .u8 kr53, .int .i64 nr53, .string sr53, .slice lar53 lsr53.length lcr53, .slice tar53 tsr53.length tcr53] := b55
              refine Rg.od rfl rfl rfl (OpT.assign rfl ?_)
              refine Rg.nil ?_
              refine hK52 _ _ ?_
              refine W.seqK fun K56 hK56 => ?_
              refine W.region ?_
              refine Rg.od rfl rfl rfl (OpT.loadAB Try.isAgg26 Try.sizeOf26 rfl ((((((b2.ext (((x5.trans x15).trans x35).trans x36)).upd m37 (by have h1 := Nat.le_trans (Nat.le_trans (Nat.le_trans (Nat.le_refl w2.heap.size) x5.size) x15.size) x35.size; omega)).ext (x39.trans x40)).upd m41 (by have h1 := Nat.le_trans (Nat.le_trans (Nat.le_trans (Nat.le_trans (Nat.le_trans (Nat.le_trans (Nat.le_refl w2.heap.size) x5.size) x15.size) x35.size) x36.size) m37.size) x39.size; omega)).ext (((x44.trans x50).trans x53).trans x54)).upd m55 (by have h1 := Nat.le_trans (Nat.le_trans (Nat.le_trans (Nat.le_trans (Nat.le_trans (Nat.le_trans (Nat.le_trans (Nat.le_trans (Nat.le_trans (Nat.le_trans (Nat.le_trans (Nat.le_refl w2.heap.size) x5.size) x15.size) x35.size) x36.size) m37.size) x39.size) x40.size) m41.size) x44.size) x50.size) x53.size; omega)) rfl ?_)
              have hmf : mayT f = true := may_apT f ts hb51
              refine Rg.od rfl rfl rfl (OpT.call Try.call18 (.cons rfl .nil) (Runs.mono (by have h := Spine_runs _ _ _ (fun _ => True) (fun k hk => hR k (Nat.le_trans (Nat.le_trans (Nat.le_trans (Nat.le_trans (Nat.le_trans (Nat.le_trans (Nat.le_trans (Nat.le_trans (Nat.le_trans (Nat.le_trans (Nat.le_trans (Nat.le_trans (Nat.le_trans (Nat.le_trans (Nat.le_trans (Nat.le_refl w0.heap.size) x2.size) x5.size) x15.size) x35.size) x36.size) m37.size) x39.size) x40.size) m41.size) x44.size) x50.size) x53.size) x54.size) m55.size) hk)) (hf.ext (((((((((((((x2.trans x5).trans x15).trans x35).trans x36).upd m37 (by have h1 := (((x2.trans x5).trans x15).trans x35).size; omega)).trans x39).trans x40).upd m41 (by have h1 := ((((((x2.trans x5).trans x15).trans x35).trans x36).upd m37 (by have h1 := (((x2.trans x5).trans x15).trans x35).size; omega)).trans x39).size; omega)).trans x44).trans x50).trans x53).trans x54).upd m55 (by have h1 := (((((((((((x2.trans x5).trans x15).trans x35).trans x36).upd m37 (by have h1 := (((x2.trans x5).trans x15).trans x35).size; omega)).trans x39).trans x40).upd m41 (by have h1 := ((((((x2.trans x5).trans x15).trans x35).trans x36).upd m37 (by have h1 := (((x2.trans x5).trans x15).trans x35).size; omega)).trans x39).size; omega)).trans x44).trans x50).trans x53).size; omega))); simp only [hmf, cond_true] at h; exact h) ?_))
              rintro _ w57 ⟨cs57, A57, c57, rfl, hv57, hT57, hl57, x57⟩
              obtain ⟨kr57, nr57, sr57, lsr57, tsr57, lar57, lcr57, tar57, tcr57, etr57, rfl, hkr57, hnr57, hsr57, hlr57, htr57, hLr57, hTr57⟩ := hv57.inv
              refine Rg.od rfl rfl rfl (OpT.move rfl ?_)
              refine Rg.od rfl rfl rfl (OpT.extract rfl rfl ?_)
              refine Rg.od rfl rfl rfl (OpT.extract rfl rfl ?_)
              refine Rg.od rfl rfl rfl (OpT.alloc Try.zeroValue26 fun w58 g58 e58 x58 z58 b58 => ?_)
              replace b58 : Box w58 g58 [.int .u8 0, .int .i64 0, .string (⟨#[]⟩ : ByteArray), .slice none 0 0, .slice none 0 0] := b58
              refine Rg.on rfl rfl (OpT.storeA Try.sizeOf26 rfl rfl rfl rfl b58 rfl fun w59 m59 z59 b59 => ?_)
              replace b59 : Box w59 g58 [.int .u8 kr57, .int .i64 nr57, .string sr57, .slice lar57 lsr57.length lcr57, .slice tar57 tsr57.length tcr57] := b59
              refine Rg.od rfl rfl rfl (OpT.assign rfl ?_)
              refine Rg.nil ?_
              refine hK56 _ _ ?_
              refine W.seqK fun K60 hK60 => ?_
              refine W.seqK fun K61 hK61 => ?_
              refine W.region ?_
              refine Rg.od rfl rfl rfl (OpT.loadAB Try.isAgg26 Try.sizeOf26 rfl ((((b41.ext (((x44.trans x50).trans x53).trans x54)).upd m55 (by have h1 := Nat.le_trans (Nat.le_trans (Nat.le_trans (Nat.le_trans (Nat.le_refl w40.heap.size) m41.size) x44.size) x50.size) x53.size; omega)).ext (x57.trans x58)).upd m59 (by have h1 := Nat.le_trans (Nat.le_trans (Nat.le_trans (Nat.le_trans (Nat.le_trans (Nat.le_trans (Nat.le_trans (Nat.le_refl w40.heap.size) m41.size) x44.size) x50.size) x53.size) x54.size) m55.size) x57.size; omega)) rfl ?_)
              refine Rg.od rfl rfl rfl (OpT.loadAB Try.isAgg26 Try.sizeOf26 rfl ((((((b37.ext (x39.trans x40)).upd m41 (by have h1 := Nat.le_trans (Nat.le_trans (Nat.le_refl w36.heap.size) m37.size) x39.size; omega)).ext (((x44.trans x50).trans x53).trans x54)).upd m55 (by have h1 := Nat.le_trans (Nat.le_trans (Nat.le_trans (Nat.le_trans (Nat.le_trans (Nat.le_trans (Nat.le_trans (Nat.le_refl w36.heap.size) m37.size) x39.size) x40.size) m41.size) x44.size) x50.size) x53.size; omega)).ext (x57.trans x58)).upd m59 (by have h1 := Nat.le_trans (Nat.le_trans (Nat.le_trans (Nat.le_trans (Nat.le_trans (Nat.le_trans (Nat.le_trans (Nat.le_trans (Nat.le_trans (Nat.le_trans (Nat.le_refl w36.heap.size) m37.size) x39.size) x40.size) m41.size) x44.size) x50.size) x53.size) x54.size) m55.size) x57.size; omega)) rfl ?_)
              refine Rg.od rfl rfl rfl (OpT.call Try.call17 (.cons rfl (.cons rfl .nil)) (Runs.mono (rSame_runs _ _ _ _ _ _ _ (hv39.ext (((((((((x40.upd m41 (by omega)).trans x44).trans x50).trans x53).trans x54).upd m55 (by have h1 := ((((x40.upd m41 (by omega)).trans x44).trans x50).trans x53).size; omega)).trans x57).trans x58).upd m59 (by have h1 := (((((((x40.upd m41 (by omega)).trans x44).trans x50).trans x53).trans x54).upd m55 (by have h1 := ((((x40.upd m41 (by omega)).trans x44).trans x50).trans x53).size; omega)).trans x57).size; omega))) (hv35.ext ((((((((((((x36.upd m37 (by omega)).trans x39).trans x40).upd m41 (by have h1 := ((x36.upd m37 (by omega)).trans x39).size; omega)).trans x44).trans x50).trans x53).trans x54).upd m55 (by have h1 := (((((((x36.upd m37 (by omega)).trans x39).trans x40).upd m41 (by have h1 := ((x36.upd m37 (by omega)).trans x39).size; omega)).trans x44).trans x50).trans x53).size; omega)).trans x57).trans x58).upd m59 (by have h1 := ((((((((((x36.upd m37 (by omega)).trans x39).trans x40).upd m41 (by have h1 := ((x36.upd m37 (by omega)).trans x39).size; omega)).trans x44).trans x50).trans x53).trans x54).upd m55 (by have h1 := (((((((x36.upd m37 (by omega)).trans x39).trans x40).upd m41 (by have h1 := ((x36.upd m37 (by omega)).trans x39).size; omega)).trans x44).trans x50).trans x53).size; omega)).trans x57).size; omega)))) ?_))
              rintro _ w62 ⟨rfl, x62⟩
              refine Rg.od rfl rfl rfl (OpT.notB rfl ?_)
              refine Rg.od rfl rfl rfl (OpT.move rfl ?_)
              have hb63 : (sameB (bif mayT (apT f ts) then apT f ts else tZ) (apT f ts)) = true := (by rw [hb51]; exact sameB_refl _)
              refine Rg.gy rfl rfl rfl rfl (nT hb63) (OpT.loadAB Try.isAgg26 Try.sizeOf26 rfl (((b55.ext (x57.trans x58)).upd m59 (by have h1 := Nat.le_trans (Nat.le_trans (Nat.le_refl w54.heap.size) m55.size) x57.size; omega)).ext x62) rfl ?_)
              refine Rg.gy rfl rfl rfl rfl (nT hb63) (OpT.loadAB Try.isAgg26 Try.sizeOf26 rfl (b59.ext x62) rfl ?_)
              refine Rg.gy rfl rfl rfl rfl (nT hb63) (OpT.call Try.call17 (.cons rfl (.cons rfl .nil)) (Runs.mono (rSame_runs _ _ _ _ _ _ _ (hv53.ext (((((x54.upd m55 (by omega)).trans x57).trans x58).upd m59 (by have h1 := ((x54.upd m55 (by omega)).trans x57).size; omega)).trans x62)) (hv57.ext ((x58.upd m59 (by omega)).trans x62))) ?_))
              rintro _ w64 ⟨rfl, x64⟩
              refine Rg.gy rfl rfl rfl rfl (nT hb63) (OpT.notB rfl ?_)
              refine Rg.od rfl rfl rfl (OpT.pickF rfl (nT hb63) rfl ?_)
              refine Rg.od rfl rfl rfl (OpT.move rfl ?_)
              have hb65 : (sameB (head f) (head f)) = true := sameB_refl _
              refine Rg.gy rfl rfl rfl rfl (nT hb65) (OpT.move rfl ?_)
              refine Rg.gy rfl rfl rfl rfl (nT hb65) (OpT.lenS Try.underlying24 rfl ?_)
              refine Rg.gy rfl rfl rfl rfl (nT hb65) (OpT.move rfl ?_)
              refine Rg.gy rfl rfl rfl rfl (nT hb65) (OpT.lenS Try.underlying24 rfl ?_)
              refine Rg.gy rfl rfl rfl rfl (nT hb65) (OpT.move rfl ?_)
              refine Rg.gy rfl rfl rfl rfl (nT hb65) (OpT.lenS Try.underlying24 rfl ?_)
              refine Rg.gy rfl rfl rfl rfl (nT hb65) (OpT.add rfl rfl (by first | omega | (unfold lenOk at *; omega)) ?_)
              refine Rg.gy rfl rfl rfl rfl (nT hb65) (OpT.neqI rfl rfl ?_)
              refine Rg.od rfl rfl rfl (OpT.pickF rfl (nT hb65) rfl ?_)
              refine Rg.od rfl rfl rfl (OpT.move rfl ?_)
              have hb66 : (decide ((((spArgs f ++ ts).length : Nat) : Int) = ((((spArgs f).length : Nat) : Int) + ((ts.length : Nat) : Int)))) = true := (decide_eq_true (by rw [List.length_append]; omega))
              refine Rg.gy rfl rfl rfl rfl (nT hb66) (OpT.fieldAddrB (off := 0) Try.underlying26 rfl Try.sizeOf5 rfl rfl ?_)
              refine Rg.gy rfl rfl rfl rfl (nT hb66) (OpT.loadB Try.isAgg5 rfl (((b55.ext (x57.trans x58)).upd m59 (by have h1 := Nat.le_trans (Nat.le_trans (Nat.le_refl w54.heap.size) m55.size) x57.size; omega)).ext (x62.trans x64)) rfl ?_)
              refine Rg.gy rfl rfl rfl rfl (nT hb66) (OpT.eqlI rfl rfl ?_)
              refine Rg.od rfl rfl rfl (OpT.pickF rfl (nT hb66) rfl ?_)
              refine Rg.nil ?_
              refine hK61 _ _ ?_
              have hb67 : (decide (kr53 = 4)) = false := (decide_eq_false (fun h => head_kind f (may_nodes hmf) (by rw [etr53]; exact h)))
              refine W.condFb rfl hb67 ?_
              refine W.skip ?_
              refine hK60 _ _ ?_
              refine W.seqK fun K68 hK68 => ?_
              refine W.seqK fun K69 hK69 => ?_
              refine W.region ?_
              refine Rg.od rfl rfl rfl (OpT.assign rfl ?_)
              refine Rg.nil ?_
              refine hK69 _ _ ?_
              refine W.block ?_
              refine W.loop (σ := Nat) (fun q e w' => Sub [(0, .agg ([.int .u8 kf, .int .i64 nf, .string sf, .slice laf lsf.length lcf, .slice taf tsf.length tcf].toArray)), (1, .slice ta ts.length tc), (2, .pointer (some ⟨g2, 0, none⟩)), (4, .bool false), (5, .int .i64 (((sizes (ts.take s15) + s15) : Nat) : Int)), (6, .int .i64 ((s15 : Nat) : Int)), (7, .pointer (some ⟨g36, 0, none⟩)), (8, .pointer (some ⟨g40, 0, none⟩)), (9, .pointer (some ⟨g54, 0, none⟩)), (10, .slice A53 ((spArgs f ++ ts).length) c53), (11, .pointer (some ⟨g58, 0, none⟩)), (12, .slice A57 ((spArgs f).length) c57), (13, .int .i64 ((q : Nat) : Int)), (15, .agg ([.int .u8 kf, .int .i64 nf, .string sf, .slice laf lsf.length lcf, .slice taf tsf.length tcf].toArray)), (16, .bool (isDeep f)), (17, .bool (isDeep f)), (18, .slice ta ts.length tc), (19, .int .i64 ((ts.length : Nat) : Int)), (20, .bool (decide (40 < ((ts.length : Nat) : Int)))), (21, .bool (decide (40 < ((ts.length : Nat) : Int)))), (23, .int .i64 ((s15 : Nat) : Int)), (24, .slice ta ts.length tc), (25, .int .i64 ((ts.length : Nat) : Int)), (26, .bool (decide (((s15 : Nat) : Int) < ((ts.length : Nat) : Int)))), (43, .int .i64 (((sizes (ts.take s15) + s15) : Nat) : Int)), (44, .bool (decide (12000 < (((sizes (ts.take s15) + s15) : Nat) : Int)))), (46, .agg ([.int .u8 kf, .int .i64 nf, .string sf, .slice laf lsf.length lcf, .slice taf tsf.length tcf].toArray)), (47, .slice ta ts.length tc), (48, .agg ([.int .u8 kr35, .int .i64 nr35, .string sr35, .slice lar35 lsr35.length lcr35, .slice tar35 tsr35.length tcr35].toArray)), (49, .agg ([.int .u8 kf, .int .i64 nf, .string sf, .slice laf lsf.length lcf, .slice taf tsf.length tcf].toArray)), (50, .slice ta ts.length tc), (51, .agg ([.int .u8 kr39, .int .i64 nr39, .string sr39, .slice lar39 lsr39.length lcr39, .slice tar39 tsr39.length tcr39].toArray)), (52, .agg ([.int .u8 kr35, .int .i64 nr35, .string sr35, .slice lar35 lsr35.length lcr35, .slice tar35 tsr35.length tcr35].toArray)), (53, .bool (isDeep (apT f ts))), (54, .bool (isDeep (apT f ts))), (55, .agg ([.int .u8 kr35, .int .i64 nr35, .string sr35, .slice lar35 lsr35.length lcr35, .slice tar35 tsr35.length tcr35].toArray)), (56, .bool (mayT (apT f ts))), (57, .bool (!(mayT (apT f ts)))), (58, .bool (!(mayT (apT f ts)))), (65, .tuple #[.agg ([.int .u8 kr53, .int .i64 nr53, .string sr53, .slice lar53 lsr53.length lcr53, .slice tar53 tsr53.length tcr53].toArray), .slice A53 ((spArgs f ++ ts).length) c53]), (66, .agg ([.int .u8 kr39, .int .i64 nr39, .string sr39, .slice lar39 lsr39.length lcr39, .slice tar39 tsr39.length tcr39].toArray)), (67, .tuple #[.agg ([.int .u8 kr53, .int .i64 nr53, .string sr53, .slice lar53 lsr53.length lcr53, .slice tar53 tsr53.length tcr53].toArray), .slice A53 ((spArgs f ++ ts).length) c53]), (68, .agg ([.int .u8 kr53, .int .i64 nr53, .string sr53, .slice lar53 lsr53.length lcr53, .slice tar53 tsr53.length tcr53].toArray)), (69, .slice A53 ((spArgs f ++ ts).length) c53), (70, .tuple #[.agg ([.int .u8 kr57, .int .i64 nr57, .string sr57, .slice lar57 lsr57.length lcr57, .slice tar57 tsr57.length tcr57].toArray), .slice A57 ((spArgs f).length) c57]), (71, .agg ([.int .u8 kf, .int .i64 nf, .string sf, .slice laf lsf.length lcf, .slice taf tsf.length tcf].toArray)), (72, .tuple #[.agg ([.int .u8 kr57, .int .i64 nr57, .string sr57, .slice lar57 lsr57.length lcr57, .slice tar57 tsr57.length tcr57].toArray), .slice A57 ((spArgs f).length) c57]), (73, .agg ([.int .u8 kr57, .int .i64 nr57, .string sr57, .slice lar57 lsr57.length lcr57, .slice tar57 tsr57.length tcr57].toArray)), (74, .slice A57 ((spArgs f).length) c57), (75, .agg ([.int .u8 kr39, .int .i64 nr39, .string sr39, .slice lar39 lsr39.length lcr39, .slice tar39 tsr39.length tcr39].toArray)), (76, .agg ([.int .u8 kr35, .int .i64 nr35, .string sr35, .slice lar35 lsr35.length lcr35, .slice tar35 tsr35.length tcr35].toArray)), (77, .bool (sameB (bif mayT (apT f ts) then apT f ts else tZ) (apT f ts))), (78, .bool (!(sameB (bif mayT (apT f ts) then apT f ts else tZ) (apT f ts)))), (79, .bool (!(sameB (bif mayT (apT f ts) then apT f ts else tZ) (apT f ts)))), (80, .agg ([.int .u8 kr53, .int .i64 nr53, .string sr53, .slice lar53 lsr53.length lcr53, .slice tar53 tsr53.length tcr53].toArray)), (81, .agg ([.int .u8 kr57, .int .i64 nr57, .string sr57, .slice lar57 lsr57.length lcr57, .slice tar57 tsr57.length tcr57].toArray)), (82, .bool (sameB (head f) (head f))), (83, .bool (!(sameB (head f) (head f)))), (84, .bool (!(sameB (head f) (head f)))), (85, .bool (!(sameB (head f) (head f)))), (86, .slice A53 ((spArgs f ++ ts).length) c53), (87, .int .i64 (((spArgs f ++ ts).length : Nat) : Int)), (88, .slice A57 ((spArgs f).length) c57), (89, .int .i64 (((spArgs f).length : Nat) : Int)), (90, .slice ta ts.length tc), (91, .int .i64 ((ts.length : Nat) : Int)), (92, .int .i64 ((((spArgs f).length : Nat) : Int) + ((ts.length : Nat) : Int))), (93, .bool (!decide ((((spArgs f ++ ts).length : Nat) : Int) = ((((spArgs f).length : Nat) : Int) + ((ts.length : Nat) : Int))))), (94, .bool (!decide ((((spArgs f ++ ts).length : Nat) : Int) = ((((spArgs f).length : Nat) : Int) + ((ts.length : Nat) : Int))))), (95, .bool (!decide ((((spArgs f ++ ts).length : Nat) : Int) = ((((spArgs f).length : Nat) : Int) + ((ts.length : Nat) : Int))))), (96, .pointer (some ⟨g54, 0, none⟩)), (97, .int .u8 kr53), (98, .bool (decide (kr53 = 4))), (99, .bool (decide (kr53 = 4)))] e ∧ Ext w64 w' ∧ q ≤ (spArgs f ++ ts).length) (fun q => (spArgs f ++ ts).length - q) 0
                ⟨⟨rfl, rfl, rfl, rfl, rfl, rfl, rfl, rfl, rfl, rfl, rfl, rfl, rfl, rfl, rfl, rfl, rfl, rfl, rfl, rfl, rfl, rfl, rfl, rfl, rfl, rfl, rfl, rfl, rfl, rfl, rfl, rfl, rfl, rfl, rfl, rfl, rfl, rfl, rfl, rfl, rfl, rfl, rfl, rfl, rfl, rfl, rfl, rfl, rfl, rfl, rfl, rfl, rfl, rfl, rfl, rfl, rfl, rfl, rfl, rfl, rfl, rfl, rfl, rfl, rfl, rfl, rfl, rfl, rfl, rfl, rfl, rfl, rfl, rfl, trivial⟩, Mod.refl _ _, Nat.zero_le _⟩ ?_
              rintro s70 en70 w70 ⟨hs70, x70, hi70_0⟩
              refine W.sub hs70 ?_
              refine W.seqK fun K71 hK71 => ?_
              refine W.seqK fun K72 hK72 => ?_
              refine W.region ?_
              refine Rg.od rfl rfl rfl (OpT.move rfl ?_)
              refine Rg.od rfl rfl rfl (OpT.move rfl ?_)
              refine Rg.od rfl rfl rfl (OpT.lenS Try.underlying24 rfl ?_)
              refine Rg.od rfl rfl rfl (OpT.lss rfl rfl ?_)
              refine Rg.nil ?_
              refine hK72 _ _ ?_
              rcases Bool.eq_false_or_eq_true (decide (((s70 : Nat) : Int) < (((spArgs f ++ ts).length : Nat) : Int))) with hb73 | hb73
              · have hp73 := of_decide_eq_true hb73
                refine W.condTb rfl hb73 ?_
                refine W.skip ?_
                refine hK71 _ _ ?_
                refine W.seqK fun K74 hK74 => ?_
                refine W.block ?_
                refine W.seqK fun K75 hK75 => ?_
                refine W.region ?_
                refine Rg.od rfl rfl rfl (OpT.build (cs := #[.int .u8 0, .int .i64 0, .string (⟨#[]⟩ : ByteArray), .slice none 0 0, .slice none 0 0]) .nil Try.zeroValue26 places26.choose_spec.1 places26.choose_spec.2 (by kernel_rfl) ?_)
                refine Rg.od rfl rfl rfl (OpT.alloc Try.zeroValue26 fun w76 g76 e76 x76 z76 b76 => ?_)
                replace b76 : Box w76 g76 [.int .u8 0, .int .i64 0, .string (⟨#[]⟩ : ByteArray), .slice none 0 0, .slice none 0 0] := b76
                refine Rg.on rfl rfl (OpT.storeA Try.sizeOf26 rfl rfl rfl rfl b76 rfl fun w77 m77 z77 b77 => ?_)
                replace b77 : Box w77 g76 [.int .u8 0, .int .i64 0, .string (⟨#[]⟩ : ByteArray), .slice none 0 0, .slice none 0 0] := b77
                refine Rg.nil ?_
                refine hK75 _ _ ?_
                refine W.seqK fun K78 hK78 => ?_
                refine W.seqK fun K79 hK79 => ?_
                refine W.region ?_
                refine Rg.od rfl rfl rfl (OpT.move rfl ?_)
                refine Rg.od rfl rfl rfl (OpT.move rfl ?_)
                refine Rg.od rfl rfl rfl (OpT.lenS Try.underlying24 rfl ?_)
                refine Rg.od rfl rfl rfl (OpT.lss rfl rfl ?_)
                refine Rg.nil ?_
                refine hK79 _ _ ?_
                rcases Bool.eq_false_or_eq_true (decide (((s70 : Nat) : Int) < (((spArgs f).length : Nat) : Int))) with hb80 | hb80
                · have hp80 := of_decide_eq_true hb80
                  refine W.condTb rfl hb80 ?_
                  refine W.region ?_
                  refine Rg.od rfl rfl rfl (OpT.move rfl ?_)
                  refine Rg.od rfl rfl rfl (OpT.move rfl ?_)
                  obtain ⟨a81, cs81, ha81, hr81, hw81, hv81⟩ := hT57.at (i := s70) (by first | omega | (unfold lenOk at *; omega))
                  obtain ⟨k81, n81, s81, ls81, ts81, la81, lc81, ta81, tc81, et81, rfl, hk81, hn81, hs81, hl81, ht81, hL81, hT81⟩ := hv81.inv
                  refine Rg.od rfl rfl rfl (OpT.indexAddr Try.underlying24 Try.sizeOf26 rfl rfl ha81 (by first | omega | (unfold lenOk at *; omega)) ?_)
                  refine Rg.od rfl rfl rfl (OpT.loadA (cs := [.int .u8 k81, .int .i64 n81, .string s81, .slice la81 ls81.length lc81, .slice ta81 ts81.length tc81]) Try.isAgg26 Try.sizeOf26 rfl (hw81.ext ((((((x58.upd m59 (by omega)).trans x62).trans x64).trans x70).trans x76).upd m77 (by have h1 := ((((x58.upd m59 (by omega)).trans x62).trans x64).trans x70).size; omega))) ?_)
                  refine Rg.on rfl rfl (OpT.storeA Try.sizeOf26 rfl rfl rfl rfl b77 rfl fun w82 m82 z82 b82 => ?_)
                  replace b82 : Box w82 g76 [.int .u8 k81, .int .i64 n81, .string s81, .slice la81 ls81.length lc81, .slice ta81 ts81.length tc81] := b82
                  refine Rg.nil ?_
                  refine hK78 _ _ ?_
                  refine W.seqK fun K83 hK83 => ?_
                  obtain ⟨a89, cs89, ha89, hr89, hw89, hv89⟩ := hT53.at (i := s70) (by first | omega | (unfold lenOk at *; omega))
                  obtain ⟨k89, n89, s89, ls89, ts89, la89, lc89, ta89, tc89, et89, rfl, hk89, hn89, hs89, hl89, ht89, hL89, hT89⟩ := hv89.inv
                  refine W.drawE 7 [.ex (.slice A53 ((spArgs f ++ ts).length) c53), .ex (.int .i64 ((s70 : Nat) : Int)), .ex (.pointer (some (a89.add (s70 * 5)))), .ex (.agg ([.int .u8 k89, .int .i64 n89, .string s89, .slice la89 ls89.length lc89, .slice ta89 ts89.length tc89].toArray)), .ex (.agg ([.int .u8 k81, .int .i64 n81, .string s81, .slice la81 ls81.length lc81, .slice ta81 ts81.length tc81].toArray)), .ex (.bool (sameB ((spArgs f ++ ts)[s70]) ((spArgs f)[s70]))), .ex (.bool (!(sameB ((spArgs f ++ ts)[s70]) ((spArgs f)[s70]))))] mixed rfl rfl rfl ⟨trivial, trivial, trivial, trivial, trivial, trivial, trivial, trivial⟩ ?_ ?_
                  · refine ⟨?_, ?_, ?_, ?_, ?_, ?_, ?_, trivial⟩
                    · intro w' hx _
                      exact OpT.move rfl VS.ok
                    · intro w' hx _
                      exact OpT.move rfl VS.ok
                    · intro w' hx _
                      exact OpT.indexAddr Try.underlying24 Try.sizeOf26 rfl rfl ha89 (by first | omega | (unfold lenOk at *; omega)) VS.ok
                    · intro w' hx _
                      exact OpT.loadA (cs := [.int .u8 k89, .int .i64 n89, .string s89, .slice la89 ls89.length lc89, .slice ta89 ts89.length tc89]) Try.isAgg26 Try.sizeOf26 rfl (hw89.ext (((((((((((x54.upd m55 (by omega)).trans x57).trans x58).upd m59 (by have h1 := ((x54.upd m55 (by omega)).trans x57).size; omega)).trans x62).trans x64).trans x70).trans x76).upd m77 (by have h1 := (((((((x54.upd m55 (by omega)).trans x57).trans x58).upd m59 (by have h1 := ((x54.upd m55 (by omega)).trans x57).size; omega)).trans x62).trans x64).trans x70).size; omega)).upd m82 (by have h1 := (((((((x54.upd m55 (by omega)).trans x57).trans x58).upd m59 (by have h1 := ((x54.upd m55 (by omega)).trans x57).size; omega)).trans x62).trans x64).trans x70).size; omega)).trans hx)) VS.ok
                    · intro w' hx _
                      exact OpT.loadAB Try.isAgg26 Try.sizeOf26 rfl (b82.ext hx) rfl VS.ok
                    · intro w' hx _
                      exact OpT.call Try.call17 (.cons rfl (.cons rfl .nil)) (Runs.mono (rSame_runs _ _ _ _ _ _ _ (hv89.ext (((((((((((x54.upd m55 (by omega)).trans x57).trans x58).upd m59 (by have h1 := ((x54.upd m55 (by omega)).trans x57).size; omega)).trans x62).trans x64).trans x70).trans x76).upd m77 (by have h1 := (((((((x54.upd m55 (by omega)).trans x57).trans x58).upd m59 (by have h1 := ((x54.upd m55 (by omega)).trans x57).size; omega)).trans x62).trans x64).trans x70).size; omega)).upd m82 (by have h1 := (((((((x54.upd m55 (by omega)).trans x57).trans x58).upd m59 (by have h1 := ((x54.upd m55 (by omega)).trans x57).size; omega)).trans x62).trans x64).trans x70).size; omega)).trans hx)) (hv81.ext ((((((((x58.upd m59 (by omega)).trans x62).trans x64).trans x70).trans x76).upd m77 (by have h1 := ((((x58.upd m59 (by omega)).trans x62).trans x64).trans x70).size; omega)).upd m82 (by have h1 := ((((x58.upd m59 (by omega)).trans x62).trans x64).trans x70).size; omega)).trans hx))) fun v w h => VS.okx h.1 h.2)
                    · intro w' hx _
                      exact OpT.notB rfl VS.ok
                  · intro w85 x85
                    refine hK83 _ _ ?_
                    have hb94 : (sameB ((spArgs f ++ ts)[s70]) ((spArgs f)[s70])) = true := ((sameB_iff _ _).2 (by first | (rw [List.getElem_append_left (by omega)]) | (rw [List.getElem_append_right (by omega)]; congr 1; omega)))
                    refine W.condFb rfl (nT hb94) ?_
                    refine W.skip ?_
                    refine hK74 _ _ ?_
                    refine W.region ?_
                    refine Rg.od rfl rfl rfl (OpT.move rfl ?_)
                    refine Rg.od rfl rfl rfl (OpT.add rfl rfl (by first | omega | (unfold lenOk at *; omega)) ?_)
                    refine Rg.od rfl rfl rfl (OpT.assign rfl ?_)
                    refine Rg.nil ?_
                    exact ⟨s70 + 1, ⟨⟨rfl, rfl, rfl, rfl, rfl, rfl, rfl, rfl, rfl, rfl, rfl, rfl, rfl, rfl, rfl, rfl, rfl, rfl, rfl, rfl, rfl, rfl, rfl, rfl, rfl, rfl, rfl, rfl, rfl, rfl, rfl, rfl, rfl, rfl, rfl, rfl, rfl, rfl, rfl, rfl, rfl, rfl, rfl, rfl, rfl, rfl, rfl, rfl, rfl, rfl, rfl, rfl, rfl, rfl, rfl, rfl, rfl, rfl, rfl, rfl, rfl, rfl, rfl, rfl, rfl, rfl, rfl, rfl, rfl, rfl, rfl, rfl, rfl, rfl, trivial⟩, ((((x70.trans x76).upd m77 (by have h1 := x70.size; omega)).upd m82 (by have h1 := x70.size; omega)).trans x85), by omega⟩, by omega⟩
                · have hp80 := of_decide_eq_false hb80
                  refine W.condFb rfl hb80 ?_
                  refine W.region ?_
                  refine Rg.od rfl rfl rfl (OpT.move rfl ?_)
                  refine Rg.od rfl rfl rfl (OpT.move rfl ?_)
                  refine Rg.od rfl rfl rfl (OpT.move rfl ?_)
                  refine Rg.od rfl rfl rfl (OpT.lenS Try.underlying24 rfl ?_)
                  refine Rg.od rfl rfl rfl (OpT.sub rfl rfl (by first | omega | (unfold lenOk at *; omega)) ?_)
                  obtain ⟨a95, cs95, ha95, hr95, hw95, hv95⟩ := hT.at (i := ((((s70 : Nat) : Int) - (((spArgs f).length : Nat) : Int))).toNat) (by first | omega | (unfold lenOk at *; omega))
                  obtain ⟨k95, n95, s95, ls95, ts95, la95, lc95, ta95, tc95, et95, rfl, hk95, hn95, hs95, hl95, ht95, hL95, hT95⟩ := hv95.inv
                  refine Rg.od rfl rfl rfl (OpT.indexAddr Try.underlying24 Try.sizeOf26 rfl rfl ha95 (by first | omega | (unfold lenOk at *; omega)) ?_)
                  refine Rg.od rfl rfl rfl (OpT.loadA (cs := [.int .u8 k95, .int .i64 n95, .string s95, .slice la95 ls95.length lc95, .slice ta95 ts95.length tc95]) Try.isAgg26 Try.sizeOf26 rfl (hw95.ext (((((((((((((((((((((x2.trans x5).trans x15).trans x35).trans x36).upd m37 (by have h1 := (((x2.trans x5).trans x15).trans x35).size; omega)).trans x39).trans x40).upd m41 (by have h1 := ((((((x2.trans x5).trans x15).trans x35).trans x36).upd m37 (by have h1 := (((x2.trans x5).trans x15).trans x35).size; omega)).trans x39).size; omega)).trans x44).trans x50).trans x53).trans x54).upd m55 (by have h1 := (((((((((((x2.trans x5).trans x15).trans x35).trans x36).upd m37 (by have h1 := (((x2.trans x5).trans x15).trans x35).size; omega)).trans x39).trans x40).upd m41 (by have h1 := ((((((x2.trans x5).trans x15).trans x35).trans x36).upd m37 (by have h1 := (((x2.trans x5).trans x15).trans x35).size; omega)).trans x39).size; omega)).trans x44).trans x50).trans x53).size; omega)).trans x57).trans x58).upd m59 (by have h1 := ((((((((((((((x2.trans x5).trans x15).trans x35).trans x36).upd m37 (by have h1 := (((x2.trans x5).trans x15).trans x35).size; omega)).trans x39).trans x40).upd m41 (by have h1 := ((((((x2.trans x5).trans x15).trans x35).trans x36).upd m37 (by have h1 := (((x2.trans x5).trans x15).trans x35).size; omega)).trans x39).size; omega)).trans x44).trans x50).trans x53).trans x54).upd m55 (by have h1 := (((((((((((x2.trans x5).trans x15).trans x35).trans x36).upd m37 (by have h1 := (((x2.trans x5).trans x15).trans x35).size; omega)).trans x39).trans x40).upd m41 (by have h1 := ((((((x2.trans x5).trans x15).trans x35).trans x36).upd m37 (by have h1 := (((x2.trans x5).trans x15).trans x35).size; omega)).trans x39).size; omega)).trans x44).trans x50).trans x53).size; omega)).trans x57).size; omega)).trans x62).trans x64).trans x70).trans x76).upd m77 (by have h1 := (((((((((((((((((((x2.trans x5).trans x15).trans x35).trans x36).upd m37 (by have h1 := (((x2.trans x5).trans x15).trans x35).size; omega)).trans x39).trans x40).upd m41 (by have h1 := ((((((x2.trans x5).trans x15).trans x35).trans x36).upd m37 (by have h1 := (((x2.trans x5).trans x15).trans x35).size; omega)).trans x39).size; omega)).trans x44).trans x50).trans x53).trans x54).upd m55 (by have h1 := (((((((((((x2.trans x5).trans x15).trans x35).trans x36).upd m37 (by have h1 := (((x2.trans x5).trans x15).trans x35).size; omega)).trans x39).trans x40).upd m41 (by have h1 := ((((((x2.trans x5).trans x15).trans x35).trans x36).upd m37 (by have h1 := (((x2.trans x5).trans x15).trans x35).size; omega)).trans x39).size; omega)).trans x44).trans x50).trans x53).size; omega)).trans x57).trans x58).upd m59 (by have h1 := ((((((((((((((x2.trans x5).trans x15).trans x35).trans x36).upd m37 (by have h1 := (((x2.trans x5).trans x15).trans x35).size; omega)).trans x39).trans x40).upd m41 (by have h1 := ((((((x2.trans x5).trans x15).trans x35).trans x36).upd m37 (by have h1 := (((x2.trans x5).trans x15).trans x35).size; omega)).trans x39).size; omega)).trans x44).trans x50).trans x53).trans x54).upd m55 (by have h1 := (((((((((((x2.trans x5).trans x15).trans x35).trans x36).upd m37 (by have h1 := (((x2.trans x5).trans x15).trans x35).size; omega)).trans x39).trans x40).upd m41 (by have h1 := ((((((x2.trans x5).trans x15).trans x35).trans x36).upd m37 (by have h1 := (((x2.trans x5).trans x15).trans x35).size; omega)).trans x39).size; omega)).trans x44).trans x50).trans x53).size; omega)).trans x57).size; omega)).trans x62).trans x64).trans x70).size; omega))) ?_)
                  refine Rg.on rfl rfl (OpT.storeA Try.sizeOf26 rfl rfl rfl rfl b77 rfl fun w96 m96 z96 b96 => ?_)
                  replace b96 : Box w96 g76 [.int .u8 k95, .int .i64 n95, .string s95, .slice la95 ls95.length lc95, .slice ta95 ts95.length tc95] := b96
                  refine Rg.nil ?_
                  refine hK78 _ _ ?_
                  refine W.seqK fun K97 hK97 => ?_
                  obtain ⟨a103, cs103, ha103, hr103, hw103, hv103⟩ := hT53.at (i := s70) (by first | omega | (unfold lenOk at *; omega))
                  obtain ⟨k103, n103, s103, ls103, ts103, la103, lc103, ta103, tc103, et103, rfl, hk103, hn103, hs103, hl103, ht103, hL103, hT103⟩ := hv103.inv
                  refine W.drawE 7 [.ex (.slice A53 ((spArgs f ++ ts).length) c53), .ex (.int .i64 ((s70 : Nat) : Int)), .ex (.pointer (some (a103.add (s70 * 5)))), .ex (.agg ([.int .u8 k103, .int .i64 n103, .string s103, .slice la103 ls103.length lc103, .slice ta103 ts103.length tc103].toArray)), .ex (.agg ([.int .u8 k95, .int .i64 n95, .string s95, .slice la95 ls95.length lc95, .slice ta95 ts95.length tc95].toArray)), .ex (.bool (sameB ((spArgs f ++ ts)[s70]) (ts[((((s70 : Nat) : Int) - (((spArgs f).length : Nat) : Int))).toNat]))), .ex (.bool (!(sameB ((spArgs f ++ ts)[s70]) (ts[((((s70 : Nat) : Int) - (((spArgs f).length : Nat) : Int))).toNat]))))] mixed rfl rfl rfl ⟨trivial, trivial, trivial, trivial, trivial, trivial, trivial, trivial⟩ ?_ ?_
                  · refine ⟨?_, ?_, ?_, ?_, ?_, ?_, ?_, trivial⟩
                    · intro w' hx _
                      exact OpT.move rfl VS.ok
                    · intro w' hx _
                      exact OpT.move rfl VS.ok
                    · intro w' hx _
                      exact OpT.indexAddr Try.underlying24 Try.sizeOf26 rfl rfl ha103 (by first | omega | (unfold lenOk at *; omega)) VS.ok
                    · intro w' hx _
                      exact OpT.loadA (cs := [.int .u8 k103, .int .i64 n103, .string s103, .slice la103 ls103.length lc103, .slice ta103 ts103.length tc103]) Try.isAgg26 Try.sizeOf26 rfl (hw103.ext (((((((((((x54.upd m55 (by omega)).trans x57).trans x58).upd m59 (by have h1 := ((x54.upd m55 (by omega)).trans x57).size; omega)).trans x62).trans x64).trans x70).trans x76).upd m77 (by have h1 := (((((((x54.upd m55 (by omega)).trans x57).trans x58).upd m59 (by have h1 := ((x54.upd m55 (by omega)).trans x57).size; omega)).trans x62).trans x64).trans x70).size; omega)).upd m96 (by have h1 := (((((((x54.upd m55 (by omega)).trans x57).trans x58).upd m59 (by have h1 := ((x54.upd m55 (by omega)).trans x57).size; omega)).trans x62).trans x64).trans x70).size; omega)).trans hx)) VS.ok
                    · intro w' hx _
                      exact OpT.loadAB Try.isAgg26 Try.sizeOf26 rfl (b96.ext hx) rfl VS.ok
                    · intro w' hx _
                      exact OpT.call Try.call17 (.cons rfl (.cons rfl .nil)) (Runs.mono (rSame_runs _ _ _ _ _ _ _ (hv103.ext (((((((((((x54.upd m55 (by omega)).trans x57).trans x58).upd m59 (by have h1 := ((x54.upd m55 (by omega)).trans x57).size; omega)).trans x62).trans x64).trans x70).trans x76).upd m77 (by have h1 := (((((((x54.upd m55 (by omega)).trans x57).trans x58).upd m59 (by have h1 := ((x54.upd m55 (by omega)).trans x57).size; omega)).trans x62).trans x64).trans x70).size; omega)).upd m96 (by have h1 := (((((((x54.upd m55 (by omega)).trans x57).trans x58).upd m59 (by have h1 := ((x54.upd m55 (by omega)).trans x57).size; omega)).trans x62).trans x64).trans x70).size; omega)).trans hx)) (hv95.ext (((((((((((((((((((((((x2.trans x5).trans x15).trans x35).trans x36).upd m37 (by have h1 := (((x2.trans x5).trans x15).trans x35).size; omega)).trans x39).trans x40).upd m41 (by have h1 := ((((((x2.trans x5).trans x15).trans x35).trans x36).upd m37 (by have h1 := (((x2.trans x5).trans x15).trans x35).size; omega)).trans x39).size; omega)).trans x44).trans x50).trans x53).trans x54).upd m55 (by have h1 := (((((((((((x2.trans x5).trans x15).trans x35).trans x36).upd m37 (by have h1 := (((x2.trans x5).trans x15).trans x35).size; omega)).trans x39).trans x40).upd m41 (by have h1 := ((((((x2.trans x5).trans x15).trans x35).trans x36).upd m37 (by have h1 := (((x2.trans x5).trans x15).trans x35).size; omega)).trans x39).size; omega)).trans x44).trans x50).trans x53).size; omega)).trans x57).trans x58).upd m59 (by have h1 := ((((((((((((((x2.trans x5).trans x15).trans x35).trans x36).upd m37 (by have h1 := (((x2.trans x5).trans x15).trans x35).size; omega)).trans x39).trans x40).upd m41 (by have h1 := ((((((x2.trans x5).trans x15).trans x35).trans x36).upd m37 (by have h1 := (((x2.trans x5).trans x15).trans x35).size; omega)).trans x39).size; omega)).trans x44).trans x50).trans x53).trans x54).upd m55 (by have h1 := (((((((((((x2.trans x5).trans x15).trans x35).trans x36).upd m37 (by have h1 := (((x2.trans x5).trans x15).trans x35).size; omega)).trans x39).trans x40).upd m41 (by have h1 := ((((((x2.trans x5).trans x15).trans x35).trans x36).upd m37 (by have h1 := (((x2.trans x5).trans x15).trans x35).size; omega)).trans x39).size; omega)).trans x44).trans x50).trans x53).size; omega)).trans x57).size; omega)).trans x62).trans x64).trans x70).trans x76).upd m77 (by have h1 := (((((((((((((((((((x2.trans x5).trans x15).trans x35).trans x36).upd m37 (by have h1 := (((x2.trans x5).trans x15).trans x35).size; omega)).trans x39).trans x40).upd m41 (by have h1 := ((((((x2.trans x5).trans x15).trans x35).trans x36).upd m37 (by have h1 := (((x2.trans x5).trans x15).trans x35).size; omega)).trans x39).size; omega)).trans x44).trans x50).trans x53).trans x54).upd m55 (by have h1 := (((((((((((x2.trans x5).trans x15).trans x35).trans x36).upd m37 (by have h1 := (((x2.trans x5).trans x15).trans x35).size; omega)).trans x39).trans x40).upd m41 (by have h1 := ((((((x2.trans x5).trans x15).trans x35).trans x36).upd m37 (by have h1 := (((x2.trans x5).trans x15).trans x35).size; omega)).trans x39).size; omega)).trans x44).trans x50).trans x53).size; omega)).trans x57).trans x58).upd m59 (by have h1 := ((((((((((((((x2.trans x5).trans x15).trans x35).trans x36).upd m37 (by have h1 := (((x2.trans x5).trans x15).trans x35).size; omega)).trans x39).trans x40).upd m41 (by have h1 := ((((((x2.trans x5).trans x15).trans x35).trans x36).upd m37 (by have h1 := (((x2.trans x5).trans x15).trans x35).size; omega)).trans x39).size; omega)).trans x44).trans x50).trans x53).trans x54).upd m55 (by have h1 := (((((((((((x2.trans x5).trans x15).trans x35).trans x36).upd m37 (by have h1 := (((x2.trans x5).trans x15).trans x35).size; omega)).trans x39).trans x40).upd m41 (by have h1 := ((((((x2.trans x5).trans x15).trans x35).trans x36).upd m37 (by have h1 := (((x2.trans x5).trans x15).trans x35).size; omega)).trans x39).size; omega)).trans x44).trans x50).trans x53).size; omega)).trans x57).size; omega)).trans x62).trans x64).trans x70).size; omega)).upd m96 (by have h1 := (((((((((((((((((((x2.trans x5).trans x15).trans x35).trans x36).upd m37 (by have h1 := (((x2.trans x5).trans x15).trans x35).size; omega)).trans x39).trans x40).upd m41 (by have h1 := ((((((x2.trans x5).trans x15).trans x35).trans x36).upd m37 (by have h1 := (((x2.trans x5).trans x15).trans x35).size; omega)).trans x39).size; omega)).trans x44).trans x50).trans x53).trans x54).upd m55 (by have h1 := (((((((((((x2.trans x5).trans x15).trans x35).trans x36).upd m37 (by have h1 := (((x2.trans x5).trans x15).trans x35).size; omega)).trans x39).trans x40).upd m41 (by have h1 := ((((((x2.trans x5).trans x15).trans x35).trans x36).upd m37 (by have h1 := (((x2.trans x5).trans x15).trans x35).size; omega)).trans x39).size; omega)).trans x44).trans x50).trans x53).size; omega)).trans x57).trans x58).upd m59 (by have h1 := ((((((((((((((x2.trans x5).trans x15).trans x35).trans x36).upd m37 (by have h1 := (((x2.trans x5).trans x15).trans x35).size; omega)).trans x39).trans x40).upd m41 (by have h1 := ((((((x2.trans x5).trans x15).trans x35).trans x36).upd m37 (by have h1 := (((x2.trans x5).trans x15).trans x35).size; omega)).trans x39).size; omega)).trans x44).trans x50).trans x53).trans x54).upd m55 (by have h1 := (((((((((((x2.trans x5).trans x15).trans x35).trans x36).upd m37 (by have h1 := (((x2.trans x5).trans x15).trans x35).size; omega)).trans x39).trans x40).upd m41 (by have h1 := ((((((x2.trans x5).trans x15).trans x35).trans x36).upd m37 (by have h1 := (((x2.trans x5).trans x15).trans x35).size; omega)).trans x39).size; omega)).trans x44).trans x50).trans x53).size; omega)).trans x57).size; omega)).trans x62).trans x64).trans x70).size; omega)).trans hx))) fun v w h => VS.okx h.1 h.2)
                    · intro w' hx _
                      exact OpT.notB rfl VS.ok
                  · intro w99 x99
                    refine hK97 _ _ ?_
                    have hb108 : (sameB ((spArgs f ++ ts)[s70]) (ts[((((s70 : Nat) : Int) - (((spArgs f).length : Nat) : Int))).toNat])) = true := ((sameB_iff _ _).2 (by first | (rw [List.getElem_append_left (by omega)]) | (rw [List.getElem_append_right (by omega)]; congr 1; omega)))
                    refine W.condFb rfl (nT hb108) ?_
                    refine W.skip ?_
                    refine hK74 _ _ ?_
                    refine W.region ?_
                    refine Rg.od rfl rfl rfl (OpT.move rfl ?_)
                    refine Rg.od rfl rfl rfl (OpT.add rfl rfl (by first | omega | (unfold lenOk at *; omega)) ?_)
                    refine Rg.od rfl rfl rfl (OpT.assign rfl ?_)
                    refine Rg.nil ?_
                    exact ⟨s70 + 1, ⟨⟨rfl, rfl, rfl, rfl, rfl, rfl, rfl, rfl, rfl, rfl, rfl, rfl, rfl, rfl, rfl, rfl, rfl, rfl, rfl, rfl, rfl, rfl, rfl, rfl, rfl, rfl, rfl, rfl, rfl, rfl, rfl, rfl, rfl, rfl, rfl, rfl, rfl, rfl, rfl, rfl, rfl, rfl, rfl, rfl, rfl, rfl, rfl, rfl, rfl, rfl, rfl, rfl, rfl, rfl, rfl, rfl, rfl, rfl, rfl, rfl, rfl, rfl, rfl, rfl, rfl, rfl, rfl, rfl, rfl, rfl, rfl, rfl, rfl, rfl, trivial⟩, ((((x70.trans x76).upd m77 (by have h1 := x70.size; omega)).upd m96 (by have h1 := x70.size; omega)).trans x99), by omega⟩, by omega⟩
              · have hp73 := of_decide_eq_false hb73
                refine W.condFb rfl hb73 ?_
                refine W.exit ?_
                refine hK68 _ _ ?_
                refine W.seqK fun K109 hK109 => ?_
                have hb118 : (sameB (bif mayT (apT (head f) (spArgs f ++ ts)) then apT (head f) (spArgs f ++ ts) else tZ) (bif mayT (apT f ts) then apT f ts else tZ)) = true := (by rw [apT_back f ts hmf]; exact sameB_refl _)
                refine W.drawE 7 [.ex (.agg ([.int .u8 kr53, .int .i64 nr53, .string sr53, .slice lar53 lsr53.length lcr53, .slice tar53 tsr53.length tcr53].toArray)), .ex (.slice A53 ((spArgs f ++ ts).length) c53), .any (fun v w => ∃ cs, v = .agg cs.toArray ∧ VT w (fun _ => True) cs (bif mayT (apT (head f) (spArgs f ++ ts)) then apT (head f) (spArgs f ++ ts) else tZ)), .ex (.agg ([.int .u8 kr39, .int .i64 nr39, .string sr39, .slice lar39 lsr39.length lcr39, .slice tar39 tsr39.length tcr39].toArray)), .ex (.bool (sameB (bif mayT (apT (head f) (spArgs f ++ ts)) then apT (head f) (spArgs f ++ ts) else tZ) (bif mayT (apT f ts) then apT f ts else tZ))), .ex (.bool (sameB (bif mayT (apT (head f) (spArgs f ++ ts)) then apT (head f) (spArgs f ++ ts) else tZ) (bif mayT (apT f ts) then apT f ts else tZ))), .ex (.bool true)] mixed rfl rfl rfl ⟨trivial, trivial, (fun _ _ _ h => by rintro ⟨cs, h1, h2⟩; exact ⟨cs, h1, h2.ext h⟩), trivial, trivial, trivial, trivial, trivial⟩ ?_ ?_
                · refine ⟨?_, ?_, ?_, ?_, ?_, ?_, ?_, trivial⟩
                  · intro w' hx _
                    exact OpT.loadAB Try.isAgg26 Try.sizeOf26 rfl (((b55.ext (x57.trans x58)).upd m59 (by have h1 := Nat.le_trans (Nat.le_trans (Nat.le_refl w54.heap.size) m55.size) x57.size; omega)).ext (((x62.trans x64).trans x70).trans hx)) rfl VS.ok
                  · intro w' hx _
                    exact OpT.move rfl VS.ok
                  · intro w' hx _
                    exact OpT.call Try.call15 (.cons rfl (.cons rfl .nil)) (Runs.mono (tApply_runs _ _ _ _ _ _ (fun _ => True) (fun k hk => hR k (Nat.le_trans (Nat.le_trans (Nat.le_trans (Nat.le_trans (Nat.le_trans (Nat.le_trans (Nat.le_trans (Nat.le_trans (Nat.le_trans (Nat.le_trans (Nat.le_trans (Nat.le_trans (Nat.le_trans (Nat.le_trans (Nat.le_trans (Nat.le_trans (Nat.le_trans (Nat.le_trans (Nat.le_trans (Nat.le_trans (Nat.le_trans (Nat.le_trans (Nat.le_refl w0.heap.size) x2.size) x5.size) x15.size) x35.size) x36.size) m37.size) x39.size) x40.size) m41.size) x44.size) x50.size) x53.size) x54.size) m55.size) x57.size) x58.size) m59.size) x62.size) x64.size) x70.size) hx.size) hk)) (hv53.ext ((((((((x54.upd m55 (by omega)).trans x57).trans x58).upd m59 (by have h1 := ((x54.upd m55 (by omega)).trans x57).size; omega)).trans x62).trans x64).trans x70).trans hx)) (hT53.ext ((((((((x54.upd m55 (by omega)).trans x57).trans x58).upd m59 (by have h1 := ((x54.upd m55 (by omega)).trans x57).size; omega)).trans x62).trans x64).trans x70).trans hx)) (by first | assumption | (unfold lenOk at *; omega))) (fun v w h => by obtain ⟨cs, h1, h2, h3⟩ := h; exact ⟨h3, cs, h1, h2⟩))
                  · intro w' hx _
                    exact OpT.loadAB Try.isAgg26 Try.sizeOf26 rfl (((((b41.ext (((x44.trans x50).trans x53).trans x54)).upd m55 (by have h1 := Nat.le_trans (Nat.le_trans (Nat.le_trans (Nat.le_trans (Nat.le_refl w40.heap.size) m41.size) x44.size) x50.size) x53.size; omega)).ext (x57.trans x58)).upd m59 (by have h1 := Nat.le_trans (Nat.le_trans (Nat.le_trans (Nat.le_trans (Nat.le_trans (Nat.le_trans (Nat.le_trans (Nat.le_refl w40.heap.size) m41.size) x44.size) x50.size) x53.size) x54.size) m55.size) x57.size; omega)).ext (((x62.trans x64).trans x70).trans hx)) rfl VS.ok
                  · intro w' hx _
                    rintro _ ⟨cs125, rfl, hv125⟩
                    obtain ⟨kr125, nr125, sr125, lsr125, tsr125, lar125, lcr125, tar125, tcr125, etr125, rfl, hkr125, hnr125, hsr125, hlr125, htr125, hLr125, hTr125⟩ := hv125.inv
                    exact OpT.call Try.call17 (.cons rfl (.cons rfl .nil)) (Runs.mono (rSame_runs _ _ _ _ _ _ _ hv125 (hv39.ext (((((((((((((x40.upd m41 (by omega)).trans x44).trans x50).trans x53).trans x54).upd m55 (by have h1 := ((((x40.upd m41 (by omega)).trans x44).trans x50).trans x53).size; omega)).trans x57).trans x58).upd m59 (by have h1 := (((((((x40.upd m41 (by omega)).trans x44).trans x50).trans x53).trans x54).upd m55 (by have h1 := ((((x40.upd m41 (by omega)).trans x44).trans x50).trans x53).size; omega)).trans x57).size; omega)).trans x62).trans x64).trans x70).trans hx))) fun v w h => VS.okx h.1 h.2)
                  · intro w' hx _
                    exact OpT.move rfl VS.ok
                  · intro w' hx _
                    refine .inl ⟨_, rfl, fun _ => ?_, fun h => absurd hb118 h⟩
                    exact OpT.call Try.call9 .nil (Runs.mono (works_runs _) fun v w h => VS.okx h.1 h.2)
                · intro w119 x119
                  rintro _ ⟨cs128, rfl, hv128⟩
                  obtain ⟨kr128, nr128, sr128, lsr128, tsr128, lar128, lcr128, tar128, tcr128, etr128, rfl, hkr128, hnr128, hsr128, hlr128, htr128, hLr128, hTr128⟩ := hv128.inv
                  refine ⟨rfl, rfl, OpT.pickT rfl hb118 rfl ?_⟩
                  refine ⟨rfl, rfl, OpT.assign rfl ?_⟩
                  refine hK109 _ _ ?_
                  refine W.ret ?_
                  refine ⟨_, Res.one rfl rfl, ?_⟩
                  exact ⟨rfl, ((((((((((((((((((((x2.trans x5).trans x15).trans x35).trans x36).upd m37 (by have h1 := (((x2.trans x5).trans x15).trans x35).size; omega)).trans x39).trans x40).upd m41 (by have h1 := ((((((x2.trans x5).trans x15).trans x35).trans x36).upd m37 (by have h1 := (((x2.trans x5).trans x15).trans x35).size; omega)).trans x39).size; omega)).trans x44).trans x50).trans x53).trans x54).upd m55 (by have h1 := (((((((((((x2.trans x5).trans x15).trans x35).trans x36).upd m37 (by have h1 := (((x2.trans x5).trans x15).trans x35).size; omega)).trans x39).trans x40).upd m41 (by have h1 := ((((((x2.trans x5).trans x15).trans x35).trans x36).upd m37 (by have h1 := (((x2.trans x5).trans x15).trans x35).size; omega)).trans x39).size; omega)).trans x44).trans x50).trans x53).size; omega)).trans x57).trans x58).upd m59 (by have h1 := ((((((((((((((x2.trans x5).trans x15).trans x35).trans x36).upd m37 (by have h1 := (((x2.trans x5).trans x15).trans x35).size; omega)).trans x39).trans x40).upd m41 (by have h1 := ((((((x2.trans x5).trans x15).trans x35).trans x36).upd m37 (by have h1 := (((x2.trans x5).trans x15).trans x35).size; omega)).trans x39).size; omega)).trans x44).trans x50).trans x53).trans x54).upd m55 (by have h1 := (((((((((((x2.trans x5).trans x15).trans x35).trans x36).upd m37 (by have h1 := (((x2.trans x5).trans x15).trans x35).size; omega)).trans x39).trans x40).upd m41 (by have h1 := ((((((x2.trans x5).trans x15).trans x35).trans x36).upd m37 (by have h1 := (((x2.trans x5).trans x15).trans x35).size; omega)).trans x39).size; omega)).trans x44).trans x50).trans x53).size; omega)).trans x57).size; omega)).trans x62).trans x64).trans x70).trans x119)⟩
            · have hp51 := hb51
              refine W.condTb rfl (nF hb51) ?_
              refine W.seqK fun K129 hK129 => ?_
              refine W.region ?_
              refine Rg.od rfl rfl rfl (OpT.loadAB Try.isAgg26 Try.sizeOf26 rfl (b41.ext (x44.trans x50)) rfl ?_)
              refine Rg.od rfl rfl rfl (OpT.build (cs := #[.int .u8 0, .int .i64 0, .string (⟨#[]⟩ : ByteArray), .slice none 0 0, .slice none 0 0]) .nil Try.zeroValue26 places26.choose_spec.1 places26.choose_spec.2 (by kernel_rfl) ?_)
              refine Rg.od rfl rfl rfl (OpT.call Try.call17 (.cons rfl (.cons rfl .nil)) (Runs.mono (rSame_runs _ _ _ _ _ _ _ (hv39.ext (((x40.upd m41 (by omega)).trans x44).trans x50)) (VT.intro (w := w50) (R := (fun _ => True)) (k := 0) (n := 0) (s := (⟨#[]⟩ : ByteArray)) (la := none) (lc := 0) (ta := none) (tc := 0) (ls := []) (ts := []) (by omega) (by unfold i64ok at *; omega) (by first | assumption | decide) ⟨Nat.le_refl 0, by decide⟩ ⟨Nat.le_refl 0, by decide⟩ (SlL.nil _ _ _) (SlT.nil _ _ _))) ?_))
              rintro _ w130 ⟨rfl, x130⟩
              refine Rg.od rfl rfl rfl (OpT.move rfl ?_)
              have hb131 : (sameB (bif mayT (apT f ts) then apT f ts else tZ) (T.mk 0 0 (⟨#[]⟩ : ByteArray) [] [])) = true := (by rw [show mayT (apT f ts) = false from hb51]; exact sameB_refl _)
              refine Rg.gy rfl rfl rfl rfl hb131 (OpT.call Try.call9 .nil (Runs.mono (works_runs _) ?_))
              rintro _ w132 ⟨rfl, x132⟩
              refine Rg.od rfl rfl rfl (OpT.pickT rfl hb131 rfl ?_)
              refine Rg.od rfl rfl rfl (OpT.assign rfl ?_)
              refine Rg.nil ?_
              refine hK129 _ _ ?_
              refine W.ret ?_
              refine ⟨_, Res.one rfl rfl, ?_⟩
              exact ⟨rfl, ((((((((((((x2.trans x5).trans x15).trans x35).trans x36).upd m37 (by have h1 := (((x2.trans x5).trans x15).trans x35).size; omega)).trans x39).trans x40).upd m41 (by have h1 := ((((((x2.trans x5).trans x15).trans x35).trans x36).upd m37 (by have h1 := (((x2.trans x5).trans x15).trans x35).size; omega)).trans x39).size; omega)).trans x44).trans x50).trans x130).trans x132)⟩
end Go.Proofs.Ytmmhamabkiffaaa
