import Derived.Test.YtnoghkpofpaeeaaEe
/-
  Three environments beside each other.
-/
namespace Go.Proofs.Ytnoghkpofpaeeaa
open Go Go.RowKit Go.Proofs.Bw
set_option linter.unusedVariables false
set_option linter.unusedSimpArgs false

structure En where
  lo : Nat
  e : Nat
  m : Nat
  A : Option Addr
  c : Nat
  l : List Inf
def En.own (E : En) (k : Nat) : Prop := mine E.e E.m E.A k
def En.set (E : En) (A : Option Addr) (c : Nat) (l : List Inf) : En := ⟨E.lo, E.e, E.m, A, c, l⟩
def En.at (E : En) (w : World) (X : Nat → Prop) : Prop := EX w X E.lo E.e E.m E.A E.c E.l
structure Tri (w : World) (P Q S : En) : Prop where
  p : P.at w fun k => Q.own k ∨ S.own k
  q : Q.at w fun k => S.own k ∨ P.own k
  s : S.at w fun k => P.own k ∨ Q.own k
  pq : ∀ k, P.own k → ¬ Q.own k
  qs : ∀ k, Q.own k → ¬ S.own k
  sp : ∀ k, S.own k → ¬ P.own k
section
variable {w w' : World} {P Q S : En}
theorem Tri.rot (h : Tri w P Q S) : Tri w Q S P := ⟨h.q, h.s, h.p, h.qs, h.sp, h.pq⟩
theorem Tri.ext (h : Tri w P Q S) (x : Ext w w') : Tri w' P Q S := ⟨EX.ext h.p x, EX.ext h.q x, EX.ext h.s x, h.pq, h.qs, h.sp⟩
theorem Tri.lt (h : Tri w P Q S) : ∀ k, P.own k → P.lo ≤ k ∧ k < w.heap.size := EX.lt h.p
theorem Tri.outs (h : Tri w P Q S) : ∀ k, (P.own k ∨ Q.own k ∨ S.own k) → k < w.heap.size := fun k hk => by
  rcases hk with hk | hk | hk
  · exact (h.lt k hk).2
  · exact (h.rot.lt k hk).2
  · exact (h.rot.rot.lt k hk).2
theorem Tri.step {A : Option Addr} {c : Nat} {l : List Inf} (h : Tri w P Q S) (mm : Bw.Mod P.own w w') (hP : EX w' (fun k => Q.own k ∨ S.own k) P.lo P.e P.m A c l) (hn : ∀ k, mine P.e P.m A k → P.own k ∨ w.heap.size ≤ k) : Tri w' (P.set A c l) Q S where
  p := hP
  q := EX.mod h.q mm (fun k _ hk => .inr hk) (fun k hk hq => hk.elim (fun hs => h.qs k hq hs) (fun hp => h.pq k hp hq)) (fun k hlt hk => hk.imp id fun hk => (hn k hk).elim id fun h => by omega)
  s := EX.mod h.s mm (fun k _ hk => .inl hk) (fun k hk hs => hk.elim (fun hp => h.sp k hs hp) (fun hq => h.qs k hq hs)) (fun k hlt hk => hk.imp (fun hk => (hn k hk).elim id fun h => by omega) id)
  pq := fun k hk hq => (hn k hk).elim (fun hp => h.pq k hp hq) fun hg => by have := h.outs k (.inr (.inl hq)); omega
  qs := h.qs
  sp := fun k hs hk => (hn k hk).elim (fun hp => h.sp k hs hp) fun hg => by have := h.outs k (.inr (.inr hs)); omega
end
theorem Tri_Add {R' : Nat → Prop} {lo e m c : Nat} {A : Option Addr} {l : List Inf} {Q S : En} {B : Option Addr} {bc : Nat} {xs : List Inf} {w : World} (h : Tri w ⟨lo, e, m, A, c, l⟩ Q S) (hl : Sl encInf w R' B xs) (hR' : ∀ k, R' k → k < w.heap.size ∧ ∀ k', (mine e m A k' ∨ Q.own k' ∨ S.own k') → k' ≠ k) (hB : lenOk xs.length bc) (hsz : xs.length ≤ 1000000) (hrl : ∀ x ∈ xs, x.rules.length ≤ 1000) :
    Runs Try.prog 10 #[.pointer (some ⟨e, 0, none⟩), .slice B xs.length bc] w fun v w' => Bw.Mod (mine e m A) w w' ∧ v = .int .i64 (addE l xs) ∧ ∃ A' c', Tri w' ⟨lo, e, m, A', c', addL l xs⟩ Q S :=
  (Add_x e m A B c bc l xs w h.p (fun k hk => h.outs k (.inr hk)) hl (fun k hk => ⟨⟨(hR' k hk).1, fun hx => (hR' k hk).2 k (.inr hx) rfl⟩, fun hm => (hR' k hk).2 k (.inl hm) rfl⟩) hB hsz hrl).mono fun v w' ⟨h1, h2, A', c', h3, h4⟩ => ⟨h1, h2, A', c', h.step h1 h3 h4⟩
theorem Tri_Find {lo e m c : Nat} {A : Option Addr} {l : List Inf} {Q S : En} {w : World} (h : Tri w ⟨lo, e, m, A, c, l⟩ Q S) (s : ByteArray) :
    Runs Try.prog 11 #[.pointer (some ⟨e, 0, none⟩), .string s] w fun v w' => Ext w w' ∧ ∃ (cs : List Value) (R : Nat → Prop), v = .tuple #[.agg cs.toArray, .bool (findI l s).isSome] ∧ VI w' R cs (getI l s) :=
  (Find_x e m A c l s w h.p (fun k hk => h.outs k (.inr hk))).mono fun v w' ⟨h1, cs, h2, h3⟩ => ⟨h1, cs, _, h2, h3⟩
theorem Tri.rd {lo e m c : Nat} {A : Option Addr} {l : List Inf} {Q S : En} {w : World} (h : Tri w ⟨lo, e, m, A, c, l⟩ Q S) : EA w (fun k => (k < w.heap.size ∧ ¬ (Q.own k ∨ S.own k)) ∧ ¬ mine e m A k) lo e m A c l := h.p
theorem Tri.lo' {lo e m c : Nat} {A : Option Addr} {l : List Inf} {Q S : En} {w : World} (h : Tri w ⟨lo, e, m, A, c, l⟩ Q S) : ∀ k, mine e m A k → lo ≤ k := fun k hk => (h.lt k hk).1
theorem Tri.all {lo e m c lo2 e2 m2 c2 lo3 e3 m3 c3 : Nat} {A A2 A3 : Option Addr} {l l2 l3 : List Inf} {w : World} (h : Tri w ⟨lo, e, m, A, c, l⟩ ⟨lo2, e2, m2, A2, c2, l2⟩ ⟨lo3, e3, m3, A3, c3, l3⟩) (k : Nat) (hk : mine e m A k ∨ En.own ⟨lo2, e2, m2, A2, c2, l2⟩ k ∨ En.own ⟨lo3, e3, m3, A3, c3, l3⟩ k) : k < w.heap.size ∧ (mine e m A k ∨ mine e2 m2 A2 k ∨ mine e3 m3 A3 k) := ⟨h.outs k hk, hk⟩
/-- a call that turns blocks of no box that is still of use -/
theorem vcF {C : Cx} {ρ : List Nat} {H : Heap} {w : World} {f : Nat} {args : Array Value} {k : SV → List Nat → Heap → World → Prop} {S : Nat → Prop} {p : Value → World → Prop} (h : Runs C.P f args w fun u w' => Bw.Mod S w w' ∧ p u w') (hH : Holds ρ H w)
    (hk : ∀ v w', Bw.Mod S w w' → w.heap.size ≤ w'.heap.size → Holds ρ [] w' → p v w' → k (.v v) ρ [] w') : Runs C.P f args w (Lands ρ k) :=
  h.mono fun v w' ⟨m, hp⟩ => Lands.to (H' := []) (s := .v v) rfl rfl hH m.size trivial rfl fun hh => hk v w' m m.size hh hp
def sOne : ByteArray := ⟨#[111, 110, 101, 39]⟩
def sTwo : ByteArray := ⟨#[116, 119, 111, 39]⟩
theorem other_none {L : List Inf} {s s' : ByteArray} (t : T) (hs : s' ≠ s) (h : (findI L s).isSome = false) : (findI (addL L [axI s' t]) s).isSome = false := by
  by_cases ha : addE L [axI s' t] = 0
  · rw [addL_one ha, findI_append, h]
    simp [findI, addOne, axI, hs]
  · rw [addL_no ha, h]
end Go.Proofs.Ytnoghkpofpaeeaa


/-
  EnvWith.
-/
namespace Go.Proofs.Ytnoghkpofpaeeaa
open Go Go.RowKit Go.Proofs.Bw
set_option linter.unusedVariables false
set_option linter.unusedSimpArgs false

theorem New_y (w : World) (X : Nat → Prop) : Runs Try.prog 9 #[] w fun v w' => Ext w w' ∧ ∃ e m, v = .pointer (some ⟨e, 0, none⟩) ∧ EX w' X w.heap.size e m none 0 [] :=
  (New_runs w).mono fun v w' ⟨x, e, m, h1, h2⟩ => ⟨x, e, m, h1, by
    obtain ⟨es, hM, hE⟩ := h2.map
    have : es = [] := by
      cases es with
      | nil => rfl
      | cons p q => exact hE.elim
    subst this
    exact ⟨h2.box, ⟨[], hM, trivial⟩, h2.own, h2.ne, h2.lo_, fun k hk => ⟨hk.2, hk.1.1⟩, h2.hts, h2.few, h2.rls⟩⟩
def atN (cut : Nat) (l : List Inf) : Nat := cut % (l.length + 1)
def toN (cut more : Nat) (l : List Inf) : Nat := atN cut l + more % (l.length - atN cut l + 1)
theorem EX.beside {w wa wa' : World} {lo1 lo2 e1 m1 e2 m2 c1 c2 : Nat} {A1 A2 A1' : Option Addr} {L1 L2 : List Inf} (h1 : EX w (mine e2 m2 A2) lo1 e1 m1 A1 c1 L1) (h2 : EX w (mine e1 m1 A1) lo2 e2 m2 A2 c2 L2) (hd : ∀ k, mine e1 m1 A1 k → ¬ mine e2 m2 A2 k)
    (y : Ext w wa) (mm : Bw.Mod (mine e1 m1 A1) wa wa') (n1 : ∀ k, mine e1 m1 A1' k → mine e1 m1 A1 k ∨ wa.heap.size ≤ k) : EX wa' (mine e1 m1 A1') lo2 e2 m2 A2 c2 L2 ∧ (∀ k, mine e1 m1 A1' k → ¬ mine e2 m2 A2 k) := by
  have q := y.size
  refine ⟨(h2.ext y).mod mm (fun k _ h => h) hd fun k hk h => (n1 k h).elim id fun h => by omega, fun k h3 h4 => ?_⟩
  rcases n1 k h3 with h | h
  · exact hd k h h4
  · have := h2.lt k h4; omega
set_option maxHeartbeats 4000000 in
set_option maxRecDepth 20000 in
theorem with_runs {R : Nat → Prop} (A0 : Option Addr) (l : List Inf) (c0 cut more : Nat) (w : World) (hl : Sl encInf w R A0 l) (hB : lenOk l.length c0) (hR : ∀ k, R k → k < w.heap.size) (hc : cut ≤ 255) (hm : more ≤ 255) :
    Runs Try.prog 5 #[.slice A0 l.length c0, .int .u8 cut, .int .u8 more] w fun v w' => v = .bool true ∧ Ext w w' := by
  refine Runs.of_vc (ρ := []) cx_ok [0, 1, 2, 6, 7, 8, 9, 10, 11, 12, 13, 14, 15, 17, 19, 20, 21, 23, 25, 26, 27, 28, 29, 31, 40, 52, 69, 114, 116, 131, 169, 178, 182, 217] [.v _, .v _, .v _] Try.func5 rfl rfl rfl (Holds.nil w) ?_
  refine vcZ (Few_runs A0 l c0 w hl hB) (Holds.nil w) fun w1 x1 z1 hh1 => ?_
  refine Or.inl (And.intro (fun h => ?_) (fun h => ?_))
  · refine vcZ (works_runs w1) hh1 fun w2 x2 z2 hh2 => ?_
    exact ⟨rfl, x1.trans x2⟩
  have hfew : fewB l = true := by
    cases hq : fewB l with
    | true => rfl
    | false => rw [hq] at h; cases h
  have hlen : l.length ≤ 30 := by
    rw [hfew] at h
    have : decide (30 < (l.length : Int)) = false := h
    have := of_decide_eq_false this
    omega
  have hrls := fewB_rls hfew
  refine vcV (New_y w1 (fun _ => False)) hh1 fun v2 w2 x2 z2 hh2 p2 => ?_
  obtain ⟨ea, ma, rfl, hA2⟩ := p2
  refine vcV (New_y w2 (mine ea ma none)) hh2 fun v3 w3 x3 z3 hh3 p3 => ?_
  obtain ⟨eb, mb, rfl, hB3⟩ := p3
  have a2 := hA2.lt
  have b3 := hB3.lt
  have hA3 : EX w3 (mine eb mb none) w1.heap.size ea ma none 0 [] := hA2.mod x3 (fun _ _ h => h.elim) (fun _ h => h.elim) fun k hk hm => by have := b3 k hm; omega
  refine vsd (by simp only [inKind]; omega) ?_
  refine vsd (by simp only [inKind]; omega) ?_
  refine vsd (by omega) ?_
  rw [show ((cut : Int) % ((l.length : Int) + 1)) = ((atN cut l : Nat) : Int) from rfl]
  have hat : atN cut l ≤ l.length := by have := Nat.mod_lt cut (show 0 < l.length + 1 by omega); unfold atN; omega
  have hto : toN cut more l = atN cut l + more % (l.length - atN cut l + 1) := rfl
  have hto2 : toN cut more l ≤ l.length := by have := Nat.mod_lt more (show 0 < l.length - atN cut l + 1 by omega); omega
  generalize toN cut more l = to_ at *
  generalize atN cut l = at_ at *
  refine vLoop_upd (σ := Nat) [6, 10, 50, 51, 52, 53, 54, 55, 56, 57, 58, 59, 60, 61, 62, 63, 64, 65, 66, 67, 68, 69] (fun i => [(10, .v (.int .i64 i))]) [] (fun _ => [])
    (fun i w' => Ext w w' ∧ i ≤ at_ ∧ w3.heap.size ≤ w'.heap.size ∧ ∃ A cA B cB, EX w' (mine eb mb B) w1.heap.size ea ma A cA (envL l i) ∧ EX w' (mine ea ma A) w2.heap.size eb mb B cB (envL l i) ∧ (∀ k, mine ea ma A k → ¬ mine eb mb B k)) (fun i => at_ - i) 0 (fun _ => ⟨rfl, rfl⟩)
    ⟨(by repeat (first | exact trivial | refine And.intro rfl ?_)), (by repeat (first | exact trivial | refine And.intro rfl ?_)), (by repeat (first | exact trivial | refine And.intro rfl ?_)), (by repeat (first | exact trivial | refine And.intro rfl ?_)), x1.trans (x2.trans x3), Nat.zero_le _, Nat.le_refl _, none, 0, none, 0, hA3, hB3, fun k ha hb => by have := a2 k ha; have := b3 k hb; omega⟩ ?_
  rintro i w4 hh4 ⟨x4, hi, z4, A, cA, B, cB, hA, hB4, hd⟩
  have a4 := hA.lt
  have b4 := hB4.lt
  have x1s := x1.size
  refine Or.inl (And.intro (fun h => ?_) (fun h => ?_))
  · have hil : i < l.length := by have := of_decide_eq_true h; omega
    have hia : i < at_ := by have := of_decide_eq_true h; omega
    obtain ⟨a1, cs, ha1, hRa, hrow, hv⟩ := hl.at hil
    have hs := envL_succ l i hil
    have hxr := hrls _ (List.getElem_mem hil)
    generalize l[i] = x at *
    generalize envL l i = L at *
    have hv0 : VI w R cs x := hv
    have hv : VI w R cs x := hv
    obtain ⟨ctx, cvx, rax, rcx, rfl, htyx, hvlx, hrux, hrlx, hokx⟩ := hv; obtain ⟨kxt, nxt, sxt, lsxt, tsxt, laxt, lcxt, taxt, tcxt, etyx, rfl, hkxt, hnxt, hsxt, hllxt, hltxt, hLxt, hTxt⟩ := htyx.inv; obtain ⟨kxv, nxv, sxv, lsxv, tsxv, laxv, lcxv, taxv, tcxv, evlx, rfl, hkxv, hnxv, hsxv, hllxv, hltxv, hLxv, hTxv⟩ := hvlx.inv
    have hr9 : ¬ mine ea ma A (a1.add (i * 25)).block := fun hm => by rw [block_add] at hm; have := hR _ hRa; have := a4 _ hm; omega
    refine vDrwM_mk (mine ea ma A) (fun j hj => absurd hj (Nat.not_lt_zero j)) [5, 6, 12, 13] (.one 0 (.one 1 (.one 2 (.one 3 (.one 4 (.one 7 (.one 8 (.one 9 (.one 10 (.one 11 (.alt 5 (.alt 6 (.one 12 (.one 13 (.one 14 .nil))) 12 (.one 6 (.one 13 (.one 14 .nil)))) 12 (.one 5 (.one 6 (.one 13 (.one 14 .nil))))))))))))))) rfl fun w5 x5 q5 hh5 => ?_
    refine Exists.intro (.v (.pointer (some (a1.add (i * 25))))) (And.intro rfl (And.intro (fun w' xx hh => OpT.indexAddr Try.underlying22 Try.sizeOf35 rfl rfl ha1 (by simp only [lenOk] at *; omega) ⟨rfl, rfl⟩) ?_))
    refine Exists.intro (.a [.v (.int .u8 x.kind), .v (.string x.name), .v (.int .i64 x.params), .v (.int .u8 kxt), .v (.int .i64 nxt), .v (.string sxt), .v (.slice laxt lsxt.length lcxt), .v (.slice taxt tsxt.length tcxt), .v (.int .u8 kxv), .v (.int .i64 nxv), .v (.string sxv), .v (.slice laxv lsxv.length lcxv), .v (.slice taxv tsxv.length tcxv), .v (.int .i64 x.height), .v (.string x.block), .v (.string x.of_), .v (.int .i64 x.fixed), .v (.int .i64 x.index), .v (.int .i64 x.no), .v (.int .i64 x.fields), .v (.int .i64 x.motives), .v (.int .i64 x.minors), .v (.slice rax x.rules.length rcx), .v (.int .i64 x.ctors), .v (.bool x.record)]) (And.intro rfl (And.intro (fun w' xx hh => OpT.loadA Try.isAgg35 (by exact Try.sizeOf35) rfl ((hrow.ext (x4.trans x5)).mod xx hr9) ⟨rfl, rfl⟩) ?_))
    refine Exists.intro (.v (.pointer (some (a1.add (i * 25))))) (And.intro rfl (And.intro (fun w' xx hh => OpT.indexAddr Try.underlying22 Try.sizeOf35 rfl rfl ha1 (by simp only [lenOk] at *; omega) ⟨rfl, rfl⟩) ?_))
    refine Exists.intro (.a [.v (.int .u8 x.kind), .v (.string x.name), .v (.int .i64 x.params), .v (.int .u8 kxt), .v (.int .i64 nxt), .v (.string sxt), .v (.slice laxt lsxt.length lcxt), .v (.slice taxt tsxt.length tcxt), .v (.int .u8 kxv), .v (.int .i64 nxv), .v (.string sxv), .v (.slice laxv lsxv.length lcxv), .v (.slice taxv tsxv.length tcxv), .v (.int .i64 x.height), .v (.string x.block), .v (.string x.of_), .v (.int .i64 x.fixed), .v (.int .i64 x.index), .v (.int .i64 x.no), .v (.int .i64 x.fields), .v (.int .i64 x.motives), .v (.int .i64 x.minors), .v (.slice rax x.rules.length rcx), .v (.int .i64 x.ctors), .v (.bool x.record)]) (And.intro rfl (And.intro (fun w' xx hh => OpT.loadA Try.isAgg35 (by exact Try.sizeOf35) rfl ((hrow.ext (x4.trans x5)).mod xx hr9) ⟨rfl, rfl⟩) ?_))
    have y5 : Ext w4 w5 := x5
    refine And.intro ?_ ?_
    · have hv5 := hv0.ext (x4.trans y5)
      refine OpT.buildE (E := encInf) (R := R) (vs := [_]) (l := [x]) Try.zeroValue35 (.cons rfl (.nil)) Try.underlying22 Try.sizeOf35 rfl rfl (Reps.cons hv5 (Reps.nil _ _ _)) rfl rfl hh5 fun w6 g6 e6 x6 z6 o6 hh6 => ?_
      refine And.intro (Mod.mono x6 fun _ h => h.elim) ?_
      have y6 := y5.trans x6
      refine And.intro ?_ ?_
      · refine vcM (Add_x ea ma A _ cA 1 L [x] w6 (hA.ext y6) (fun k hk => by have := b4 k hk; have := y6.size; omega) (o6.sl) (fun k hk => ⟨⟨hk.2, fun hm => ?_⟩, fun hm => ?_⟩) (by simp [lenOk]) (by simp) (by simpa using hxr)) hh6 trivial fun v7 w7 m7 z7 hh7 p7 => ?_
        · have := b4 k hm
          rcases hk.1 with h | h
          · have := hR k h; omega
          · omega
        · have := a4 k hm
          rcases hk.1 with h | h
          · have := hR k h; omega
          · omega
        obtain ⟨rfl, A7, cA7, hA7, nA7⟩ := p7
        obtain ⟨hB7, hd7⟩ := EX.beside hA hB4 hd y6 m7 nA7
        refine And.intro m7 ?_
        have ra7 := hA7.lt
        have rb7 := hB7.lt
        have hv7 := hv0.ext ((x4.trans y6).trans' m7 fun k hk hs => by have := a4 k hs; omega)
        refine OpT.buildE (E := encInf) (R := R) (vs := [_]) (l := [x]) Try.zeroValue35 (.cons rfl (.nil)) Try.underlying22 Try.sizeOf35 rfl rfl (Reps.cons hv7 (Reps.nil _ _ _)) rfl rfl hh7 fun w8 g8 e8 x8 z8 o8 hh8 => ?_
        refine And.intro (Mod.mono x8 fun _ h => h.elim) ?_
        refine vcM (Add_x eb mb B _ cB 1 L [x] w8 (hB7.ext x8) (fun k hk => by have := ra7 k hk; omega) (o8.sl) (fun k hk => ⟨⟨by have := hk.2; omega, fun hm => ?_⟩, fun hm => ?_⟩) (by simp [lenOk]) (by simp) (by simpa using hxr)) hh8 trivial fun v9 w9 m9 z9 hh9 p9 => ?_
        · have := ra7 k hm; have := nA7 k hm
          rcases hk.1 with h | h
          · have := hR k h; rcases nA7 k hm with h | h
            · have := a4 k h; omega
            · omega
          · rcases nA7 k hm with h | h
            · have := a4 k h; omega
            · omega
        · have := b4 k hm
          rcases hk.1 with h | h
          · have := hR k h; omega
          · omega
        obtain ⟨rfl, B9, cB9, hB9, nB9⟩ := p9
        obtain ⟨hA9, hd9⟩ := EX.beside hB7 hA7 (fun k h1 h2 => hd7 k h2 h1) (x8) m9 nB9
        refine Or.inl (And.intro (fun h => absurd h (by simp)) (fun _ => ?_))
        refine vsd (by simp only [inKind]; omega) ?_
        exact Exists.intro (i + 1) ⟨by omega, esub_over (by repeat (first | exact trivial | refine And.intro rfl ?_)) (by repeat (first | exact trivial | refine And.intro rfl ?_)), hsub_over (by repeat (first | exact trivial | refine And.intro rfl ?_)) (by repeat (first | exact trivial | refine And.intro rfl ?_)), (((x4.trans y6).trans' m7 fun k hk hs => by have := a4 k hs; omega).trans (x8)).trans' m9 fun k hk hs => by have := b4 k hs; omega, hia, by omega, A7, cA7, B9, cB9, by rw [hs]; exact hA9, by rw [hs]; exact hB9, fun k h1 h2 => hd9 k h2 h1⟩
      · have hv6 := hv0.ext (x4.trans y6)
        refine OpT.buildE (E := encInf) (R := R) (vs := [_]) (l := [x]) Try.zeroValue35 (.cons rfl (.nil)) Try.underlying22 Try.sizeOf35 rfl rfl (Reps.cons hv6 (Reps.nil _ _ _)) rfl rfl hh6 fun w7 g7 e7 x7 z7 o7 hh7 => ?_
        refine And.intro (Mod.mono x7 fun _ h => h.elim) ?_
        have y7 := y6.trans x7
        refine vcM (Add_x ea ma A _ cA 1 L [x] w7 (hA.ext y7) (fun k hk => by have := b4 k hk; have := y7.size; omega) (o6.sl.ext x7) (fun k hk => ⟨⟨by have := hk.2; omega, fun hm => ?_⟩, fun hm => ?_⟩) (by simp [lenOk]) (by simp) (by simpa using hxr)) hh7 trivial fun v8 w8 m8 z8 hh8 p8 => ?_
        · have := b4 k hm
          rcases hk.1 with h | h
          · have := hR k h; omega
          · omega
        · have := a4 k hm
          rcases hk.1 with h | h
          · have := hR k h; omega
          · omega
        obtain ⟨rfl, A8, cA8, hA8, nA8⟩ := p8
        obtain ⟨hB8, hd8⟩ := EX.beside hA hB4 hd y7 m8 nA8
        refine And.intro m8 ?_
        have ra8 := hA8.lt
        have rb8 := hB8.lt
        refine vcM (Add_x eb mb B _ cB 1 L [x] w8 (hB8) (fun k hk => by have := ra8 k hk; omega) ((o7.sl).mod m8 (fun k hk hs => by have := a4 k hs; rcases hk.1 with h | h; (have := hR k h; omega); omega)) (fun k hk => ⟨⟨by have := hk.2; omega, fun hm => ?_⟩, fun hm => ?_⟩) (by simp [lenOk]) (by simp) (by simpa using hxr)) hh8 trivial fun v9 w9 m9 z9 hh9 p9 => ?_
        · have := ra8 k hm; have := nA8 k hm
          rcases hk.1 with h | h
          · have := hR k h; rcases nA8 k hm with h | h
            · have := a4 k h; omega
            · omega
          · rcases nA8 k hm with h | h
            · have := a4 k h; omega
            · omega
        · have := b4 k hm
          rcases hk.1 with h | h
          · have := hR k h; omega
          · omega
        obtain ⟨rfl, B9, cB9, hB9, nB9⟩ := p9
        obtain ⟨hA9, hd9⟩ := EX.beside hB8 hA8 (fun k h1 h2 => hd8 k h2 h1) (Ext.refl _) m9 nB9
        refine Or.inl (And.intro (fun h => absurd h (by simp)) (fun _ => ?_))
        refine vsd (by simp only [inKind]; omega) ?_
        exact Exists.intro (i + 1) ⟨by omega, esub_over (by repeat (first | exact trivial | refine And.intro rfl ?_)) (by repeat (first | exact trivial | refine And.intro rfl ?_)), hsub_over (by repeat (first | exact trivial | refine And.intro rfl ?_)) (by repeat (first | exact trivial | refine And.intro rfl ?_)), (((x4.trans y7).trans' m8 fun k hk hs => by have := a4 k hs; omega).trans (Ext.refl _)).trans' m9 fun k hk hs => by have := b4 k hs; omega, hia, by omega, A8, cA8, B9, cB9, by rw [hs]; exact hA9, by rw [hs]; exact hB9, fun k h1 h2 => hd9 k h2 h1⟩
    · have hv5 := hv0.ext (x4.trans y5)
      refine OpT.buildE (E := encInf) (R := R) (vs := [_]) (l := [x]) Try.zeroValue35 (.cons rfl (.nil)) Try.underlying22 Try.sizeOf35 rfl rfl (Reps.cons hv5 (Reps.nil _ _ _)) rfl rfl hh5 fun w6 g6 e6 x6 z6 o6 hh6 => ?_
      refine And.intro (Mod.mono x6 fun _ h => h.elim) ?_
      have y6 := y5.trans x6
      have hv6 := hv0.ext (x4.trans y6)
      refine OpT.buildE (E := encInf) (R := R) (vs := [_]) (l := [x]) Try.zeroValue35 (.cons rfl (.nil)) Try.underlying22 Try.sizeOf35 rfl rfl (Reps.cons hv6 (Reps.nil _ _ _)) rfl rfl hh6 fun w7 g7 e7 x7 z7 o7 hh7 => ?_
      refine And.intro (Mod.mono x7 fun _ h => h.elim) ?_
      have y7 := y6.trans x7
      refine vcM (Add_x ea ma A _ cA 1 L [x] w7 (hA.ext y7) (fun k hk => by have := b4 k hk; have := y7.size; omega) (o7.sl) (fun k hk => ⟨⟨hk.2, fun hm => ?_⟩, fun hm => ?_⟩) (by simp [lenOk]) (by simp) (by simpa using hxr)) hh7 trivial fun v8 w8 m8 z8 hh8 p8 => ?_
      · have := b4 k hm
        rcases hk.1 with h | h
        · have := hR k h; omega
        · omega
      · have := a4 k hm
        rcases hk.1 with h | h
        · have := hR k h; omega
        · omega
      obtain ⟨rfl, A8, cA8, hA8, nA8⟩ := p8
      obtain ⟨hB8, hd8⟩ := EX.beside hA hB4 hd y7 m8 nA8
      refine And.intro m8 ?_
      have ra8 := hA8.lt
      have rb8 := hB8.lt
      refine vcM (Add_x eb mb B _ cB 1 L [x] w8 (hB8) (fun k hk => by have := ra8 k hk; omega) ((o6.sl.ext x7).mod m8 (fun k hk hs => by have := a4 k hs; rcases hk.1 with h | h; (have := hR k h; omega); omega)) (fun k hk => ⟨⟨by have := hk.2; omega, fun hm => ?_⟩, fun hm => ?_⟩) (by simp [lenOk]) (by simp) (by simpa using hxr)) hh8 trivial fun v9 w9 m9 z9 hh9 p9 => ?_
      · have := ra8 k hm; have := nA8 k hm
        rcases hk.1 with h | h
        · have := hR k h; rcases nA8 k hm with h | h
          · have := a4 k h; omega
          · omega
        · rcases nA8 k hm with h | h
          · have := a4 k h; omega
          · omega
      · have := b4 k hm
        rcases hk.1 with h | h
        · have := hR k h; omega
        · omega
      obtain ⟨rfl, B9, cB9, hB9, nB9⟩ := p9
      obtain ⟨hA9, hd9⟩ := EX.beside hB8 hA8 (fun k h1 h2 => hd8 k h2 h1) (Ext.refl _) m9 nB9
      refine Or.inl (And.intro (fun h => absurd h (by simp)) (fun _ => ?_))
      refine vsd (by simp only [inKind]; omega) ?_
      exact Exists.intro (i + 1) ⟨by omega, esub_over (by repeat (first | exact trivial | refine And.intro rfl ?_)) (by repeat (first | exact trivial | refine And.intro rfl ?_)), hsub_over (by repeat (first | exact trivial | refine And.intro rfl ?_)) (by repeat (first | exact trivial | refine And.intro rfl ?_)), (((x4.trans y7).trans' m8 fun k hk hs => by have := a4 k hs; omega).trans (Ext.refl _)).trans' m9 fun k hk hs => by have := b4 k hs; omega, hia, by omega, A8, cA8, B9, cB9, by rw [hs]; exact hA9, by rw [hs]; exact hB9, fun k h1 h2 => hd9 k h2 h1⟩
  · have hi' : i = at_ := by have := of_decide_eq_false h; omega
    subst hi'
    have hLl := envL_len l i (by omega)
    have hG := Good.env l i (by omega)
    generalize envL l i = L at *
    refine vsd (by simp only [inKind]; omega) ?_
    refine vsd (by simp only [inKind]; omega) ?_
    refine vsd (by simp only [inKind]; omega) ?_
    refine vsd (by omega) ?_
    have hmod : (more : Int) % ((l.length : Int) - (i : Int) + 1) = ((more % (l.length - i + 1) : Nat) : Int) := by
      rw [Int.natCast_emod]; congr 1; omega
    rw [hmod]
    refine vsd (by simp only [inKind]; omega) ?_
    rw [show ((i : Int) + ((more % (l.length - i + 1) : Nat) : Int)) = ((to_ : Nat) : Int) by rw [hto]; rfl]
    have hti : i ≤ to_ := by omega
    refine vcV (List_runs ea ma A cA L w4 hA) hh4 fun v5 w5 x5 z5 hh5 p5 => ?_
    obtain ⟨A5, c5, rfl, _⟩ := p5
    have hxl : ((l.drop i).take (to_ - i)).length = to_ - i := by rw [List.length_take, List.length_drop]; omega
    have hxs : Sl encInf w R (if c0 = i then A0 else A0.map (·.add (i * 25))) ((l.drop i).take (to_ - i)) := (hl.cut hB.1 i).take _
    have hxr : ∀ x ∈ (l.drop i).take (to_ - i), x.rules.length ≤ 1000 := fun x hx => hrls x (List.mem_of_mem_drop (List.mem_of_mem_take hx))
    generalize (l.drop i).take (to_ - i) = xs at *
    generalize hBx : (if c0 = i then A0 else A0.map (·.add (i * 25))) = Bx at *
    have hxB : lenOk xs.length (c0 - i) := by simp only [lenOk] at *; omega
    refine OpT.slice Try.underlying22 Try.sizeOf35 rfl (i := (i : Int)) (j := (to_ : Int)) rfl rfl (by simp only [lenOk] at hB; omega) ?_
    rw [show (if c0 = (i : Int).toNat then A0 else A0.map (·.add ((i : Int).toNat * 25))) = Bx from hBx, show ((to_ : Int).toNat - (i : Int).toNat) = xs.length from hxl.symm]
    refine Lands.v hh5 ?_
    have hA5 := hA.ext x5
    have hB5 := hB4.ext x5
    refine (With_runs ea ma A Bx cA (c0 - i) L xs w5 hA5 (hxs.ext (x4.trans x5)) (fun k hk => ⟨⟨by have := hR k hk; omega, fun hm => by have := b4 k hm; have := hR k hk; omega⟩, fun hm => by have := a4 k hm; have := hR k hk; omega⟩) hxB (by omega) hxr).mono ?_
    rintro v6 w6 ⟨x6, hcase⟩
    have hh6 := hh5.ext x6
    have z6 := x6.size
    rcases hcase with ⟨hE, rfl⟩ | ⟨hE, ec, mc, Ac, cc, Rc, rfl, hC, rc1, rc2⟩
    · refine Lands.ret (s := .t [.v (.pointer none), .v (.int .i64 (addE L xs))]) rfl rfl hh6 ?_
      refine OpT.slice Try.underlying22 Try.sizeOf35 rfl (i := (i : Int)) (j := (to_ : Int)) rfl rfl (by simp only [lenOk] at hB; omega) ?_
      rw [show (if c0 = (i : Int).toNat then A0 else A0.map (·.add ((i : Int).toNat * 25))) = Bx from hBx, show ((to_ : Int).toNat - (i : Int).toNat) = xs.length from hxl.symm]
      refine Lands.v hh6 ?_
      refine vcM (Add_x eb mb B Bx cB (c0 - i) L xs w6 (hB5.ext x6) (fun k hk => by have := a4 k hk; omega) (hxs.ext (x4.trans (x5.trans x6))) (fun k hk => ⟨⟨by have := hR k hk; omega, fun hm => by have := a4 k hm; have := hR k hk; omega⟩, fun hm => by have := b4 k hm; have := hR k hk; omega⟩) hxB (by omega) hxr) hh6 trivial fun v7 w7 m7 z7 hh7 p7 => ?_
      obtain ⟨rfl, B7, cB7, hB7, nB7⟩ := p7
      obtain ⟨hA7, hd7⟩ := EX.beside hB5 hA5 (fun k h1 h2 => hd k h2 h1) x6 m7 nB7
      have hEE : (!decide (addE L xs = addE L xs)) = false := by simp
      have hv : sel (!decide (addE L xs = addE L xs)) true (!((none : Option Addr).isNone == !decide (addE L xs = 0))) = false := by simp [sel, hE]
      refine vyes (gT hv) ?_
      refine vcV (List_runs ea ma A cA L w7 hA7) hh7 fun v8 w8 x8 z8 hh8 p8 => ?_
      obtain ⟨A8, c8, rfl, _⟩ := p8
      refine Or.inl (And.intro (fun h => absurd h (by simp [sel, hE])) (fun _ => ?_))
      refine Or.inl (And.intro (fun _ => ?_) (fun hx => nomatch (rfl).symm.trans hx))
      refine vcZ (works_runs w8) hh8 fun w9 x9 z9 hh9 => ?_
      exact ⟨rfl, ((x4.trans (x5.trans x6)).trans' m7 fun k hk hs => by have := b4 k hs; omega).trans (x8.trans x9)⟩
    · refine Lands.ret (s := .t [.v (.pointer (some ⟨ec, 0, none⟩)), .v (.int .i64 0)]) rfl rfl hh6 ?_
      refine OpT.slice Try.underlying22 Try.sizeOf35 rfl (i := (i : Int)) (j := (to_ : Int)) rfl rfl (by simp only [lenOk] at hB; omega) ?_
      rw [show (if c0 = (i : Int).toNat then A0 else A0.map (·.add ((i : Int).toNat * 25))) = Bx from hBx, show ((to_ : Int).toNat - (i : Int).toNat) = xs.length from hxl.symm]
      refine Lands.v hh6 ?_
      have c6 := hC.mine_lt
      have T6 : Tri w6 ⟨w1.heap.size, ea, ma, A, cA, L⟩ ⟨w2.heap.size, eb, mb, B, cB, L⟩ ⟨w5.heap.size, ec, mc, Ac, cc, addL L xs⟩ := by
        refine ⟨EX.mod hA5 (S := fun _ => False) x6 (fun _ _ h => h.elim) (fun k hb ha => hd k ha hb) (fun k hk h => h.elim id fun h => ?_), EX.mod hB5 (S := fun _ => False) x6 (fun _ _ h => h.elim) (fun k hb ha => hd k hb ha) (fun k hk h => h.elim (fun h => ?_) id), EA.ex hC fun k hk hx => ?_, hd, fun k h1 h2 => ?_, fun k h1 h2 => ?_⟩
        · have := c6 k h; omega
        · have := c6 k h; omega
        · rcases rc2 k hk with h | h
          · exact hx.elim h.2 h.1.2
          · rcases hx with hx | hx
            · have := a4 k hx; omega
            · have := b4 k hx; omega
        · have := b4 k h1; have := c6 k h2; omega
        · have := c6 k h1; have := a4 k h2; omega
      refine vcF (Tri_Add T6.rot (hxs.ext (x4.trans (x5.trans x6))) (fun k hk => ⟨by have := hR k hk; omega, fun k' hm => by have := hR k hk; rcases (T6.rot.all k' hm).2 with h | h | h <;> (first | (have := b4 k' h; omega) | (have := c6 k' h; omega) | (have := a4 k' h; omega))⟩) hxB (by omega) hxr) hh6 fun v7 w7 m7 z7 hh7 p7 => ?_
      obtain ⟨rfl, B7, cB7, T7⟩ := p7
      have y7 : Ext w w7 := (x4.trans (x5.trans x6)).trans' m7 fun k hk hs => by have := b4 k hs; omega
      have T7a := T7.rot.rot
      have hv : sel (!decide ((0 : Int) = addE L xs)) true (!((some (⟨ec, 0, none⟩ : Addr)).isNone == !decide ((0 : Int) = 0))) = false := by simp [sel, hE]
      refine vyes (gT hv) ?_
      refine vcV (List_runs ea ma A cA L w7 T7a.rd) hh7 fun v8 w8 x8 z8 hh8 p8 => ?_
      obtain ⟨A8, c8, rfl, _⟩ := p8
      refine Or.inl (And.intro (fun h => absurd h (by simp [sel, hE])) (fun _ => ?_))
      refine Or.inl (And.intro (fun hx => nomatch (rfl).symm.trans hx) (fun _ => ?_))
      have T8 := T7.ext x8
      refine (Tri_Find T8.rot sOne).mono ?_
      rintro _ w9 ⟨x9, cs9, R9, rfl, hv9⟩
      have hh9 := hh8.ext x9
      have z9 := x9.size
      generalize getI (addL L xs) sOne = X9 at hv9
      obtain ⟨ctb9, cvb9, rab9, rcb9, rfl, htyb9, hvlb9, hrub9, hrlb9, hokb9⟩ := hv9; obtain ⟨kb9t, nb9t, sb9t, lsb9t, tsb9t, lab9t, lcb9t, tab9t, tcb9t, etyb9, rfl, hkb9t, hnb9t, hsb9t, hllb9t, hltb9t, hLb9t, hTb9t⟩ := htyb9.inv; obtain ⟨kb9v, nb9v, sb9v, lsb9v, tsb9v, lab9v, lcb9v, tab9v, tcb9v, evlb9, rfl, hkb9v, hnb9v, hsb9v, hllb9v, hltb9v, hLb9v, hTb9v⟩ := hvlb9.inv
      refine Lands.ret (s := .t [.a [.v (.int .u8 X9.kind), .v (.string X9.name), .v (.int .i64 X9.params), .v (.int .u8 kb9t), .v (.int .i64 nb9t), .v (.string sb9t), .v (.slice lab9t lsb9t.length lcb9t), .v (.slice tab9t tsb9t.length tcb9t), .v (.int .u8 kb9v), .v (.int .i64 nb9v), .v (.string sb9v), .v (.slice lab9v lsb9v.length lcb9v), .v (.slice tab9v tsb9v.length tcb9v), .v (.int .i64 X9.height), .v (.string X9.block), .v (.string X9.of_), .v (.int .i64 X9.fixed), .v (.int .i64 X9.index), .v (.int .i64 X9.no), .v (.int .i64 X9.fields), .v (.int .i64 X9.motives), .v (.int .i64 X9.minors), .v (.slice rab9 X9.rules.length rcb9), .v (.int .i64 X9.ctors), .v (.bool X9.record)], .v (.bool (findI (addL L xs) sOne).isSome)]) rfl rfl hh9 ?_
      intro g10 w10 e10 x10 z10 hh10; intro w11 m11 z11 hh11; replace m11 : Upd g10 w10 w11 := m11; have x11 : Ext w9 w11 := x10.upd m11 (by omega); have q11 := x11.size
      have y11 : Ext w8 w11 := x9.trans x11

      have T11 := T8.ext y11
      refine (Tri_Find T11.rot.rot sTwo).mono ?_
      rintro _ w12 ⟨x12, cs12, R12, rfl, hv12⟩
      have hh12 := hh11.ext x12
      have z12 := x12.size
      generalize getI L sTwo = X12 at hv12
      obtain ⟨ctb12, cvb12, rab12, rcb12, rfl, htyb12, hvlb12, hrub12, hrlb12, hokb12⟩ := hv12; obtain ⟨kb12t, nb12t, sb12t, lsb12t, tsb12t, lab12t, lcb12t, tab12t, tcb12t, etyb12, rfl, hkb12t, hnb12t, hsb12t, hllb12t, hltb12t, hLb12t, hTb12t⟩ := htyb12.inv; obtain ⟨kb12v, nb12v, sb12v, lsb12v, tsb12v, lab12v, lcb12v, tab12v, tcb12v, evlb12, rfl, hkb12v, hnb12v, hsb12v, hllb12v, hltb12v, hLb12v, hTb12v⟩ := hvlb12.inv
      refine Lands.ret (s := .t [.a [.v (.int .u8 X12.kind), .v (.string X12.name), .v (.int .i64 X12.params), .v (.int .u8 kb12t), .v (.int .i64 nb12t), .v (.string sb12t), .v (.slice lab12t lsb12t.length lcb12t), .v (.slice tab12t tsb12t.length tcb12t), .v (.int .u8 kb12v), .v (.int .i64 nb12v), .v (.string sb12v), .v (.slice lab12v lsb12v.length lcb12v), .v (.slice tab12v tsb12v.length tcb12v), .v (.int .i64 X12.height), .v (.string X12.block), .v (.string X12.of_), .v (.int .i64 X12.fixed), .v (.int .i64 X12.index), .v (.int .i64 X12.no), .v (.int .i64 X12.fields), .v (.int .i64 X12.motives), .v (.int .i64 X12.minors), .v (.slice rab12 X12.rules.length rcb12), .v (.int .i64 X12.ctors), .v (.bool X12.record)], .v (.bool (findI L sTwo).isSome)]) rfl rfl hh12 ?_
      intro g13 w13 e13 x13 z13 hh13; intro w14 m14 z14 hh14; replace m14 : Upd g13 w13 w14 := m14; have x14 : Ext w12 w14 := x13.upd m14 (by omega); have q14 := x14.size
      have y14 : Ext w11 w14 := x12.trans x14

      have T14 := T11.ext y14
      refine Or.inl (And.intro (fun h => ?_) (fun h => ?_))
      · refine vcZ (works_runs w14) hh14 fun w15 x15 z15 hh15 => ?_
        exact ⟨rfl, y7.trans (x8.trans (y11.trans (y14.trans x15)))⟩
      have hah : (findI (addL L xs) sOne).isSome = false ∧ (findI L sTwo).isSome = false := by
        revert h; cases (findI (addL L xs) sOne).isSome <;> cases (findI L sTwo).isSome <;> simp [sel]
      have T14a := T14.rot.rot
      refine (S_runs w14).mono ?_
      rintro _ w15 ⟨x15, cs15, rfl, hv15⟩
      have hh15 := hh14.ext x15
      have z15 := x15.size
      have hvI15 : VI w15 (fun k => w14.heap.size ≤ k ∧ k < w15.heap.size) _ (axI sOne tS) := ax_rep sOne hv15 (by decide)
      obtain ⟨kq15, nq15, sq15, lsq15, tsq15, laq15, lcq15, taq15, tcq15, es, rfl, hkq15, hnq15, hsq15, hllq15, hltq15, hLq15, hTq15⟩ := hv15.inv
      refine Lands.ret (s := .a [.v (.int .u8 kq15), .v (.int .i64 nq15), .v (.string sq15), .v (.slice laq15 lsq15.length lcq15), .v (.slice taq15 tsq15.length tcq15)]) rfl rfl hh15 ?_
      refine OpT.buildE (E := encInf) (R := (fun k => w14.heap.size ≤ k ∧ k < w15.heap.size)) (vs := [_]) (l := [axI sOne tS]) Try.zeroValue35 (.cons rfl (.nil)) Try.underlying22 Try.sizeOf35 rfl rfl (Reps.cons hvI15 (Reps.nil _ _ _)) rfl rfl hh15 fun w16 g16 e16 x16 z16 o16 hh16 => ?_
      have y16 : Ext w14 w16 := x15.trans x16
      have t16 := T14a.ext y16
      have u16 := o16.sl
      have a16 := Tri_Add (bc := 1) t16 u16 (fun k hk => ⟨hk.2, fun k' hm => by have := (T14a.all k' hm).1; have := hk.1; omega⟩) (by simp [lenOk]) (by simp) (by simp [axI])
      refine vcF a16 hh16 fun v17 w17 m17 z17 hh17 p17 => ?_
      obtain ⟨rfl, A17, c17, T17⟩ := p17
      have l17 := T14a.lo'

      have T17c := T17.rot.rot
      refine (S_runs w17).mono ?_
      rintro _ w18 ⟨x18, cs18, rfl, hv18⟩
      have hh18 := hh17.ext x18
      have z18 := x18.size
      have hvI18 : VI w18 (fun k => w17.heap.size ≤ k ∧ k < w18.heap.size) _ (axI sTwo tS) := ax_rep sTwo hv18 (by decide)
      obtain ⟨kq18, nq18, sq18, lsq18, tsq18, laq18, lcq18, taq18, tcq18, es, rfl, hkq18, hnq18, hsq18, hllq18, hltq18, hLq18, hTq18⟩ := hv18.inv
      refine Lands.ret (s := .a [.v (.int .u8 kq18), .v (.int .i64 nq18), .v (.string sq18), .v (.slice laq18 lsq18.length lcq18), .v (.slice taq18 tsq18.length tcq18)]) rfl rfl hh18 ?_
      refine OpT.buildE (E := encInf) (R := (fun k => w17.heap.size ≤ k ∧ k < w18.heap.size)) (vs := [_]) (l := [axI sTwo tS]) Try.zeroValue35 (.cons rfl (.nil)) Try.underlying22 Try.sizeOf35 rfl rfl (Reps.cons hvI18 (Reps.nil _ _ _)) rfl rfl hh18 fun w19 g19 e19 x19 z19 o19 hh19 => ?_
      have y19 : Ext w17 w19 := x18.trans x19
      have t19 := T17c.ext y19
      have u19 := o19.sl
      have a19 := Tri_Add (bc := 1) t19 u19 (fun k hk => ⟨hk.2, fun k' hm => by have := (T17c.all k' hm).1; have := hk.1; omega⟩) (by simp [lenOk]) (by simp) (by simp [axI])
      refine vcF a19 hh19 fun v20 w20 m20 z20 hh20 p20 => ?_
      obtain ⟨rfl, A20, c20, T20⟩ := p20
      have l20 := T17c.lo'

      have T20b := T20.rot.rot
      refine (S_runs w20).mono ?_
      rintro _ w21 ⟨x21, cs21, rfl, hv21⟩
      have hh21 := hh20.ext x21
      have z21 := x21.size
      have hvI21 : VI w21 (fun k => w20.heap.size ≤ k ∧ k < w21.heap.size) _ (axI sTwo tS) := ax_rep sTwo hv21 (by decide)
      obtain ⟨kq21, nq21, sq21, lsq21, tsq21, laq21, lcq21, taq21, tcq21, es, rfl, hkq21, hnq21, hsq21, hllq21, hltq21, hLq21, hTq21⟩ := hv21.inv
      refine Lands.ret (s := .a [.v (.int .u8 kq21), .v (.int .i64 nq21), .v (.string sq21), .v (.slice laq21 lsq21.length lcq21), .v (.slice taq21 tsq21.length tcq21)]) rfl rfl hh21 ?_
      refine OpT.buildE (E := encInf) (R := (fun k => w20.heap.size ≤ k ∧ k < w21.heap.size)) (vs := [_]) (l := [axI sTwo tS]) Try.zeroValue35 (.cons rfl (.nil)) Try.underlying22 Try.sizeOf35 rfl rfl (Reps.cons hvI21 (Reps.nil _ _ _)) rfl rfl hh21 fun w22 g22 e22 x22 z22 o22 hh22 => ?_
      have y22 : Ext w20 w22 := x21.trans x22
      have t22 := T20b.ext y22
      have u22 := o22.sl
      have a22 := Tri_Add (bc := 1) t22 u22 (fun k hk => ⟨hk.2, fun k' hm => by have := (T20b.all k' hm).1; have := hk.1; omega⟩) (by simp [lenOk]) (by simp) (by simp [axI])
      refine vcF a22 hh22 fun v23 w23 m23 z23 hh23 p23 => ?_
      obtain ⟨rfl, A23, c23, T23⟩ := p23
      have l23 := T20b.lo'

      have T23a := T23.rot.rot
      refine (Tri_Find T23a sTwo).mono ?_
      rintro _ w24 ⟨x24, cs24, R24, rfl, hv24⟩
      have hh24 := hh23.ext x24
      have z24 := x24.size
      generalize getI (addL L [axI sOne tS]) sTwo = X24 at hv24
      obtain ⟨ctb24, cvb24, rab24, rcb24, rfl, htyb24, hvlb24, hrub24, hrlb24, hokb24⟩ := hv24; obtain ⟨kb24t, nb24t, sb24t, lsb24t, tsb24t, lab24t, lcb24t, tab24t, tcb24t, etyb24, rfl, hkb24t, hnb24t, hsb24t, hllb24t, hltb24t, hLb24t, hTb24t⟩ := htyb24.inv; obtain ⟨kb24v, nb24v, sb24v, lsb24v, tsb24v, lab24v, lcb24v, tab24v, tcb24v, evlb24, rfl, hkb24v, hnb24v, hsb24v, hllb24v, hltb24v, hLb24v, hTb24v⟩ := hvlb24.inv
      refine Lands.ret (s := .t [.a [.v (.int .u8 X24.kind), .v (.string X24.name), .v (.int .i64 X24.params), .v (.int .u8 kb24t), .v (.int .i64 nb24t), .v (.string sb24t), .v (.slice lab24t lsb24t.length lcb24t), .v (.slice tab24t tsb24t.length tcb24t), .v (.int .u8 kb24v), .v (.int .i64 nb24v), .v (.string sb24v), .v (.slice lab24v lsb24v.length lcb24v), .v (.slice tab24v tsb24v.length tcb24v), .v (.int .i64 X24.height), .v (.string X24.block), .v (.string X24.of_), .v (.int .i64 X24.fixed), .v (.int .i64 X24.index), .v (.int .i64 X24.no), .v (.int .i64 X24.fields), .v (.int .i64 X24.motives), .v (.int .i64 X24.minors), .v (.slice rab24 X24.rules.length rcb24), .v (.int .i64 X24.ctors), .v (.bool X24.record)], .v (.bool (findI (addL L [axI sOne tS]) sTwo).isSome)]) rfl rfl hh24 ?_
      intro g25 w25 e25 x25 z25 hh25; intro w26 m26 z26 hh26; replace m26 : Upd g25 w25 w26 := m26; have x26 : Ext w24 w26 := x25.upd m26 (by omega); have q26 := x26.size
      have y26 : Ext w23 w26 := x24.trans x26

      have T26 := T23a.ext y26
      refine (Tri_Find T26.rot.rot sOne).mono ?_
      rintro _ w27 ⟨x27, cs27, R27, rfl, hv27⟩
      have hh27 := hh26.ext x27
      have z27 := x27.size
      generalize getI (addL (addL L xs) [axI sTwo tS]) sOne = X27 at hv27
      obtain ⟨ctb27, cvb27, rab27, rcb27, rfl, htyb27, hvlb27, hrub27, hrlb27, hokb27⟩ := hv27; obtain ⟨kb27t, nb27t, sb27t, lsb27t, tsb27t, lab27t, lcb27t, tab27t, tcb27t, etyb27, rfl, hkb27t, hnb27t, hsb27t, hllb27t, hltb27t, hLb27t, hTb27t⟩ := htyb27.inv; obtain ⟨kb27v, nb27v, sb27v, lsb27v, tsb27v, lab27v, lcb27v, tab27v, tcb27v, evlb27, rfl, hkb27v, hnb27v, hsb27v, hllb27v, hltb27v, hLb27v, hTb27v⟩ := hvlb27.inv
      refine Lands.ret (s := .t [.a [.v (.int .u8 X27.kind), .v (.string X27.name), .v (.int .i64 X27.params), .v (.int .u8 kb27t), .v (.int .i64 nb27t), .v (.string sb27t), .v (.slice lab27t lsb27t.length lcb27t), .v (.slice tab27t tsb27t.length tcb27t), .v (.int .u8 kb27v), .v (.int .i64 nb27v), .v (.string sb27v), .v (.slice lab27v lsb27v.length lcb27v), .v (.slice tab27v tsb27v.length tcb27v), .v (.int .i64 X27.height), .v (.string X27.block), .v (.string X27.of_), .v (.int .i64 X27.fixed), .v (.int .i64 X27.index), .v (.int .i64 X27.no), .v (.int .i64 X27.fields), .v (.int .i64 X27.motives), .v (.int .i64 X27.minors), .v (.slice rab27 X27.rules.length rcb27), .v (.int .i64 X27.ctors), .v (.bool X27.record)], .v (.bool (findI (addL (addL L xs) [axI sTwo tS]) sOne).isSome)]) rfl rfl hh27 ?_
      intro g28 w28 e28 x28 z28 hh28; intro w29 m29 z29 hh29; replace m29 : Upd g28 w28 w29 := m29; have x29 : Ext w27 w29 := x28.upd m29 (by omega); have q29 := x29.size
      have y29 : Ext w26 w29 := x27.trans x29

      have T29 := (T26.ext y29).rot.rot
      have e1 := other_none (L := L) (s := sTwo) (s' := sOne) tS (by decide) hah.2
      have e2 := other_none (L := addL L xs) (s := sOne) (s' := sTwo) tS (by decide) hah.1
      refine Or.inl (And.intro (fun h => ?_) (fun _ => ?_))
      · rw [e1, e2] at h
        revert h
        cases decide (addE L [axI sOne tS] = 0) <;> cases decide (addE (addL L xs) [axI sTwo tS] = 0) <;> simp [sel]
      have hx29 : Ext w w29 := by
        have q1 := ((y7.trans (x8.trans (y11.trans (y14.trans y16)))).trans' m17 fun k hk hs => by have := l17 k hs; have := x1.size; omega).trans y19
        have q2 := (q1.trans' m20 fun k hk hs => by have := l20 k hs; have := x1.size; omega).trans y22
        exact (q2.trans' m23 fun k hk hs => by have := l23 k hs; have := x1.size; omega).trans (y26.trans y29)
      generalize addL (addL L xs) [axI sTwo tS] = LL at *
      refine vcV (List_runs _ _ _ _ LL w29 T29.rd) hh29 fun v30 w30 x30 z30 hh30 p30 => ?_
      obtain ⟨A30, c30, rfl, o30⟩ := p30
      have T30 := (T29.ext x30).rot.rot
      refine vcV (List_runs _ _ _ _ LL w30 T30.rd) hh30 fun v31 w31 x31 z31 hh31 p31 => ?_
      obtain ⟨A31, c31, rfl, o31⟩ := p31
      have T31 := T30.ext x31
      refine Or.inl (And.intro (fun h => absurd h (by simp)) (fun _ => ?_))
      refine vLoop_upd (σ := Nat) [6, 28, 29, 30, 31, 32, 179, 180, 181, 182, 183, 184, 185, 186, 187, 188, 189, 190, 191, 192, 193, 194, 195, 196, 197, 198, 199, 200, 201, 202, 203, 204, 205, 206, 207, 208, 209, 210, 211, 212, 213, 214, 215, 216, 217] (fun k => [(28, .v (.int .i64 k))]) [] (fun _ => []) (fun k w' => Ext w31 w' ∧ k ≤ LL.length) (fun k => LL.length - k) 0 (fun _ => ⟨rfl, rfl⟩)
        ⟨(by repeat (first | exact trivial | refine And.intro rfl ?_)), (by repeat (first | exact trivial | refine And.intro rfl ?_)), (by repeat (first | exact trivial | refine And.intro rfl ?_)), (by repeat (first | exact trivial | refine And.intro rfl ?_)), Ext.refl _, Nat.zero_le _⟩ ?_
      rintro k w32 hh32 ⟨x32, hk⟩
      have hfew := T31.rd.few
      refine Or.inl (And.intro (fun h => ?_) (fun h => ?_))
      · have hkl : k < LL.length := by have := of_decide_eq_true h; omega
        have hkm : k < (LL.map (·.name)).length := by rw [List.length_map]; exact hkl
        obtain ⟨a1, cs1, ha1, _, hrow1, rfl, hs1⟩ := (o30.sl.ext (x31.trans x32)).at hkm
        obtain ⟨a2, cs2, ha2, _, hrow2, rfl, hs2⟩ := (o31.sl.ext x32).at hkm
        generalize (LL.map (·.name))[k] = s at *
        refine OpT.indexAddr Try.underlying39 Try.sizeOf9 rfl rfl ha1 (by first | omega | (simp only [lenOk] at *; omega)) ?_; refine Lands.v hh32 ?_
        refine OpT.load Try.isAgg9 rfl (hrow1.cell 0 rfl) ?_; refine Lands.v hh32 ?_
        have T32 := (T31.ext x32).rot
        refine (Tri_Find T32 s).mono ?_
        rintro _ w33 ⟨x33, cs33, R33, rfl, hv33⟩
        have hh33 := hh32.ext x33
        have z33 := x33.size
        generalize hX : getI LL s = X at *
        have hw33 := hv33
        obtain ⟨ctb33, cvb33, rab33, rcb33, rfl, htyb33, hvlb33, hrub33, hrlb33, hokb33⟩ := hv33; obtain ⟨kb33t, nb33t, sb33t, lsb33t, tsb33t, lab33t, lcb33t, tab33t, tcb33t, etyb33, rfl, hkb33t, hnb33t, hsb33t, hllb33t, hltb33t, hLb33t, hTb33t⟩ := htyb33.inv; obtain ⟨kb33v, nb33v, sb33v, lsb33v, tsb33v, lab33v, lcb33v, tab33v, tcb33v, evlb33, rfl, hkb33v, hnb33v, hsb33v, hllb33v, hltb33v, hLb33v, hTb33v⟩ := hvlb33.inv
        refine Lands.ret (s := .t [.a [.v (.int .u8 X.kind), .v (.string X.name), .v (.int .i64 X.params), .v (.int .u8 kb33t), .v (.int .i64 nb33t), .v (.string sb33t), .v (.slice lab33t lsb33t.length lcb33t), .v (.slice tab33t tsb33t.length tcb33t), .v (.int .u8 kb33v), .v (.int .i64 nb33v), .v (.string sb33v), .v (.slice lab33v lsb33v.length lcb33v), .v (.slice tab33v tsb33v.length tcb33v), .v (.int .i64 X.height), .v (.string X.block), .v (.string X.of_), .v (.int .i64 X.fixed), .v (.int .i64 X.index), .v (.int .i64 X.no), .v (.int .i64 X.fields), .v (.int .i64 X.motives), .v (.int .i64 X.minors), .v (.slice rab33 X.rules.length rcb33), .v (.int .i64 X.ctors), .v (.bool X.record)], .v (.bool (findI LL s).isSome)]) rfl rfl hh33 ?_
        intro g34 w34 e34 x34 z34 hh34; intro w35 m35 z35 hh35; replace m35 : Upd g34 w34 w35 := m35; have x35 : Ext w33 w35 := x34.upd m35 (by omega); have q35 := x35.size
        have y35 : Ext w32 w35 := x33.trans x35
        have T35 := (T32.ext y35).rot.rot
        refine OpT.indexAddr Try.underlying39 Try.sizeOf9 rfl rfl ha2 (by first | omega | (simp only [lenOk] at *; omega)) ?_; refine Lands.v hh35 ?_
        refine OpT.load Try.isAgg9 rfl ((hrow2.ext y35).cell 0 rfl) ?_; refine Lands.v hh35 ?_
        refine (Tri_Find T35 s).mono ?_
        rintro _ w36 ⟨x36, cs36, R36, rfl, hv36⟩
        have hh36 := hh35.ext x36
        have z36 := x36.size
        rw [hX] at hv36
        have hw36 := hv36
        obtain ⟨ctb36, cvb36, rab36, rcb36, rfl, htyb36, hvlb36, hrub36, hrlb36, hokb36⟩ := hv36; obtain ⟨kb36t, nb36t, sb36t, lsb36t, tsb36t, lab36t, lcb36t, tab36t, tcb36t, etyb36, rfl, hkb36t, hnb36t, hsb36t, hllb36t, hltb36t, hLb36t, hTb36t⟩ := htyb36.inv; obtain ⟨kb36v, nb36v, sb36v, lsb36v, tsb36v, lab36v, lcb36v, tab36v, tcb36v, evlb36, rfl, hkb36v, hnb36v, hsb36v, hllb36v, hltb36v, hLb36v, hTb36v⟩ := hvlb36.inv
        refine Lands.ret (s := .t [.a [.v (.int .u8 X.kind), .v (.string X.name), .v (.int .i64 X.params), .v (.int .u8 kb36t), .v (.int .i64 nb36t), .v (.string sb36t), .v (.slice lab36t lsb36t.length lcb36t), .v (.slice tab36t tsb36t.length tcb36t), .v (.int .u8 kb36v), .v (.int .i64 nb36v), .v (.string sb36v), .v (.slice lab36v lsb36v.length lcb36v), .v (.slice tab36v tsb36v.length tcb36v), .v (.int .i64 X.height), .v (.string X.block), .v (.string X.of_), .v (.int .i64 X.fixed), .v (.int .i64 X.index), .v (.int .i64 X.no), .v (.int .i64 X.fields), .v (.int .i64 X.motives), .v (.int .i64 X.minors), .v (.slice rab36 X.rules.length rcb36), .v (.int .i64 X.ctors), .v (.bool X.record)], .v (.bool (findI LL s).isSome)]) rfl rfl hh36 ?_
        intro g37 w37 e37 x37 z37 hh37; intro w38 m38 z38 hh38; replace m38 : Upd g37 w37 w38 := m38; have x38 : Ext w36 w38 := x37.upd m38 (by omega); have q38 := x38.size
        have y38 : Ext w35 w38 := x36.trans x38
        refine vDrw_mk [12] (.one 0 (.one 1 (.one 2 (.one 3 (.one 4 (.one 5 (.one 6 (.one 7 (.one 8 (.one 9 (.one 10 (.one 11 (.one 12 (.one 13 (.one 14 .nil))))))))))))))) rfl fun w39 x39 hh39 => ?_
        have r1 := hrow1.ext (y35.trans (y38.trans x39))
        have r2 := hrow2.ext (y35.trans (y38.trans x39))
        refine Exists.intro (.v (.pointer (some (a1.add (k * 1))))) (And.intro rfl (And.intro (fun w' xx hh => OpT.indexAddr Try.underlying39 Try.sizeOf9 rfl rfl ha1 (by simp only [lenOk] at *; omega) ⟨rfl, rfl⟩) ?_))
        refine Exists.intro (.v (.string s)) (And.intro rfl (And.intro (fun w' xx hh => OpT.load Try.isAgg9 rfl ((r1.ext xx).cell 0 rfl) ⟨rfl, rfl⟩) ?_))
        refine Exists.intro (.v (.pointer (some (a2.add (k * 1))))) (And.intro rfl (And.intro (fun w' xx hh => OpT.indexAddr Try.underlying39 Try.sizeOf9 rfl rfl ha2 (by simp only [lenOk] at *; omega) ⟨rfl, rfl⟩) ?_))
        refine Exists.intro (.v (.string s)) (And.intro rfl (And.intro (fun w' xx hh => OpT.load Try.isAgg9 rfl ((r2.ext xx).cell 0 rfl) ⟨rfl, rfl⟩) ?_))
        have hss : (!decide (s = s)) = false := by simp
        refine vyes (gT hss) ?_
        refine vcZ (rSameI_runs _ _ X X w39 (encInf.ext hw33 (x35.trans (y38.trans x39))) (encInf.ext hw36 (x38.trans x39))) hh39 fun w40 x40 z40 hh40 => ?_
        rw [infB_refl]
        refine Or.inl (And.intro (fun h => absurd h (by simp [sel])) (fun _ => ?_))
        refine vsd (by simp only [inKind]; omega) ?_
        exact Exists.intro (k + 1) ⟨by omega, esub_over (by repeat (first | exact trivial | refine And.intro rfl ?_)) (by repeat (first | exact trivial | refine And.intro rfl ?_)), hsub_over (by repeat (first | exact trivial | refine And.intro rfl ?_)) (by repeat (first | exact trivial | refine And.intro rfl ?_)), x32.trans (y35.trans (y38.trans (x39.trans x40))), hkl⟩
      · refine vcZ (works_runs w32) hh32 fun w33 x33 z33 hh33 => ?_
        exact ⟨rfl, hx29.trans (x30.trans (x31.trans (x32.trans x33)))⟩
end Go.Proofs.Ytnoghkpofpaeeaa

