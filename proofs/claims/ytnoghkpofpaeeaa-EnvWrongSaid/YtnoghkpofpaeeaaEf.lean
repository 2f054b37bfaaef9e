import Derived.Test.YtnoghkpofpaeeaaEe
/-
  EnvWrong: what is wrong is told.
-/
namespace Go.Proofs.Ytnoghkpofpaeeaa
open Go Go.RowKit Go.Proofs.Bw
set_option linter.unusedVariables false
set_option linter.unusedSimpArgs false
def sBase : ByteArray := ⟨#[98, 97, 115, 101, 39]⟩
def sGood : ByteArray := ⟨#[103, 111, 111, 100, 39]⟩
def sNob : ByteArray := ⟨#[110, 111, 98, 111, 100, 121, 39]⟩
def sNo : ByteArray := ⟨#[110, 111, 32, 110, 97, 109, 101]⟩
def goodI : Inf := dfI sGood tS (tC sBase) 0
def lPar : L := ⟨0, 0, -1, -1, -1⟩
theorem lPar_wf : lPar.wf := by simp [lPar, L.wf, i64ok]
def tPar : T := .mk 1 0 ⟨#[]⟩ [lPar] []
def badI : Nat → Inf
  | 0 => { goodI with name := sBase }
  | 1 => { goodI with name := sNo }
  | 2 => { goodI with kind := 7 }
  | 3 => { goodI with fields := 1001 }
  | 4 => { goodI with params := 5 }
  | 5 => { goodI with val := tV 0 }
  | 6 => { goodI with ty := tPar }
  | 7 => { goodI with val := tC sNob }
  | _ => { goodI with val := tC sGood }
def wantN : Nat → Int
  | 0 => 5 | 1 => 5 | 2 => 1 | 3 => 1 | 4 => 8 | 5 => 7 | 6 => 8 | 7 => 6 | _ => 6
theorem checkB_go {L xs : List Inf} {i : Nat} {x : Inf} (n : nameB x.name = true) (f : (findI L x.name).isSome = false) (y : nameIn (xs.take i) x.name = false) : checkB L xs i x =
    if x.kind < 1 ∨ 6 < x.kind ∨ badNums x = true then 1
    else if x.params < 0 ∨ 4 < x.params then 8
    else if firstB (closedE x.params.toNat) (infT x) ≠ 0 then firstB (closedE x.params.toNat) (infT x)
    else firstB (namesE L (if valB x.kind = true then xs.take i else xs)) (infT x) := by
  unfold checkB
  rw [if_neg (by rw [n, f, y]; simp)]
theorem checkB_5 {L xs : List Inf} {i : Nat} {x : Inf} (h : nameB x.name = false ∨ (findI L x.name).isSome = true ∨ nameIn (xs.take i) x.name = true) : checkB L xs i x = 5 := by
  unfold checkB; rw [if_pos h]
theorem nms_S : nms tS = [] := by decide +kernel
theorem nms_C (s : ByteArray) (h : nms (tC s) = [s]) (L xs : List Inf) : firstB (namesE L xs) [tS, tC s] = thereE L xs s := by
  simp only [firstB, namesE, nms_S, h]
  by_cases h0 : thereE L xs s = 0 <;> simp [h0]
theorem bad_E {L : List Inf} (h1 : (findI L sGood).isSome = false) (h2 : (findI L sBase).isSome = true) (h3 : (findI L sNob).isSome = false) : ∀ n, n ≤ 8 → checkB L [badI n] 0 (badI n) = wantN n
  | 0, _ => checkB_5 (.inr (.inl h2))
  | 1, _ => checkB_5 (.inl (by decide +kernel))
  | 2, _ => by rw [checkB_go (by decide +kernel) h1 rfl, if_pos (by decide +kernel)]; rfl
  | 3, _ => by rw [checkB_go (by decide +kernel) h1 rfl, if_pos (by decide +kernel)]; rfl
  | 4, _ => by rw [checkB_go (by decide +kernel) h1 rfl, if_neg (by decide +kernel), if_pos (by decide +kernel)]; rfl
  | 5, _ => by rw [checkB_go (by decide +kernel) h1 rfl, if_neg (by decide +kernel), if_neg (by decide +kernel), if_pos (by decide +kernel)]; decide +kernel
  | 6, _ => by rw [checkB_go (by decide +kernel) h1 rfl, if_neg (by decide +kernel), if_neg (by decide +kernel), if_pos (by decide +kernel)]; decide +kernel
  | 7, _ => by
    rw [checkB_go (by decide +kernel) h1 rfl, if_neg (by decide +kernel), if_neg (by decide +kernel), if_neg (by decide +kernel)]
    show firstB (namesE L _) [tS, tC sNob] = 6
    rw [nms_C sNob (by decide +kernel)]
    exact if_pos ⟨h3, rfl⟩
  | 8, _ => by
    rw [checkB_go (by decide +kernel) h1 rfl, if_neg (by decide +kernel), if_neg (by decide +kernel), if_neg (by decide +kernel)]
    show firstB (namesE L _) [tS, tC sGood] = 6
    rw [nms_C sGood (by decide +kernel)]
    exact if_pos ⟨h1, rfl⟩
  | n + 9, h => by omega
theorem good_E {L xs : List Inf} (h1 : (findI L sGood).isSome = false) (h2 : (findI L sBase).isSome = true) : checkB L xs 0 goodI = 0 := by
  rw [checkB_go (by decide +kernel) h1 rfl, if_neg (by decide +kernel), if_neg (by decide +kernel), if_neg (by decide +kernel)]
  show firstB (namesE L _) [tS, tC sBase] = 0
  rw [nms_C sBase (by decide +kernel)]
  exact if_neg fun h => by rw [h2] at h; cases h.1
theorem bad_2 {L : List Inf} (h2 : (findI L sBase).isSome = true) : ∀ n, n ≤ 8 → checkB L [goodI, badI n] 1 (badI n) = 5
  | 0, _ => checkB_5 (.inr (.inl h2))
  | 1, _ => checkB_5 (.inl (by decide +kernel))
  | 2, _ => checkB_5 (.inr (.inr (by decide +kernel)))
  | 3, _ => checkB_5 (.inr (.inr (by decide +kernel)))
  | 4, _ => checkB_5 (.inr (.inr (by decide +kernel)))
  | 5, _ => checkB_5 (.inr (.inr (by decide +kernel)))
  | 6, _ => checkB_5 (.inr (.inr (by decide +kernel)))
  | 7, _ => checkB_5 (.inr (.inr (by decide +kernel)))
  | 8, _ => checkB_5 (.inr (.inr (by decide +kernel)))
  | n + 9, h => by omega
theorem addE_1 {L : List Inf} {x : Inf} (hl : L.length ≤ 4000) : addE L [x] = checkB L [x] 0 x := by
  unfold addE
  rw [if_neg (by simp; omega)]
  simp only [checksB]
  by_cases h : checkB L [x] 0 x ≠ 0
  · rw [if_pos h]
  · rw [if_neg h]; simpa using (Classical.not_not.1 h).symm
theorem addE_2 {L : List Inf} {x y : Inf} (hl : L.length ≤ 4000) (h : checkB L [x, y] 1 y ≠ 0) : addE L [x, y] ≠ 0 := by
  unfold addE
  rw [if_neg (by simp; omega)]
  simp only [checksB]
  by_cases h0 : checkB L [x, y] 0 x ≠ 0
  · rw [if_pos h0]; exact h0
  · rw [if_neg h0, if_pos h]; exact h
theorem nms_h (L : List Inf) (s : ByteArray) (h : nms (tC s) = [s]) : heightB L (tC s) = max 0 (getI L s).height := by
  unfold heightB; rw [h]; rfl
theorem good_H {L : List Inf} (h1 : (findI L sGood).isSome = false) (h2 : (findI L sBase).isSome = true) (hh : ∀ x ∈ L, 0 ≤ x.height) (ha : addE L [goodI] = 0) :
    heightB (addL L [goodI]) (tC sGood) = 1 + heightB (addL L [goodI]) (tC sBase) := by
  have hf := findI_added ha
  have e1 : heightB (addL L [goodI]) (tC sGood) = max 0 (addOne L goodI).height := by
    rw [nms_h _ _ (by decide +kernel)]
    unfold getI
    rw [show findI (addL L [goodI]) sGood = some (addOne L goodI) from hf]; rfl
  have e2 : heightB (addL L [goodI]) (tC sBase) = heightB L (tC sBase) := by
    rw [addL_one ha]
    refine heightB_snoc (fun s hs => ?_) _
    rw [show nms (tC sBase) = [sBase] by decide +kernel] at hs
    obtain rfl := List.mem_singleton.1 hs
    exact h2
  have e3 : (addOne L goodI).height = 1 + heightB L (tC sBase) := by
    show heightI L goodI = _
    unfold heightI; rw [if_pos (show goodI.kind = 2 from rfl)]; rfl
  have e4 : 0 ≤ heightB L (tC sBase) := by
    rw [nms_h _ _ (by decide +kernel)]; omega
  rw [e1, e2, e3]; omega
theorem OwnR.toBox {w : World} {lo el sz g : Nat} {css : List (List Value)} (h : OwnR w lo el sz (some ⟨g, 0, none⟩) css.length css) : Box w g css.flatten := by
  rcases h.2.2 with ⟨h2, _⟩ | ⟨g2, cap, cur, h2, hlo, hg, hnc, hcm, hcs, htake⟩
  · cases h2
  simp only [Value.slice.injEq, Option.some.injEq, Addr.mk.injEq] at h2
  obtain ⟨⟨rfl, _, _⟩, _, rfl⟩ := h2
  have hfl := flat_len css h.1
  have hcur : cur.toList.length = css.length * sz := by simpa using hcs
  have e : css.flatten = cur.toList := by
    rw [← htake, List.take_of_length_le (by omega)]
  rw [e]
  exact ⟨el, by simpa using hg⟩
theorem V_runs (n : Int) (w : World) : Runs Try.prog 18 #[.int .i64 n] w fun v w' => v = .agg #[.int .u8 2, .int .i64 n, .string noS, .slice none 0 0, .slice none 0 0] ∧ Ext w w' := lV_runs n w
theorem tV_rep (w : World) (R : Nat → Prop) : VT w R [.int .u8 2, .int .i64 0, .string noS, .slice none 0 0, .slice none 0 0] (tV 0) :=
  VT.intro (by omega) (by simp [i64ok]) (by decide) (by simp [lenOk]) (by simp [lenOk]) (SlL.nil _ _ _) (SlT.nil _ _ _)
/-- a Sort of one level that lies in a block alone -/
theorem tLv_rep {w : World} {g : Nat} (l : L) (hl : l.wf) (b : Box w g l.cells) (R : Nat → Prop) (hR : R g) : VT w R [.int .u8 1, .int .i64 0, .string noS, .slice (some ⟨g, 0, none⟩) 1 1, .slice none 0 0] (.mk 1 0 noS [l] []) := by
  show VT w R [.int .u8 1, .int .i64 0, .string noS, .slice (some ⟨g, 0, none⟩) [l].length 1, .slice none ([] : List T).length 0] _
  exact VT.intro (by omega) (by simp [i64ok]) (by decide) (by simp [lenOk]) (by simp [lenOk]) (fun i x hx => by
    cases i with
    | zero =>
      simp at hx; subst hx
      exact ⟨_, rfl, hR, (by have h := b.rowAt 0; rw [List.drop_zero] at h; exact h), hl⟩
    | succ i => simp at hx) (SlT.nil _ _ _)
set_option maxRecDepth 20000 in
theorem S2_runs (w : World) : Runs Try.prog 16 #[] w fun v w' => Ext w w' ∧ ∃ g, v = .agg #[.int .u8 1, .int .i64 0, .string noS, .slice (some ⟨g, 0, none⟩) 1 1, .slice none 0 0] ∧ Box w' g lZero.cells ∧ w.heap.size ≤ g := by
  refine Runs.of_vc cx_ok [0] [] Try.func16 rfl rfl rfl (Holds.nil _) ?_
  intro g1 w1 e1 x1 z1 hh1
  refine (rZero_runs w1).mono ?_
  rintro _ w2 ⟨rfl, x2⟩
  have hh2 := hh1.ext x2
  have z2 := x2.size
  refine Lands.ret (s := .a [.v (.int .i64 lZero.c), .v (.int .i64 lZero.p0), .v (.int .i64 lZero.p1), .v (.int .i64 lZero.p2), .v (.int .i64 lZero.p3)]) rfl rfl hh2 ?_
  have hz : encL.rep w2 (fun _ => False) lZero.cells lZero := ⟨rfl, by simp [lZero, L.wf, i64ok]⟩
  refine OpT.buildE (E := encL) (R := (fun _ => False)) (vs := [_]) (l := [lZero]) Try.zeroValue48 (.cons rfl (.nil)) Try.underlying29 Try.sizeOf48 rfl rfl (Reps.cons hz (Reps.nil _ _ _)) rfl rfl hh2 fun w3 g3 e3 x3 z3 o3 hh3 => ?_
  intro w4 m4 z4 hh4
  replace m4 : Upd g1 w3 w4 := m4
  obtain ⟨css, h1, h2⟩ := o3
  have hcs : css = [lZero.cells] := by
    have := h2.1
    match css, this with
    | [c], _ => rw [(h2.2 0 c lZero rfl rfl).1]
  subst hcs
  have hb : Box w3 g3 lZero.cells := by simpa using OwnR.toBox h1
  exact ⟨(x1.trans (x2.trans x3)).upd m4 (by omega), g3, rfl, hb.upd m4 (by omega), by omega⟩
theorem badI_rules : ∀ n, (badI n).rules = []
  | 0 | 1 | 2 | 3 | 4 | 5 | 6 | 7 | _ + 8 => rfl
theorem goodI_ok : goodI.ok := ⟨by decide, by decide, i0, i0, n0, n0, i0, i0, i0, i0, i0, i0, i0⟩
theorem badI_ok : ∀ n, (badI n).ok
  | 0 => ⟨by decide, by decide, i0, i0, n0, n0, i0, i0, i0, i0, i0, i0, i0⟩
  | 1 => ⟨by decide, by decide, i0, i0, n0, n0, i0, i0, i0, i0, i0, i0, i0⟩
  | 2 => ⟨by decide, by decide, i0, i0, n0, n0, i0, i0, i0, i0, i0, i0, i0⟩
  | 3 => ⟨by decide, by decide, i0, i0, n0, n0, i0, i0, i0, by simp [badI, i64ok], i0, i0, i0⟩
  | 4 => ⟨by decide, by decide, by simp [badI, i64ok], i0, n0, n0, i0, i0, i0, i0, i0, i0, i0⟩
  | 5 => goodI_ok
  | 6 => goodI_ok
  | 7 => goodI_ok
  | _ + 8 => goodI_ok
theorem bad_rep {w : World} {R : Nat → Prop} {ct cv : List Value} (n : Nat) (h1 : VT w R ct (badI n).ty) (h2 : VT w R cv (badI n).val) : VI w R ((badI n).cells ct cv none 0) (badI n) :=
  ⟨ct, cv, none, 0, rfl, h1, h2, by rw [badI_rules]; exact Sl.nil _ _ _ _, by rw [badI_rules]; simp [lenOk], badI_ok n⟩
theorem bad_cells (n : Nat) (a b c d e a' b' c' d' e' : Value) : (badI n).cells [a, b, c, d, e] [a', b', c', d', e'] none 0 = [.int .u8 (badI n).kind, .string (badI n).name, .int .i64 (badI n).params, a, b, c, d, e, a', b', c', d', e', .int .i64 (badI n).height, .string (badI n).block, .string (badI n).of_, .int .i64 (badI n).fixed, .int .i64 (badI n).index, .int .i64 (badI n).no, .int .i64 (badI n).fields, .int .i64 (badI n).motives, .int .i64 (badI n).minors, .slice none 0 0, .int .i64 (badI n).ctors, .bool (badI n).record] := by
  unfold Inf.cells; rw [badI_rules]; rfl
end Go.Proofs.Ytnoghkpofpaeeaa


/-
  EnvWrong: its walk.
-/
namespace Go.Proofs.Ytnoghkpofpaeeaa
open Go Go.RowKit Go.Proofs.Bw
set_option linter.unusedVariables false
set_option linter.unusedSimpArgs false

def svI (x : Inf) (ct cv : List Value) : List SV := [.v (.int .u8 x.kind), .v (.string x.name), .v (.int .i64 x.params), .v (ct.getD 0 undef), .v (ct.getD 1 undef), .v (ct.getD 2 undef), .v (ct.getD 3 undef), .v (ct.getD 4 undef), .v (cv.getD 0 undef), .v (cv.getD 1 undef), .v (cv.getD 2 undef), .v (cv.getD 3 undef), .v (cv.getD 4 undef),
  .v (.int .i64 x.height), .v (.string x.block), .v (.string x.of_), .v (.int .i64 x.fixed), .v (.int .i64 x.index), .v (.int .i64 x.no), .v (.int .i64 x.fields), .v (.int .i64 x.motives), .v (.int .i64 x.minors), .v (.slice none 0 0), .v (.int .i64 x.ctors), .v (.bool x.record)]
set_option maxHeartbeats 4000000 in
set_option maxRecDepth 20000 in
theorem wrong_runs {R : Nat → Prop} (A0 : Option Addr) (l : List Inf) (c0 what : Nat) (w : World) (hl : Sl encInf w R A0 l) (hB : lenOk l.length c0) (hR : ∀ k, R k → k < w.heap.size) (hc : what ≤ 255) :
    Runs Try.prog 4 #[.slice A0 l.length c0, .int .u8 what] w fun v w' => v = .bool true ∧ Ext w w' := by
  refine Runs.of_vc (ρ := []) cx_ok [0, 1, 4, 5, 6, 7, 9, 10, 11, 13, 14, 15, 16, 17, 25, 31, 78, 82, 85, 88, 91, 94, 97, 100, 104, 114, 141] [.v _, .v _] Try.func4 rfl rfl rfl (Holds.nil w) ?_
  refine vcZ (Few_runs A0 l c0 w hl hB) (Holds.nil w) fun w1 x1 z1 hh1 => ?_
  refine Or.inl (And.intro (fun h => ?_) (fun h => ?_))
  · refine vcZ (works_runs w1) hh1 fun w2 x2 z2 hh2 => ?_
    exact ⟨rfl, x1.trans x2⟩
  have hfew : fewB l = true := by
    cases hq : fewB l with
    | true => rfl
    | false => rw [hq] at h; cases h
  have hlen : l.length ≤ 20 := by
    rw [hfew] at h
    have : decide (20 < (l.length : Int)) = false := h
    have := of_decide_eq_false this
    omega
  have hrls := fewB_rls hfew
  refine vcV (New_x w1 (fun _ => False) fun k h => h) hh1 fun v2 w2 x2 z2 hh2 p2 => ?_
  obtain ⟨e, m, rfl, hE2⟩ := p2
  have x1s := x1.size
  refine vLoop_upd (σ := Nat) [6, 28, 29, 30, 31, 32, 33, 34, 35, 36, 37, 38, 39, 40] (fun i => [(6, .v (.int .i64 i))]) [] (fun _ => [])
    (fun i w' => Ext w w' ∧ i ≤ l.length ∧ w2.heap.size ≤ w'.heap.size ∧ ∃ A c, EX w' (fun _ => False) w1.heap.size e m A c (envL l i)) (fun i => l.length - i) 0 (fun _ => ⟨rfl, rfl⟩)
    ⟨(by repeat (first | exact trivial | refine And.intro rfl ?_)), (by repeat (first | exact trivial | refine And.intro rfl ?_)), (by repeat (first | exact trivial | refine And.intro rfl ?_)), (by repeat (first | exact trivial | refine And.intro rfl ?_)), x1.trans x2, Nat.zero_le _, Nat.le_refl _, none, 0, hE2⟩ ?_
  rintro i w3 hh3 ⟨x3, hi, z3, A, c, hE⟩
  have r3 := hE.lt
  refine Or.inl (And.intro (fun h => ?_) (fun h => ?_))
  · have hil : i < l.length := by have := of_decide_eq_true h; omega
    obtain ⟨a1, cs, ha1, hRa, hrow, hv⟩ := hl.at hil
    have hs := envL_succ l i hil
    have hxr := hrls _ (List.getElem_mem hil)
    generalize l[i] = x at *
    generalize envL l i = L at *
    have hv3 : VI w3 R cs x := VI.ext hv x3
    obtain ⟨ctx, cvx, rax, rcx, rfl, htyx, hvlx, hrux, hrlx, hokx⟩ := hv; obtain ⟨kxt, nxt, sxt, lsxt, tsxt, laxt, lcxt, taxt, tcxt, etyx, rfl, hkxt, hnxt, hsxt, hllxt, hltxt, hLxt, hTxt⟩ := htyx.inv; obtain ⟨kxv, nxv, sxv, lsxv, tsxv, laxv, lcxv, taxv, tcxv, evlx, rfl, hkxv, hnxv, hsxv, hllxv, hltxv, hLxv, hTxv⟩ := hvlx.inv
    refine OpT.indexAddr Try.underlying22 Try.sizeOf35 rfl rfl ha1 (by first | omega | (simp only [lenOk] at *; omega)) ?_; refine Lands.v hh3 ?_
    refine OpT.loadA Try.isAgg35 (by exact Try.sizeOf35) rfl (hrow.ext x3) ?_; refine Lands.ret (s := .a [.v (.int .u8 x.kind), .v (.string x.name), .v (.int .i64 x.params), .v (.int .u8 kxt), .v (.int .i64 nxt), .v (.string sxt), .v (.slice laxt lsxt.length lcxt), .v (.slice taxt tsxt.length tcxt), .v (.int .u8 kxv), .v (.int .i64 nxv), .v (.string sxv), .v (.slice laxv lsxv.length lcxv), .v (.slice taxv tsxv.length tcxv), .v (.int .i64 x.height), .v (.string x.block), .v (.string x.of_), .v (.int .i64 x.fixed), .v (.int .i64 x.index), .v (.int .i64 x.no), .v (.int .i64 x.fields), .v (.int .i64 x.motives), .v (.int .i64 x.minors), .v (.slice rax x.rules.length rcx), .v (.int .i64 x.ctors), .v (.bool x.record)]) rfl rfl hh3 ?_
    refine OpT.buildE (E := encInf) (R := R) (vs := [_]) (l := [x]) Try.zeroValue35 (.cons rfl (.nil)) Try.underlying22 Try.sizeOf35 rfl rfl (Reps.cons hv3 (Reps.nil _ _ _)) rfl rfl hh3 fun w4 g4 e4 x4 z4 o4 hh4 => ?_
    refine vcM (Add_x e m A _ c 1 L [x] w4 (hE.ext x4) (fun k hk => hk.elim) o4.sl (fun k hk => ⟨⟨hk.2, id⟩, fun hm => ?_⟩) (by simp [lenOk]) (by simp) (by simpa using hxr)) hh4 trivial fun v5 w5 m5 z5 hh5 p5 => ?_
    · have := r3 k hm
      rcases hk.1 with h | h
      · have := hR k h; omega
      · omega
    obtain ⟨rfl, A5, c5, hE5, n5⟩ := p5
    have y5 : Ext w w5 := (x3.trans x4).trans' m5 fun k hk hs => by have := r3 k hs; omega
    refine vsd (by simp only [inKind]; simp only [lenOk] at *; omega) ?_
    exact Exists.intro (i + 1) ⟨by omega, esub_over (by repeat (first | exact trivial | refine And.intro rfl ?_)) (by repeat (first | exact trivial | refine And.intro rfl ?_)), hsub_over (by repeat (first | exact trivial | refine And.intro rfl ?_)) (by repeat (first | exact trivial | refine And.intro rfl ?_)), y5, hil, by omega, A5, c5, by rw [hs]; exact hE5⟩
  · have hi' : i = l.length := by have := of_decide_eq_false h; omega
    have hLl := envL_len l i hi
    have hG := Good.env l i hi
    generalize envL l i = L at *
    -- base'
    refine (S_runs w3).mono ?_
    rintro _ w4 ⟨x4, cs4, rfl, hv4⟩
    have hh4 := hh3.ext x4
    have z4 := x4.size
    obtain ⟨ks, ns, ss, lss, tss, las, lcs, tas, tcs, es, rfl, hks, hns, hss, hlls, hlts, hLs, hTs⟩ := hv4.inv
    refine Lands.ret (s := .a [.v (.int .u8 ks), .v (.int .i64 ns), .v (.string ss), .v (.slice las lss.length lcs), .v (.slice tas tss.length tcs)]) rfl rfl hh4 ?_
    have hvb : VI w4 (fun k => w3.heap.size ≤ k ∧ k < w4.heap.size) _ (axI sBase tS) := ax_rep sBase hv4 (by decide)
    refine OpT.buildE (E := encInf) (R := (fun k => w3.heap.size ≤ k ∧ k < w4.heap.size)) (vs := [_]) (l := [axI sBase tS]) Try.zeroValue35 (.cons rfl (.nil)) Try.underlying22 Try.sizeOf35 rfl rfl (Reps.cons hvb (Reps.nil _ _ _)) rfl rfl hh4 fun w5 g5 e5 x5 z5 o5 hh5 => ?_
    have y5 := x4.trans x5
    refine vcM (Add_x e m A _ c 1 L [axI sBase tS] w5 (hE.ext y5) (fun k hk => hk.elim) o5.sl (fun k hk => ⟨⟨hk.2, id⟩, fun hm => ?_⟩) (by simp [lenOk]) (by simp) (by simp [axI])) hh5 trivial fun v6 w6 m6 z6 hh6 p6 => ?_
    · have := r3 k hm; have := hk.1; omega
    obtain ⟨rfl, A6, c6, hE6, n6⟩ := p6
    have y6 : Ext w w6 := (x3.trans y5).trans' m6 fun k hk hs => by have := r3 k hs; omega
    have hG6 := hG.one (axI sBase tS)
    have hL6 : (addL L [axI sBase tS]).length ≤ 22 := by
      by_cases ha : addE L [axI sBase tS] = 0
      · rw [addL_one ha]; simp; omega
      · rw [addL_no ha]; omega
    generalize addL L [axI sBase tS] = L6 at *
    generalize addE L [axI sBase tS] = E6 at *
    have r6 := hE6.lt
    -- good'
    refine (S_runs w6).mono ?_
    rintro _ w7 ⟨x7, cs7, rfl, hv7⟩
    have hh7 := hh6.ext x7
    have z7 := x7.size
    obtain ⟨kg, ng, sg, lsg, tsg, lag, lcg, tag, tcg, eg, rfl, hkg, hng, hsg, hllg, hltg, hLg, hTg⟩ := hv7.inv
    refine Lands.ret (s := .a [.v (.int .u8 kg), .v (.int .i64 ng), .v (.string sg), .v (.slice lag lsg.length lcg), .v (.slice tag tsg.length tcg)]) rfl rfl hh7 ?_
    refine vcZ (C_runs sBase w7) hh7 fun w8 x8 z8 hh8 => ?_
    intro g9 w9 e9 x9 z9 hh9
    intro w10 m10 z10 hh10
    replace m10 : Upd g9 w9 w10 := m10
    have y10 : Ext w6 w10 := (x7.trans (x8.trans x9)).upd m10 (by omega)
    have hvg : ∀ w', Ext w7 w' → VI w' (fun k => w6.heap.size ≤ k ∧ k < w7.heap.size) _ goodI := fun w' x' => df_rep sGood (hv7.ext x') (tC_rep sBase (by decide) w' _) (by decide)
    have y710 : Ext w7 w10 := (x8.trans x9).upd m10 (by omega)
    refine (Find_x e m A6 c6 L6 sGood w10 (hE6.ext y10) (fun k h => h.elim)).mono ?_
    rintro _ w11 ⟨x11, cs11, rfl, hv11⟩
    have hh11 := hh10.ext x11
    have z11 := x11.size
    have hXG : getI L6 sGood = getI L6 sGood := rfl
    generalize getI L6 sGood = XG at hv11
    obtain ⟨ctG, cvG, raG, rcG, rfl, htyG, hvlG, hruG, hrlG, hokG⟩ := hv11; obtain ⟨kGt, nGt, sGt, lsGt, tsGt, laGt, lcGt, taGt, tcGt, etyG, rfl, hkGt, hnGt, hsGt, hllGt, hltGt, hLGt, hTGt⟩ := htyG.inv; obtain ⟨kGv, nGv, sGv, lsGv, tsGv, laGv, lcGv, taGv, tcGv, evlG, rfl, hkGv, hnGv, hsGv, hllGv, hltGv, hLGv, hTGv⟩ := hvlG.inv
    refine Lands.ret (s := .t [.a [.v (.int .u8 XG.kind), .v (.string XG.name), .v (.int .i64 XG.params), .v (.int .u8 kGt), .v (.int .i64 nGt), .v (.string sGt), .v (.slice laGt lsGt.length lcGt), .v (.slice taGt tsGt.length tcGt), .v (.int .u8 kGv), .v (.int .i64 nGv), .v (.string sGv), .v (.slice laGv lsGv.length lcGv), .v (.slice taGv tsGv.length tcGv), .v (.int .i64 XG.height), .v (.string XG.block), .v (.string XG.of_), .v (.int .i64 XG.fixed), .v (.int .i64 XG.index), .v (.int .i64 XG.no), .v (.int .i64 XG.fields), .v (.int .i64 XG.motives), .v (.int .i64 XG.minors), .v (.slice raG XG.rules.length rcG), .v (.int .i64 XG.ctors), .v (.bool XG.record)], .v (.bool (findI L6 sGood).isSome)]) rfl rfl hh11 ?_
    intro g12 w12 e12 x12 z12 hh12
    intro w13 m13 z13 hh13
    replace m13 : Upd g12 w12 w13 := m13
    have u13 : Ext w11 w13 := x12.upd m13 (by omega)
    have y13 : Ext w6 w13 := (y10).trans (x11.trans u13)
    refine (Find_x e m A6 c6 L6 sBase w13 (hE6.ext y13) (fun k h => h.elim)).mono ?_
    rintro _ w14 ⟨x14, cs14, rfl, hv14⟩
    have hh14 := hh13.ext x14
    have z14 := x14.size
    have hXB : getI L6 sBase = getI L6 sBase := rfl
    generalize getI L6 sBase = XB at hv14
    obtain ⟨ctB, cvB, raB, rcB, rfl, htyB, hvlB, hruB, hrlB, hokB⟩ := hv14; obtain ⟨kBt, nBt, sBt, lsBt, tsBt, laBt, lcBt, taBt, tcBt, etyB, rfl, hkBt, hnBt, hsBt, hllBt, hltBt, hLBt, hTBt⟩ := htyB.inv; obtain ⟨kBv, nBv, sBv, lsBv, tsBv, laBv, lcBv, taBv, tcBv, evlB, rfl, hkBv, hnBv, hsBv, hllBv, hltBv, hLBv, hTBv⟩ := hvlB.inv
    refine Lands.ret (s := .t [.a [.v (.int .u8 XB.kind), .v (.string XB.name), .v (.int .i64 XB.params), .v (.int .u8 kBt), .v (.int .i64 nBt), .v (.string sBt), .v (.slice laBt lsBt.length lcBt), .v (.slice taBt tsBt.length tcBt), .v (.int .u8 kBv), .v (.int .i64 nBv), .v (.string sBv), .v (.slice laBv lsBv.length lcBv), .v (.slice taBv tsBv.length tcBv), .v (.int .i64 XB.height), .v (.string XB.block), .v (.string XB.of_), .v (.int .i64 XB.fixed), .v (.int .i64 XB.index), .v (.int .i64 XB.no), .v (.int .i64 XB.fields), .v (.int .i64 XB.motives), .v (.int .i64 XB.minors), .v (.slice raB XB.rules.length rcB), .v (.int .i64 XB.ctors), .v (.bool XB.record)], .v (.bool (findI L6 sBase).isSome)]) rfl rfl hh14 ?_
    intro g15 w15 e15 x15 z15 hh15
    intro w16 m16 z16 hh16
    replace m16 : Upd g15 w15 w16 := m16
    have u16 : Ext w14 w16 := x15.upd m16 (by omega)
    have y16 : Ext w6 w16 := (y13).trans (x14.trans u16)
    refine (Find_x e m A6 c6 L6 sNob w16 (hE6.ext y16) (fun k h => h.elim)).mono ?_
    rintro _ w17 ⟨x17, cs17, rfl, hv17⟩
    have hh17 := hh16.ext x17
    have z17 := x17.size
    have hXO : getI L6 sNob = getI L6 sNob := rfl
    generalize getI L6 sNob = XO at hv17
    obtain ⟨ctO, cvO, raO, rcO, rfl, htyO, hvlO, hruO, hrlO, hokO⟩ := hv17; obtain ⟨kOt, nOt, sOt, lsOt, tsOt, laOt, lcOt, taOt, tcOt, etyO, rfl, hkOt, hnOt, hsOt, hllOt, hltOt, hLOt, hTOt⟩ := htyO.inv; obtain ⟨kOv, nOv, sOv, lsOv, tsOv, laOv, lcOv, taOv, tcOv, evlO, rfl, hkOv, hnOv, hsOv, hllOv, hltOv, hLOv, hTOv⟩ := hvlO.inv
    refine Lands.ret (s := .t [.a [.v (.int .u8 XO.kind), .v (.string XO.name), .v (.int .i64 XO.params), .v (.int .u8 kOt), .v (.int .i64 nOt), .v (.string sOt), .v (.slice laOt lsOt.length lcOt), .v (.slice taOt tsOt.length tcOt), .v (.int .u8 kOv), .v (.int .i64 nOv), .v (.string sOv), .v (.slice laOv lsOv.length lcOv), .v (.slice taOv tsOv.length tcOv), .v (.int .i64 XO.height), .v (.string XO.block), .v (.string XO.of_), .v (.int .i64 XO.fixed), .v (.int .i64 XO.index), .v (.int .i64 XO.no), .v (.int .i64 XO.fields), .v (.int .i64 XO.motives), .v (.int .i64 XO.minors), .v (.slice raO XO.rules.length rcO), .v (.int .i64 XO.ctors), .v (.bool XO.record)], .v (.bool (findI L6 sNob).isSome)]) rfl rfl hh17 ?_
    intro g18 w18 e18 x18 z18 hh18
    intro w19 m19 z19 hh19
    replace m19 : Upd g18 w18 w19 := m19
    have u19 : Ext w17 w19 := x18.upd m19 (by omega)
    have y19 : Ext w6 w19 := (y16).trans (x17.trans u19)
    have y1619 : Ext w16 w19 := x17.trans u19
    generalize hbg : (findI L6 sGood).isSome = bg at *
    generalize hbb : (findI L6 sBase).isSome = bb at *
    generalize hbn : (findI L6 sNob).isSome = bn at *
    refine vDrw_mk [11, 12] [0, 1, 2, 3, 4, 5, 6, 7, 8, 9, 10, 11, 12, 13, 14] rfl fun w20 x20 hh20 => ?_
    by_cases hgo : bg = false ∧ bb = true ∧ bn = false
    · obtain ⟨rfl, rfl, rfl⟩ := hgo
      refine vyes rfl ?_
      refine (S_runs w20).mono ?_
      rintro _ w21 ⟨x21, cs21, rfl, hv21⟩
      have hh21 := hh20.ext x21
      have z21 := x21.size
      obtain ⟨kq, nq, sq, lsq, tsq, laq, lcq, taq, tcq, eq, rfl, hkq, hnq, hsq, hllq, hltq, hLq, hTq⟩ := hv21.inv
      refine Lands.ret (s := .a [.v (.int .u8 kq), .v (.int .i64 nq), .v (.string sq), .v (.slice laq lsq.length lcq), .v (.slice taq tsq.length tcq)]) rfl rfl hh21 ?_
      refine And.intro x21 ?_
      refine vyes rfl ?_
      refine vcZ (rSame_runs XB.ty tS _ _ w21 _ _ (htyB.ext (u16.trans (y1619.trans (x20.trans x21)))) hv21) hh21 fun w22 x22 z22 hh22 => ?_
      have y22 : Ext w6 w22 := y19.trans (x20.trans (x21.trans x22))
      refine Or.inl (And.intro (fun h => ?_) (fun h => ?_))
      · refine vcZ (works_runs w22) hh22 fun w23 x23 z23 hh23 => ?_
        exact ⟨rfl, y6.trans (y22.trans x23)⟩
      intro g23 w23 e23 x23 z23 hh23
      intro w24 m24 z24 hh24
      replace m24 : Upd g23 w23 w24 := m24
      have y710' : Ext w7 w22 := (y710.trans (x11.trans (u13.trans (x14.trans (u16.trans (x17.trans u19)))))).trans (x20.trans (x21.trans x22))
      have q22 := y710'.size
      have z20 := x20.size
      have y724 : Ext w7 w24 := (y710'.trans x23).upd m24 (by omega)
      refine vsd (by omega) ?_
      refine vJoin_upd (σ := Nat × List Value × List Value) [15, 16, 83, 84, 87, 88, 89, 90, 91, 92, 93, 94, 95, 96, 97, 98, 99, 100, 101, 102, 103, 104, 105, 106, 107, 108, 109, 110, 111, 112, 113, 114, 115, 116, 117] (fun s => [(15, .v (.int .i64 (wantN s.1)))]) [4] (fun s => [(4, svI (badI s.1) s.2.1 s.2.2)])
        (fun s w' => Ext w7 w' ∧ w24.heap.size ≤ w'.heap.size ∧ s.1 ≤ 8 ∧ VT w' (fun k => w6.heap.size ≤ k) s.2.1 (badI s.1).ty ∧ VT w' (fun k => w6.heap.size ≤ k) s.2.2 (badI s.1).val) (fun _ => ⟨rfl, rfl⟩) (fun h => ?_) (fun h => ?_) ?_
      · intro w25 m25 z25 hh25
        replace m25 : Upd g23 w24 w25 := m25
        have y25 : Ext w7 w25 := (y724).upd m25 (by omega)
        exact Exists.intro ((0, [Value.int .u8 kg, Value.int .i64 ng, Value.string sg, Value.slice lag lsg.length lcg, Value.slice tag tsg.length tcg], [.int .u8 3, .int .i64 0, .string sBase, .slice none 0 0, .slice none 0 0])) ⟨esub_over (by repeat (first | exact trivial | refine And.intro rfl ?_)) (by repeat (first | exact trivial | refine And.intro rfl ?_)), hsub_over (by repeat (first | exact trivial | refine And.intro rfl ?_)) (by repeat (first | exact trivial | refine And.intro rfl ?_)), y25, by omega, by omega, (hv7.ext y25).mono fun k hk => hk.1, tC_rep sBase (by decide) w25 _⟩
      · refine Or.inl (And.intro (fun h => ?_) (fun h => ?_))
        · intro w25 m25 z25 hh25
          replace m25 : Upd g23 w24 w25 := m25
          have y25 : Ext w7 w25 := (y724).upd m25 (by omega)
          exact Exists.intro ((1, [Value.int .u8 kg, Value.int .i64 ng, Value.string sg, Value.slice lag lsg.length lcg, Value.slice tag tsg.length tcg], [.int .u8 3, .int .i64 0, .string sBase, .slice none 0 0, .slice none 0 0])) ⟨esub_over (by repeat (first | exact trivial | refine And.intro rfl ?_)) (by repeat (first | exact trivial | refine And.intro rfl ?_)), hsub_over (by repeat (first | exact trivial | refine And.intro rfl ?_)) (by repeat (first | exact trivial | refine And.intro rfl ?_)), y25, by omega, by omega, (hv7.ext y25).mono fun k hk => hk.1, tC_rep sBase (by decide) w25 _⟩
        · refine Or.inl (And.intro (fun h => ?_) (fun h => ?_))
          · intro w25 m25 z25 hh25
            replace m25 : Upd g23 w24 w25 := m25
            have y25 : Ext w7 w25 := (y724).upd m25 (by omega)
            exact Exists.intro ((2, [Value.int .u8 kg, Value.int .i64 ng, Value.string sg, Value.slice lag lsg.length lcg, Value.slice tag tsg.length tcg], [.int .u8 3, .int .i64 0, .string sBase, .slice none 0 0, .slice none 0 0])) ⟨esub_over (by repeat (first | exact trivial | refine And.intro rfl ?_)) (by repeat (first | exact trivial | refine And.intro rfl ?_)), hsub_over (by repeat (first | exact trivial | refine And.intro rfl ?_)) (by repeat (first | exact trivial | refine And.intro rfl ?_)), y25, by omega, by omega, (hv7.ext y25).mono fun k hk => hk.1, tC_rep sBase (by decide) w25 _⟩
          · refine Or.inl (And.intro (fun h => ?_) (fun h => ?_))
            · intro w25 m25 z25 hh25
              replace m25 : Upd g23 w24 w25 := m25
              have y25 : Ext w7 w25 := (y724).upd m25 (by omega)
              exact Exists.intro ((3, [Value.int .u8 kg, Value.int .i64 ng, Value.string sg, Value.slice lag lsg.length lcg, Value.slice tag tsg.length tcg], [.int .u8 3, .int .i64 0, .string sBase, .slice none 0 0, .slice none 0 0])) ⟨esub_over (by repeat (first | exact trivial | refine And.intro rfl ?_)) (by repeat (first | exact trivial | refine And.intro rfl ?_)), hsub_over (by repeat (first | exact trivial | refine And.intro rfl ?_)) (by repeat (first | exact trivial | refine And.intro rfl ?_)), y25, by omega, by omega, (hv7.ext y25).mono fun k hk => hk.1, tC_rep sBase (by decide) w25 _⟩
            · refine Or.inl (And.intro (fun h => ?_) (fun h => ?_))
              · intro w25 m25 z25 hh25
                replace m25 : Upd g23 w24 w25 := m25
                have y25 : Ext w7 w25 := (y724).upd m25 (by omega)
                exact Exists.intro ((4, [Value.int .u8 kg, Value.int .i64 ng, Value.string sg, Value.slice lag lsg.length lcg, Value.slice tag tsg.length tcg], [.int .u8 3, .int .i64 0, .string sBase, .slice none 0 0, .slice none 0 0])) ⟨esub_over (by repeat (first | exact trivial | refine And.intro rfl ?_)) (by repeat (first | exact trivial | refine And.intro rfl ?_)), hsub_over (by repeat (first | exact trivial | refine And.intro rfl ?_)) (by repeat (first | exact trivial | refine And.intro rfl ?_)), y25, by omega, by omega, (hv7.ext y25).mono fun k hk => hk.1, tC_rep sBase (by decide) w25 _⟩
              · refine Or.inl (And.intro (fun h => ?_) (fun h => ?_))
                · refine vcZ (V_runs 0 w24) hh24 fun w25 x25 z25 hh25 => ?_
                  intro w26 m26 z26 hh26
                  replace m26 : Upd g23 w25 w26 := m26
                  have y26 : Ext w7 w26 := (y724.trans x25).upd m26 (by omega)
                  exact Exists.intro ((5, [Value.int .u8 kg, Value.int .i64 ng, Value.string sg, Value.slice lag lsg.length lcg, Value.slice tag tsg.length tcg], [.int .u8 2, .int .i64 0, .string noS, .slice none 0 0, .slice none 0 0])) ⟨esub_over (by repeat (first | exact trivial | refine And.intro rfl ?_)) (by repeat (first | exact trivial | refine And.intro rfl ?_)), hsub_over (by repeat (first | exact trivial | refine And.intro rfl ?_)) (by repeat (first | exact trivial | refine And.intro rfl ?_)), y26, by omega, by omega, (hv7.ext y26).mono fun k hk => hk.1, tV_rep w26 _⟩
                · refine Or.inl (And.intro (fun h => ?_) (fun h => ?_))
                  · refine (S2_runs w24).mono ?_
                    rintro _ w25 ⟨x25, g25, rfl, b25, q25⟩
                    have hh25 := hh24.ext x25
                    have z25 := x25.size
                    refine Lands.ret (s := .a [.v (.int .u8 1), .v (.int .i64 0), .v (.string noS), .v (.slice (some ⟨g25, 0, none⟩) 1 1), .v (.slice none 0 0)]) rfl rfl hh25 ?_
                    intro g26 w26 e26 x26 z26 hh26
                    intro w27 m27 z27 hh27
                    replace m27 : Upd g26 w26 w27 := m27
                    refine OpT.indexAddr Try.underlying29 Try.sizeOf48 rfl rfl rfl (by first | omega | (simp only [lenOk] at *; omega)) ?_; refine Lands.v hh27 ?_
                    have b25l := b25.lt
                    have b27 : Box w27 g25 lZero.cells := (b25.ext x26).upd m27 (by omega)
                    refine OpT.indexAddrArr Try.underlying46 Try.sizeOf3 rfl rfl (by decide) ?_
                    refine Lands.v hh27 ?_
                    refine OpT.store (g := g25) (i := 1) (vs := lZero.cells) Try.sizeOf3 (v := .int .i64 0) rfl rfl rfl b27 rfl fun w28 m28 z28 b28 => ?_
                    have hh28 := hh27.mod m28 (outR.get (S := fun k => k = g25) (ρ := [g9, g12, g15, g18, g23, g26]) (by repeat (first | exact trivial | refine And.intro (fun h => by have h : _ = g25 := h; omega) ?_)))
                    refine Lands.v hh28 ?_
                    intro w29 m29 z29 hh29
                    replace m29 : Upd g23 w28 w29 := m29
                    have y29 : Ext w7 w29 := (((y724.trans (x25.trans x26)).upd m27 (by omega)).upd m28 (by omega)).upd m29 (by omega)
                    have b29 : Box w29 g25 lPar.cells := b28.upd m29 (by omega)
                    exact Exists.intro ((6, [.int .u8 1, .int .i64 0, .string noS, .slice (some ⟨g25, 0, none⟩) 1 1, .slice none 0 0], [.int .u8 3, .int .i64 0, .string sBase, .slice none 0 0, .slice none 0 0])) ⟨esub_over (by repeat (first | exact trivial | refine And.intro rfl ?_)) (by repeat (first | exact trivial | refine And.intro rfl ?_)), hsub_over (by repeat (first | exact trivial | refine And.intro rfl ?_)) (by repeat (first | exact trivial | refine And.intro rfl ?_)), y29, by omega, by omega, tLv_rep _ lPar_wf b29 _ (by show w6.heap.size ≤ g25; omega), tC_rep sBase (by decide) w29 _⟩
                  · refine Or.inl (And.intro (fun h => ?_) (fun h => ?_))
                    · refine vcZ (C_runs sNob w24) hh24 fun w25 x25 z25 hh25 => ?_
                      intro w26 m26 z26 hh26
                      replace m26 : Upd g23 w25 w26 := m26
                      have y26 : Ext w7 w26 := (y724.trans x25).upd m26 (by omega)
                      exact Exists.intro ((7, [Value.int .u8 kg, Value.int .i64 ng, Value.string sg, Value.slice lag lsg.length lcg, Value.slice tag tsg.length tcg], [.int .u8 3, .int .i64 0, .string sNob, .slice none 0 0, .slice none 0 0])) ⟨esub_over (by repeat (first | exact trivial | refine And.intro rfl ?_)) (by repeat (first | exact trivial | refine And.intro rfl ?_)), hsub_over (by repeat (first | exact trivial | refine And.intro rfl ?_)) (by repeat (first | exact trivial | refine And.intro rfl ?_)), y26, by omega, by omega, (hv7.ext y26).mono fun k hk => hk.1, tC_rep sNob (by decide) w26 _⟩
                    · refine vcZ (C_runs sGood w24) hh24 fun w25 x25 z25 hh25 => ?_
                      intro w26 m26 z26 hh26
                      replace m26 : Upd g23 w25 w26 := m26
                      have y26 : Ext w7 w26 := (y724.trans x25).upd m26 (by omega)
                      exact Exists.intro ((8, [Value.int .u8 kg, Value.int .i64 ng, Value.string sg, Value.slice lag lsg.length lcg, Value.slice tag tsg.length tcg], [.int .u8 3, .int .i64 0, .string sGood, .slice none 0 0, .slice none 0 0])) ⟨esub_over (by repeat (first | exact trivial | refine And.intro rfl ?_)) (by repeat (first | exact trivial | refine And.intro rfl ?_)), hsub_over (by repeat (first | exact trivial | refine And.intro rfl ?_)) (by repeat (first | exact trivial | refine And.intro rfl ?_)), y26, by omega, by omega, (hv7.ext y26).mono fun k hk => hk.1, tC_rep sGood (by decide) w26 _⟩
      rintro ⟨n, ct, cv⟩ w30 hh30 ⟨y30, z30, hn, hty30, hvl30⟩
      have hn : n ≤ 8 := hn
      have hvi := (encInf.small (bad_rep n hty30 hvl30) : VI _ _ _ _)
      have hty0 : VT w30 _ ct (badI n).ty := hty30
      have hvl0 : VT w30 _ cv (badI n).val := hvl30
      obtain ⟨kbt, nbt, sbt, lsbt, tsbt, labt, lcbt, tabt, tcbt, ebt, rfl, hkbt, hnbt, hsbt, hllbt, hltbt, hLbt, hTbt⟩ := hty0.inv
      obtain ⟨kbv, nbv, sbv, lsbv, tsbv, labv, lcbv, tabv, tcbv, ebv, rfl, hkbv, hnbv, hsbv, hllbv, hltbv, hLbv, hTbv⟩ := hvl0.inv
      rw [bad_cells] at hvi
      have hE30 := hE6.ext (x7.trans y30)
      refine vcV (List_runs e m A6 c6 L6 w30 hE30) hh30 fun v31 w31 x31 z31 hh31 p31 => ?_
      obtain ⟨A31, c31, rfl, _⟩ := p31
      have hvi31 := encInf.ext hvi x31
      refine OpT.buildE (E := encInf) (R := (fun k => w6.heap.size ≤ k ∧ k < w30.heap.size)) (vs := [_]) (l := [badI n]) Try.zeroValue35 (.cons rfl (.nil)) Try.underlying22 Try.sizeOf35 rfl rfl (Reps.cons hvi31 (Reps.nil _ _ _)) rfl rfl hh31 fun w32 g32 e32 x32 z32 o32 hh32 => ?_
      have q30 := y30.size
      have hbe : addE L6 [badI n] = wantN n := by rw [addE_1 (by omega)]; exact bad_E hbg hbb hbn n hn
      have hwn : wantN n ≠ 0 := by unfold wantN; split <;> decide
      refine vcM (Add_x e m A6 _ c6 1 L6 [badI n] w32 (hE30.ext (x31.trans x32)) (fun k hk => hk.elim) o32.sl (fun k hk => ⟨⟨hk.2, id⟩, fun hm => ?_⟩) (by simp [lenOk]) (by simp) (by simp [badI_rules])) hh32 (by repeat (first | exact trivial | refine And.intro (fun h => by have := r6 _ h; omega) ?_)) fun v33 w33 m33 z33 hh33 p33 => ?_
      · have := r6 k hm; have := hk.1; omega
      obtain ⟨rfl, A33, c33, hE33, n33⟩ := p33
      rw [show addL L6 [badI n] = L6 from addL_no (by rw [hbe]; exact hwn)] at hE33
      rw [hbe]
      have r33 := hE33.lt
      have N33 : ∀ k, mine e m A33 k → k < w6.heap.size ∨ w32.heap.size ≤ k := fun k hk => (n33 k hk).imp (fun h => (r6 k h).2) id
      have hvi33 : VI w33 _ _ (badI n) := encInf.mod (encInf.ext hvi31 x32) m33 (fun k hk hm => by have := r6 k hm; omega)
      have hvg33 : VI w33 _ _ goodI := encInf.mod (hvg w32 (y30.trans (x31.trans x32))) m33 (fun k hk hm => by have := r6 k hm; omega)
      have hvg33' := encInf.mono hvg33 (R' := fun k => w6.heap.size ≤ k ∧ k < w30.heap.size) fun k hk => by omega
      refine vyes (gT (b := !decide (wantN n = wantN n)) (by simp)) ?_
      refine OpT.buildE (E := encInf) (R := (fun k => w6.heap.size ≤ k ∧ k < w30.heap.size)) (vs := [_, _]) (l := [goodI, badI n]) Try.zeroValue35 (.cons rfl (.cons rfl (.nil))) Try.underlying22 Try.sizeOf35 rfl rfl (Reps.cons hvg33' (Reps.cons hvi33 (Reps.nil _ _ _))) rfl rfl hh33 fun w34 g34 e34 x34 z34 o34 hh34 => ?_
      have hE2 : addE L6 [goodI, badI n] ≠ 0 := addE_2 (by omega) (by rw [bad_2 hbb n hn]; decide)
      refine vyes (gT (b := !decide (wantN n = wantN n)) (by simp)) ?_
      refine vcM (Add_x e m A33 _ c33 2 L6 [goodI, badI n] w34 (hE33.ext x34) (fun k hk => hk.elim) o34.sl (fun k hk => ⟨⟨hk.2, id⟩, fun hm => ?_⟩) (by simp [lenOk]) (by simp) (by simp [badI_rules]; exact Nat.zero_le _)) hh34 (by repeat (first | exact trivial | refine And.intro (fun h => by have := r33 _ h; have := N33 _ h; omega) ?_)) fun v35 w35 m35 z35 hh35 p35 => ?_
      · have := r33 k hm; have := N33 k hm; have := hk.1; omega
      obtain ⟨rfl, A35, c35, hE35, n35⟩ := p35
      rw [show addL L6 [goodI, badI n] = L6 from if_neg hE2] at hE35
      generalize addE L6 [goodI, badI n] = E2 at *
      have r35 := hE35.lt
      have N35 : ∀ k, mine e m A35 k → k < w6.heap.size ∨ w32.heap.size ≤ k := fun k hk => by
        rcases n35 k hk with h | h
        · exact N33 k h
        · omega
      have hsl : sel (!decide (wantN n = wantN n)) true (decide (E2 = 0)) = false := by simp [sel, hE2]
      refine vyes (gT hsl) ?_
      refine vcV (List_runs e m A35 c35 L6 w35 hE35) hh35 fun v36 w36 x36 z36 hh36 p36 => ?_
      obtain ⟨A36, c36, rfl, _⟩ := p36
      refine Or.inl (And.intro (fun h => absurd h (by rw [hsl]; simp [sel])) (fun _ => ?_))
      have hvg36 : VI w36 _ _ goodI := encInf.ext (encInf.mod (encInf.ext hvg33' x34) m35 (fun k hk hm => by have := r33 k hm; have := N33 k hm; omega)) x36
      have M36 : Ext w w36 := by
        have M32 : Ext w w32 := y6.trans ((x7.trans y30).trans (x31.trans x32))
        have M33 := M32.trans' m33 fun k hk hs => by have := r6 k hs; omega
        have M35 := (M33.trans x34).trans' m35 fun k hk hs => by have := r33 k hs; omega
        exact M35.trans x36
      refine OpT.buildE (E := encInf) (R := (fun k => w6.heap.size ≤ k ∧ k < w30.heap.size)) (vs := [_]) (l := [goodI]) Try.zeroValue35 (.cons rfl (.nil)) Try.underlying22 Try.sizeOf35 rfl rfl (Reps.cons hvg36 (Reps.nil _ _ _)) rfl rfl hh36 fun w37 g37 e37 x37 z37 o37 hh37 => ?_
      have hga : addE L6 [goodI] = 0 := by rw [addE_1 (by omega)]; exact good_E hbg hbb
      refine vcM (Add_x e m A35 _ c35 1 L6 [goodI] w37 (hE35.ext (x36.trans x37)) (fun k hk => hk.elim) o37.sl (fun k hk => ⟨⟨hk.2, id⟩, fun hm => ?_⟩) (by simp [lenOk]) (by simp) (by simp; exact Nat.zero_le _)) hh37 (by repeat (first | exact trivial | refine And.intro (fun h => by have := r35 _ h; have := N35 _ h; omega) ?_)) fun v38 w38 m38 z38 hh38 p38 => ?_
      · have := r35 k hm; have := N35 k hm; have := hk.1; omega
      obtain ⟨rfl, A38, c38, hE38, n38⟩ := p38
      rw [hga]
      have hgh := good_H hbg hbb (fun x hx => (hE6.hts x hx).1) hga
      have hLl : (addL L6 [goodI]).length ≤ 23 := by rw [addL_one hga]; simp; omega
      have hb1 := heightB_le (addL L6 [goodI]) (tC sBase) hE38.hts
      generalize addL L6 [goodI] = L7 at *
      refine vyes rfl ?_
      refine vcZ (C_runs sGood w38) hh38 fun w39 x39 z39 hh39 => ?_
      refine vyes rfl ?_
      refine vcZ (Height_runs e m A38 c38 L7 (tC sGood) _ w39 (EA.ext hE38 x39) (tC_rep sGood (by decide) w39 (fun _ => False))) hh39 fun w40 x40 z40 hh40 => ?_
      refine vyes rfl ?_
      refine vcZ (C_runs sBase w40) hh40 fun w41 x41 z41 hh41 => ?_
      refine vyes rfl ?_
      refine vcZ (Height_runs e m A38 c38 L7 (tC sBase) _ w41 (EA.ext hE38 (x39.trans (x40.trans x41))) (tC_rep sBase (by decide) w41 (fun _ => False))) hh41 fun w42 x42 z42 hh42 => ?_
      refine And.intro (fun _ => by show inKind _ _; simp only [inKind]; omega) ?_
      have hfin : sel (decide ((0 : Int) = 0)) (decide (heightB L7 (tC sGood) = 1 + heightB L7 (tC sBase))) false = true := by simp [sel, hgh]
      refine vyes (show (true && sel (decide ((0 : Int) = 0)) (decide (heightB L7 (tC sGood) = 1 + heightB L7 (tC sBase))) false) = true by rw [hfin]; rfl) ?_
      refine vcZ (works_runs w42) hh42 fun w43 x43 z43 hh43 => ?_
      refine ⟨?_, (M36.trans x37).trans' m38 (fun k hk hs => by have := r35 k hs; omega) |>.trans (x39.trans (x40.trans (x41.trans (x42.trans x43))))⟩
      show Value.bool (sel (sel (decide ((0 : Int) = 0)) (decide (heightB L7 (tC sGood) = 1 + heightB L7 (tC sBase))) false) true false) = Value.bool true
      rw [hfin]; rfl
    · have hsk : sel (sel bg true (!bb)) true bn = true := by cases bg <;> cases bb <;> cases bn <;> simp_all [sel]
      refine vskip (gF hsk) (And.intro (Ext.refl _) ?_)
      refine vskip (gF hsk) ?_
      refine Exists.intro (.v (.bool false)) (And.intro rfl (And.intro (fun w' x hh h => by rw [hsk] at h; cases h) ?_))
      refine Or.inl (And.intro (fun _ => ?_) (fun h => by rw [hsk] at h; cases h))
      refine vcZ (works_runs w20) hh20 fun w23 x23 z23 hh23 => ?_
      exact ⟨rfl, y6.trans (y19.trans (x20.trans x23))⟩
end Go.Proofs.Ytnoghkpofpaeeaa

