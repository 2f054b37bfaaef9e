import Derived.Test.YtnoghkpofpaeeaaGreatEb
/-
  The law's own bounds: Few.
-/
namespace Go.Proofs.YtnoghkpofpaeeaaGreat
open Go Go.RowKit Go.Proofs.Bw
set_option linter.unusedVariables false
set_option linter.unusedSimpArgs false

theorem _root_.Go.Proofs.Bw.RowAt.sub {w : World} {p : Addr} {cs cs' : List Value} (h : RowAt w p cs) (k n : Nat) (e : (cs.drop k).take n = cs') : RowAt w (p.add k) cs' := by
  subst e
  refine RowAt.take (fun j u hu => ?_) n
  rw [List.getElem?_drop] at hu
  rw [Addr.add_add]
  exact h _ u hu
theorem gT {b : Bool} (h : b = false) : (true && !b) = true := by rw [h]; rfl
theorem gF {b : Bool} (h : b = true) : (true && !b) = false := by rw [h]; rfl
def rlsB (l : List Rl) : Bool := l.all fun r => !isDeep r.b
def fewI (x : Inf) : Bool := !(decide (20 < (x.rules.length : Int)) || isDeep x.ty || isDeep x.val || decide (100 < (x.name.size : Int))) && rlsB x.rules
def fewB (l : List Inf) : Bool := !decide (40 < (l.length : Int)) && l.all fewI
theorem all_drop {α : Type} (p : α → Bool) (l : List α) (i : Nat) (h : i < l.length) : (l.drop i).all p = (p l[i] && (l.drop (i + 1)).all p) := by
  rw [List.drop_eq_getElem_cons h, List.all_cons]
set_option maxHeartbeats 1000000 in
set_option maxRecDepth 20000 in
theorem Few_runs {R : Nat → Prop} (A : Option Addr) (l : List Inf) (c : Nat) (w : World) (hl : Sl encInf w R A l) (hB : lenOk l.length c) :
    Runs Tryz.prog 4 #[.slice A l.length c] w fun v w' => v = .bool (fewB l) ∧ Ext w w' := by
  refine Runs.of_vc (ρ := []) cx_ok [0, 2, 3, 4, 7, 11, 45, 53, 65] [.v _] Tryz.func4 rfl rfl rfl (Holds.nil w) ?_
  unfold fewB
  refine Or.inl (And.intro (fun h => ?_) (fun h => ?_))
  · have h : (40 < (l.length : Int)) := of_decide_eq_true h
    exact ⟨by rw [decide_eq_true h]; rfl, Ext.refl _⟩
  · rw [show decide (40 < (l.length : Int)) = false from h]
    refine vLoop_upd (σ := Nat) [2, 3, 4, 8, 9, 10, 11, 12, 13, 14, 15, 16, 17, 18, 19, 20, 21, 22, 23, 24, 25, 26, 27, 28, 29, 30, 31, 32, 33, 34, 35, 36, 37, 38, 39, 40, 41, 42, 43, 44, 45, 46, 47, 48, 49, 50, 51, 52, 53, 54, 55, 56, 57, 58, 59, 60, 61, 62, 63, 64, 65] (fun i => [(3, .v (.int .i64 i))]) [] (fun _ => []) (fun i w' => Ext w w' ∧ i ≤ l.length ∧ l.all fewI = (l.drop i).all fewI) (fun i => l.length - i) 0 (fun _ => ⟨rfl, rfl⟩)
      ⟨(by repeat (first | exact trivial | refine And.intro rfl ?_)), (by repeat (first | exact trivial | refine And.intro rfl ?_)), (by repeat (first | exact trivial | refine And.intro rfl ?_)), (by repeat (first | exact trivial | refine And.intro rfl ?_)), Ext.refl _, Nat.zero_le _, rfl⟩ ?_
    rintro i w1 hh1 ⟨x1, hi, hx⟩
    refine Or.inl (And.intro (fun h => ?_) (fun h => ?_))
    · have hil : i < l.length := by have := of_decide_eq_true h; omega
      rw [all_drop fewI l i hil] at hx
      obtain ⟨a1, cs, ha1, _, hrow, hv⟩ := (hl.ext x1).at hil
      generalize l[i] = x at *
      have hv : VI w1 R cs x := hv
      obtain ⟨ct, cv, ra, rc, rfl, hty, hvl, hru, hrl, hok⟩ := hv; obtain ⟨kt, nt, st, lst, tst, lat, lct, tat, tct, ety, rfl, hkt, hnt, hst, hllt, hltt, hLt, hTt⟩ := hty.inv; obtain ⟨kv, nv, sv, lsv, tsv, lav, lcv, tav, tcv, evl, rfl, hkv, hnv, hsv, hllv, hltv, hLv, hTv⟩ := hvl.inv
      refine OpT.indexAddr Tryz.underlying22 Tryz.sizeOf46 rfl rfl ha1 (by first | omega | (simp only [lenOk] at *; omega)) ?_; refine Lands.v hh1 ?_
      refine OpT.load Tryz.isAgg44 rfl (hrow.cell 22 rfl) ?_; refine Lands.v hh1 ?_
      have hfx : fewI x = (!(decide (20 < (x.rules.length : Int)) || isDeep x.ty || isDeep x.val || decide (100 < (x.name.size : Int))) && rlsB x.rules) := rfl
      cases h1 : decide (20 < (x.rules.length : Int)) with
      | true =>
        refine vskip (gF (by simp [sel, *])) ?_
        refine vskip (gF (by simp [sel, *])) ?_
        refine vskip (gF (by simp [sel, *])) ?_
        refine vskip (gF (by simp [sel, *])) ?_
        refine OpT.pickT rfl (by simp [sel, *]) rfl ?_
        refine Lands.v hh1 ?_
        refine vskip rfl ?_
        refine vskip rfl ?_
        refine vskip rfl ?_
        refine vskip rfl ?_
        refine OpT.pickT rfl rfl rfl ?_
        refine Lands.v hh1 ?_
        refine vskip rfl ?_
        refine vskip rfl ?_
        refine vskip rfl ?_
        refine vskip rfl ?_
        refine vskip rfl ?_
        refine OpT.pickT rfl rfl rfl ?_
        refine Lands.v hh1 ?_
        refine Or.inl (And.intro (fun _ => ?_) (fun hx => nomatch (rfl).symm.trans hx))
        refine ⟨?_, x1⟩
        have hf : fewI x = false := by rw [hfx, h1]; rfl
        rw [hx, hf]; rfl
      | false =>
        refine vyes (gT h1) ?_
        refine OpT.indexAddr Tryz.underlying22 Tryz.sizeOf46 rfl rfl ha1 (by first | omega | (simp only [lenOk] at *; omega)) ?_; refine Lands.v hh1 ?_
        refine vyes (gT h1) ?_
        refine OpT.loadA Tryz.isAgg27 (by exact Tryz.sizeOf27) rfl (hrow.sub 3 5 rfl) ?_; refine Lands.ret (s := .a [.v (.int .u8 kt), .v (.int .i64 nt), .v (.string st), .v (.slice lat lst.length lct), .v (.slice tat tst.length tct)]) rfl rfl hh1 ?_
        refine vyes (gT h1) ?_
        refine vcZ (rDeep_runs x.ty _ w1 R hty) hh1 fun w2 x2 z2 hh2 => ?_
        have hrow2 := hrow.ext x2
        cases h2 : isDeep x.ty with
        | true =>
          refine vskip (gF (by simp [sel, *])) ?_
          refine vskip (gF (by simp [sel, *])) ?_
          refine vskip (gF (by simp [sel, *])) ?_
          refine vskip (gF (by simp [sel, *])) ?_
          refine OpT.pickT rfl (by simp [sel, *]) rfl ?_
          refine Lands.v hh2 ?_
          refine vskip rfl ?_
          refine vskip rfl ?_
          refine vskip rfl ?_
          refine vskip rfl ?_
          refine vskip rfl ?_
          refine OpT.pickT rfl rfl rfl ?_
          refine Lands.v hh2 ?_
          refine Or.inl (And.intro (fun _ => ?_) (fun hx => nomatch (rfl).symm.trans hx))
          refine ⟨?_, x1.trans x2⟩
          have hf : fewI x = false := by rw [hfx, h1, h2]; rfl
          rw [hx, hf]; rfl
        | false =>
          refine vyes (gT (by simp [sel, *])) ?_
          refine OpT.indexAddr Tryz.underlying22 Tryz.sizeOf46 rfl rfl ha1 (by first | omega | (simp only [lenOk] at *; omega)) ?_; refine Lands.v hh2 ?_
          refine vyes (gT (by simp [sel, *])) ?_
          refine OpT.loadA Tryz.isAgg27 (by exact Tryz.sizeOf27) rfl (hrow2.sub 8 5 rfl) ?_; refine Lands.ret (s := .a [.v (.int .u8 kv), .v (.int .i64 nv), .v (.string sv), .v (.slice lav lsv.length lcv), .v (.slice tav tsv.length tcv)]) rfl rfl hh2 ?_
          refine vyes (gT (by simp [sel, *])) ?_
          refine vcZ (rDeep_runs x.val _ w2 R (hvl.ext x2)) hh2 fun w3 x3 z3 hh3 => ?_
          have hrow3 := hrow2.ext x3
          cases h3 : isDeep x.val with
          | true =>
            refine vskip (gF (by simp [sel, *])) ?_
            refine vskip (gF (by simp [sel, *])) ?_
            refine vskip (gF (by simp [sel, *])) ?_
            refine vskip (gF (by simp [sel, *])) ?_
            refine vskip (gF (by simp [sel, *])) ?_
            refine OpT.pickT rfl (by simp [sel, *]) rfl ?_
            refine Lands.v hh3 ?_
            refine Or.inl (And.intro (fun _ => ?_) (fun hx => nomatch (rfl).symm.trans hx))
            refine ⟨?_, x1.trans (x2.trans x3)⟩
            have hf : fewI x = false := by rw [hfx, h1, h2, h3]; rfl
            rw [hx, hf]; rfl
          | false =>
            refine vyes (gT (by simp [sel, *])) ?_
            refine OpT.indexAddr Tryz.underlying22 Tryz.sizeOf46 rfl rfl ha1 (by first | omega | (simp only [lenOk] at *; omega)) ?_; refine Lands.v hh3 ?_
            refine vyes (gT (by simp [sel, *])) ?_
            refine OpT.load Tryz.isAgg9 rfl (hrow3.cell 1 rfl) ?_; refine Lands.v hh3 ?_
            have y3 : Ext w w3 := x1.trans (x2.trans x3)
            have hrl3 : Sl encR w3 R ra x.rules := hru.ext (x2.trans x3)
            refine Or.inl (And.intro (fun h => ?_) (fun h => ?_))
            · have h : decide (100 < (x.name.size : Int)) = true := by simpa [sel, h1, h2, h3] using h
              refine ⟨?_, y3⟩
              have hf : fewI x = false := by rw [hfx, h1, h2, h3, h]; rfl
              rw [hx, hf]; rfl
            · have h : decide (100 < (x.name.size : Int)) = false := by simpa [sel, h1, h2, h3] using h
              have hf : fewI x = rlsB x.rules := by rw [hfx, h1, h2, h3, h]; rfl
              rw [hf] at hx
              refine vLoop_upd (σ := Nat) [2, 4, 46, 47, 48, 49, 50, 51, 52, 53, 54, 55, 56, 57, 58, 59, 60, 61, 62, 63, 64, 65] (fun j => [(3, .v (.int .i64 i)), (4, .v (.int .i64 j))]) [] (fun _ => []) (fun j w' => Ext w3 w' ∧ j ≤ x.rules.length ∧ rlsB x.rules = rlsB (x.rules.drop j)) (fun j => x.rules.length - j) 0 (fun _ => ⟨rfl, rfl⟩)
                ⟨(by repeat (first | exact trivial | refine And.intro rfl ?_)), (by repeat (first | exact trivial | refine And.intro rfl ?_)), (by repeat (first | exact trivial | refine And.intro rfl ?_)), (by repeat (first | exact trivial | refine And.intro rfl ?_)), Ext.refl _, Nat.zero_le _, rfl⟩ ?_
              rintro j w4 hh4 ⟨x4, hj, hy⟩
              have hrow4 := hrow3.ext x4
              refine OpT.indexAddr Tryz.underlying22 Tryz.sizeOf46 rfl rfl ha1 (by first | omega | (simp only [lenOk] at *; omega)) ?_; refine Lands.v hh4 ?_
              refine OpT.load Tryz.isAgg44 rfl (hrow4.cell 22 rfl) ?_; refine Lands.v hh4 ?_
              refine Or.inl (And.intro (fun h => ?_) (fun h => ?_))
              · have hjl : j < x.rules.length := by have := of_decide_eq_true h; omega
                rw [show rlsB (x.rules.drop j) = (!isDeep (x.rules[j]).b && rlsB (x.rules.drop (j + 1))) from all_drop _ x.rules j hjl] at hy
                obtain ⟨a4, cr, ha4, _, hrw, hr⟩ := (hrl3.ext x4).at hjl
                generalize x.rules[j] = r at *
                have hr : VR w4 R cr r := hr
                obtain ⟨cbr, rfl, hbor, hrfr, hrcr⟩ := hr; obtain ⟨krb, nrb, srb, lsrb, tsrb, larb, lcrb, tarb, tcrb, ebor, rfl, hkrb, hnrb, hsrb, hllrb, hltrb, hLrb, hTrb⟩ := hbor.inv
                refine OpT.indexAddr Tryz.underlying22 Tryz.sizeOf46 rfl rfl ha1 (by first | omega | (simp only [lenOk] at *; omega)) ?_; refine Lands.v hh4 ?_
                refine OpT.load Tryz.isAgg44 rfl (hrow4.cell 22 rfl) ?_; refine Lands.v hh4 ?_
                refine OpT.indexAddr Tryz.underlying44 Tryz.sizeOf56 rfl rfl ha4 (by first | omega | (simp only [lenOk] at *; omega)) ?_; refine Lands.v hh4 ?_
                refine OpT.loadA Tryz.isAgg27 (by exact Tryz.sizeOf27) rfl (hrw.sub 2 5 rfl) ?_; refine Lands.ret (s := .a [.v (.int .u8 krb), .v (.int .i64 nrb), .v (.string srb), .v (.slice larb lsrb.length lcrb), .v (.slice tarb tsrb.length tcrb)]) rfl rfl hh4 ?_
                refine vcZ (rDeep_runs r.b _ w4 R hbor) hh4 fun w5 x5 z5 hh5 => ?_
                refine Or.inl (And.intro (fun h => ?_) (fun h => ?_))
                · rw [h] at hy
                  exact ⟨by rw [hx, hy]; rfl, y3.trans (x4.trans x5)⟩
                · rw [h] at hy
                  refine vsd (by simp only [inKind]; have := hrl; simp only [lenOk] at this; omega) ?_
                  exact Exists.intro (j + 1) ⟨by omega, esub_over (by repeat (first | exact trivial | refine And.intro rfl ?_)) (by repeat (first | exact trivial | refine And.intro rfl ?_)), hsub_over (by repeat (first | exact trivial | refine And.intro rfl ?_)) (by repeat (first | exact trivial | refine And.intro rfl ?_)), x4.trans x5, hjl, hy⟩
              · obtain rfl : j = x.rules.length := by have := of_decide_eq_false h; omega
                rw [List.drop_length] at hy
                rw [hy] at hx
                refine vsd (by simp only [inKind]; have := hB; simp only [lenOk] at this; omega) ?_
                exact Exists.intro (i + 1) ⟨by omega, esub_over (by repeat (first | exact trivial | refine And.intro rfl ?_)) (by repeat (first | exact trivial | refine And.intro rfl ?_)), hsub_over (by repeat (first | exact trivial | refine And.intro rfl ?_)) (by repeat (first | exact trivial | refine And.intro rfl ?_)), y3.trans x4, hil, hx⟩
    · obtain rfl : i = l.length := by have := of_decide_eq_false h; omega
      rw [List.drop_length] at hx
      exact ⟨by rw [hx]; rfl, x1⟩
end Go.Proofs.YtnoghkpofpaeeaaGreat


/-
  Same of infos.
-/
namespace Go.Proofs.YtnoghkpofpaeeaaGreat
open Go Go.RowKit Go.Proofs.Bw
set_option linter.unusedVariables false
set_option linter.unusedSimpArgs false

def hdB (a b : Inf) : Bool := decide (a.kind = b.kind) && decide (a.name = b.name) && decide (a.params = b.params) && decide (a.height = b.height) && decide (a.block = b.block) && decide (a.of_ = b.of_) && decide (a.fixed = b.fixed) && decide (a.index = b.index) && decide (a.no = b.no) && decide (a.fields = b.fields) && decide (a.motives = b.motives) && decide (a.minors = b.minors) && decide (a.ctors = b.ctors) && decide (a.record = b.record) && decide ((a.rules.length : Int) = b.rules.length)
def rlB (a b : Rl) : Bool := decide (a.c = b.c) && decide (a.f = b.f) && sameB a.b b.b
def rlsS : List Rl → List Rl → Bool
  | a :: r, b :: q => rlB a b && rlsS r q
  | _, _ => true
def infB (a b : Inf) : Bool := hdB a b && rlsS a.rules b.rules && sameB a.ty b.ty && sameB a.val b.val
theorem notT {b : Bool} (h : (!b) = true) : b = false := by cases b <;> simp_all
theorem notF {b : Bool} (h : (!b) = false) : b = true := by cases b <;> simp_all
theorem selOr (a b : Bool) : sel (!a) true (!b) = !(a && b) := by cases a <;> rfl
theorem rlsS_drop (a b : List Rl) (i : Nat) (h : i < a.length) (h' : i < b.length) : rlsS (a.drop i) (b.drop i) = (rlB a[i] b[i] && rlsS (a.drop (i + 1)) (b.drop (i + 1))) := by
  rw [List.drop_eq_getElem_cons h, List.drop_eq_getElem_cons h']; rfl
set_option maxHeartbeats 1000000 in
set_option maxRecDepth 20000 in
theorem rSameI_runs {R R' : Nat → Prop} (ca cb : List Value) (x y : Inf) (w : World) (hx : VI w R ca x) (hy : VI w R' cb y) :
    Runs Tryz.prog 14 #[.agg ca.toArray, .agg cb.toArray] w fun v w' => v = .bool (infB x y) ∧ Ext w w' := by
  obtain ⟨ctX, cvX, raX, rcX, rfl, htyX, hvlX, hruX, hrlX, hokX⟩ := hx; obtain ⟨kXt, nXt, sXt, lsXt, tsXt, laXt, lcXt, taXt, tcXt, etyX, rfl, hkXt, hnXt, hsXt, hllXt, hltXt, hLXt, hTXt⟩ := htyX.inv; obtain ⟨kXv, nXv, sXv, lsXv, tsXv, laXv, lcXv, taXv, tcXv, evlX, rfl, hkXv, hnXv, hsXv, hllXv, hltXv, hLXv, hTXv⟩ := hvlX.inv
  obtain ⟨ctY, cvY, raY, rcY, rfl, htyY, hvlY, hruY, hrlY, hokY⟩ := hy; obtain ⟨kYt, nYt, sYt, lsYt, tsYt, laYt, lcYt, taYt, tcYt, etyY, rfl, hkYt, hnYt, hsYt, hllYt, hltYt, hLYt, hTYt⟩ := htyY.inv; obtain ⟨kYv, nYv, sYv, lsYv, tsYv, laYv, lcYv, taYv, tcYv, evlY, rfl, hkYv, hnYv, hsYv, hllYv, hltYv, hLYv, hTYv⟩ := hvlY.inv
  refine Runs.of_vc (ρ := []) cx_ok [0, 1, 2, 3, 4, 5, 110, 115, 161] [.a [.v (.int .u8 x.kind), .v (.string x.name), .v (.int .i64 x.params), .v (.int .u8 kXt), .v (.int .i64 nXt), .v (.string sXt), .v (.slice laXt lsXt.length lcXt), .v (.slice taXt tsXt.length tcXt), .v (.int .u8 kXv), .v (.int .i64 nXv), .v (.string sXv), .v (.slice laXv lsXv.length lcXv), .v (.slice taXv tsXv.length tcXv), .v (.int .i64 x.height), .v (.string x.block), .v (.string x.of_), .v (.int .i64 x.fixed), .v (.int .i64 x.index), .v (.int .i64 x.no), .v (.int .i64 x.fields), .v (.int .i64 x.motives), .v (.int .i64 x.minors), .v (.slice raX x.rules.length rcX), .v (.int .i64 x.ctors), .v (.bool x.record)], .a [.v (.int .u8 y.kind), .v (.string y.name), .v (.int .i64 y.params), .v (.int .u8 kYt), .v (.int .i64 nYt), .v (.string sYt), .v (.slice laYt lsYt.length lcYt), .v (.slice taYt tsYt.length tcYt), .v (.int .u8 kYv), .v (.int .i64 nYv), .v (.string sYv), .v (.slice laYv lsYv.length lcYv), .v (.slice taYv tsYv.length tcYv), .v (.int .i64 y.height), .v (.string y.block), .v (.string y.of_), .v (.int .i64 y.fixed), .v (.int .i64 y.index), .v (.int .i64 y.no), .v (.int .i64 y.fields), .v (.int .i64 y.motives), .v (.int .i64 y.minors), .v (.slice raY y.rules.length rcY), .v (.int .i64 y.ctors), .v (.bool y.record)]] Tryz.func14 rfl rfl rfl (Holds.nil w) ?_
  intro g1 w1 e1 x1 z1 hh1
  intro g2 w2 e2 x2 z2 hh2
  have y2 := x1.trans x2
  refine Or.inl (And.intro (fun h => ?_) (fun h => ?_))
  · have h : hdB x y = false := by
      simp only [selOr] at h
      exact notT h
    refine ⟨?_, y2⟩
    unfold infB; rw [h]; rfl
  · have h : hdB x y = true := by
      simp only [selOr] at h
      exact notF h
    have hlen : x.rules.length = y.rules.length := by
      unfold hdB at h
      rw [Bool.and_eq_true] at h
      have := of_decide_eq_true h.2
      omega
    unfold infB; rw [h, Bool.true_and]
    refine vLoop_upd (σ := Nat) [4, 5, 111, 112, 113, 114, 115, 116, 117, 118, 119, 120, 121, 122, 123, 124, 125, 126, 127, 128, 129, 130, 131, 132, 133, 134, 135, 136, 137, 138, 139, 140, 141, 142, 143, 144, 145, 146, 147, 148, 149, 150, 151, 152, 153, 154, 155, 156, 157, 158, 159, 160, 161] (fun i => [(2, .p 0 0), (3, .p 1 0), (5, .v (.int .i64 i))]) [] (fun _ => []) (fun i w' => Ext w w' ∧ i ≤ x.rules.length ∧ rlsS x.rules y.rules = rlsS (x.rules.drop i) (y.rules.drop i)) (fun i => x.rules.length - i) 0 (fun _ => ⟨rfl, rfl⟩)
      ⟨(by repeat (first | exact trivial | refine And.intro rfl ?_)), (by repeat (first | exact trivial | refine And.intro rfl ?_)), (by repeat (first | exact trivial | refine And.intro rfl ?_)), (by repeat (first | exact trivial | refine And.intro rfl ?_)), y2, Nat.zero_le _, rfl⟩ ?_
    rintro i w3 hh3 ⟨y3, hi, hs⟩
    refine Or.inl (And.intro (fun h => ?_) (fun h => ?_))
    · have hil : i < x.rules.length := by have := of_decide_eq_true h; omega
      have hil' : i < y.rules.length := by omega
      rw [rlsS_drop _ _ i hil hil'] at hs
      obtain ⟨a, cr, ha, _, hra, hr⟩ := (hruX.ext y3).at hil
      obtain ⟨b, cq, hb, _, hrb, hq⟩ := (hruY.ext y3).at hil'
      generalize x.rules[i] = r at *
      generalize y.rules[i] = q at *
      have hr : VR w3 R cr r := hr
      have hq : VR w3 R' cq q := hq
      obtain ⟨cbr, rfl, hbor, hrfr, hrcr⟩ := hr; obtain ⟨krb, nrb, srb, lsrb, tsrb, larb, lcrb, tarb, tcrb, ebor, rfl, hkrb, hnrb, hsrb, hllrb, hltrb, hLrb, hTrb⟩ := hbor.inv
      obtain ⟨cbq, rfl, hboq, hrfq, hrcq⟩ := hq; obtain ⟨kqb, nqb, sqb, lsqb, tsqb, laqb, lcqb, taqb, tcqb, eboq, rfl, hkqb, hnqb, hsqb, hllqb, hltqb, hLqb, hTqb⟩ := hboq.inv
      refine vDrw_mk [41] (.one 0 (.one 1 (.one 2 (.one 3 (.one 4 (.one 5 (.one 6 (.one 7 (.one 8 (.one 9 (.one 10 (.one 11 (.one 12 (.one 13 (.one 14 (.one 15 (.one 16 (.one 17 (.one 18 (.one 19 (.one 20 (.one 21 (.one 22 (.one 23 (.one 24 (.one 25 (.one 26 (.one 27 (.one 28 (.one 29 (.one 30 (.one 31 (.one 32 (.one 33 (.one 34 (.one 35 (.one 36 (.one 37 (.one 38 (.one 39 (.one 40 (.one 41 (.one 42 (.one 43 .nil)))))))))))))))))))))))))))))))))))))))))))) rfl fun w4 x4 hh4 => ?_
      replace hra := hra.ext x4
      replace hrb := hrb.ext x4
      refine Exists.intro (.v (.pointer (some (a.add (i * 7))))) (And.intro rfl (And.intro (fun w' xx hh => OpT.indexAddr Tryz.underlying44 Tryz.sizeOf56 rfl rfl ha (by simp only [lenOk] at *; omega) ⟨rfl, rfl⟩) ?_))
      refine Exists.intro (.v (.string r.c)) (And.intro rfl (And.intro (fun w' xx hh => OpT.load Tryz.isAgg9 rfl ((hra.ext xx).cell 0 rfl) ⟨rfl, rfl⟩) ?_))
      refine Exists.intro (.v (.pointer (some (b.add (i * 7))))) (And.intro rfl (And.intro (fun w' xx hh => OpT.indexAddr Tryz.underlying44 Tryz.sizeOf56 rfl rfl hb (by simp only [lenOk] at *; omega) ⟨rfl, rfl⟩) ?_))
      refine Exists.intro (.v (.string q.c)) (And.intro rfl (And.intro (fun w' xx hh => OpT.load Tryz.isAgg9 rfl ((hrb.ext xx).cell 0 rfl) ⟨rfl, rfl⟩) ?_))
      refine Exists.intro (.v (.pointer (some (a.add (i * 7))))) (And.intro rfl (And.intro (fun w' xx hh _ => OpT.indexAddr Tryz.underlying44 Tryz.sizeOf56 rfl rfl ha (by simp only [lenOk] at *; omega) ⟨rfl, rfl⟩) ?_))
      refine Exists.intro (.v (.int .i64 r.f)) (And.intro rfl (And.intro (fun w' xx hh _ => OpT.load Tryz.isAgg3 rfl ((hra.ext xx).cell 1 rfl) ⟨rfl, rfl⟩) ?_))
      refine Exists.intro (.v (.pointer (some (b.add (i * 7))))) (And.intro rfl (And.intro (fun w' xx hh _ => OpT.indexAddr Tryz.underlying44 Tryz.sizeOf56 rfl rfl hb (by simp only [lenOk] at *; omega) ⟨rfl, rfl⟩) ?_))
      refine Exists.intro (.v (.int .i64 q.f)) (And.intro rfl (And.intro (fun w' xx hh _ => OpT.load Tryz.isAgg3 rfl ((hrb.ext xx).cell 1 rfl) ⟨rfl, rfl⟩) ?_))
      refine Exists.intro (.v (.pointer (some (a.add (i * 7))))) (And.intro rfl (And.intro (fun w' xx hh _ => OpT.indexAddr Tryz.underlying44 Tryz.sizeOf56 rfl rfl ha (by simp only [lenOk] at *; omega) ⟨rfl, rfl⟩) ?_))
      refine Exists.intro (.a [.v (.int .u8 krb), .v (.int .i64 nrb), .v (.string srb), .v (.slice larb lsrb.length lcrb), .v (.slice tarb tsrb.length tcrb)]) (And.intro rfl (And.intro (fun w' xx hh _ => OpT.loadA Tryz.isAgg27 (by exact Tryz.sizeOf27) rfl ((hra.ext xx).sub 2 5 rfl) ⟨rfl, rfl⟩) ?_))
      refine Exists.intro (.v (.pointer (some (b.add (i * 7))))) (And.intro rfl (And.intro (fun w' xx hh _ => OpT.indexAddr Tryz.underlying44 Tryz.sizeOf56 rfl rfl hb (by simp only [lenOk] at *; omega) ⟨rfl, rfl⟩) ?_))
      refine Exists.intro (.a [.v (.int .u8 kqb), .v (.int .i64 nqb), .v (.string sqb), .v (.slice laqb lsqb.length lcqb), .v (.slice taqb tsqb.length tcqb)]) (And.intro rfl (And.intro (fun w' xx hh _ => OpT.loadA Tryz.isAgg27 (by exact Tryz.sizeOf27) rfl ((hrb.ext xx).sub 2 5 rfl) ⟨rfl, rfl⟩) ?_))
      refine Or.inl (Exists.intro (.bool (sameB r.b q.b)) (And.intro (fun _ => ?_) (fun w5 x5 hh5 => ?_)))
      · exact rSame_runs r.b q.b _ _ w4 R R' (hbor.ext x4) (hboq.ext x4)
      have e5 : rlB r q = (decide (r.c = q.c) && decide (r.f = q.f) && sameB r.b q.b) := rfl
      have y5 := y3.trans (x4.trans x5)
      refine Or.inl (And.intro (fun h => ?_) (fun h => ?_))
      · have h : rlB r q = false := by
          simp only [selOr] at h
          exact notT h
        rw [h] at hs
        exact ⟨by rw [hs]; rfl, y5⟩
      · have h : rlB r q = true := by
          simp only [selOr] at h
          exact notF h
        rw [h] at hs
        refine vsd (by simp only [inKind]; simp only [lenOk] at *; omega) ?_
        exact Exists.intro (i + 1) ⟨by omega, esub_over (by repeat (first | exact trivial | refine And.intro rfl ?_)) (by repeat (first | exact trivial | refine And.intro rfl ?_)), hsub_over (by repeat (first | exact trivial | refine And.intro rfl ?_)) (by repeat (first | exact trivial | refine And.intro rfl ?_)), y5, hil, hs⟩
    · have hil : i = x.rules.length := by have := of_decide_eq_false h; omega
      have hs : rlsS x.rules y.rules = true := by
        rw [hs, List.drop_eq_nil_of_le (by omega)]; rfl
      rw [hs, Bool.true_and]
      refine vcZ (rSame_runs x.ty y.ty _ _ w3 R R' (htyX.ext y3) (htyY.ext y3)) hh3 fun w4 x4 z4 hh4 => ?_
      have y4 := y3.trans x4
      cases h1 : sameB x.ty y.ty with
      | false =>
        refine vskip rfl ?_
        refine OpT.pickF rfl rfl rfl ?_
        refine Lands.v hh4 ?_
        exact ⟨rfl, y4⟩
      | true =>
        refine vyes rfl ?_
        refine vcZ (rSame_runs x.val y.val _ _ w4 R R' (hvlX.ext y4) (hvlY.ext y4)) hh4 fun w5 x5 z5 hh5 => ?_
        refine ⟨?_, y4.trans x5⟩
        cases sameB x.val y.val <;> rfl
end Go.Proofs.YtnoghkpofpaeeaaGreat


/-
  The chapter's example.
-/
namespace Go.Proofs.YtnoghkpofpaeeaaGreat
open Go Go.RowKit Go.Proofs.Bw
set_option linter.unusedVariables false
set_option linter.unusedSimpArgs false
def sA : ByteArray := ⟨#[65]⟩
def sB : ByteArray := ⟨#[66]⟩
def sc : ByteArray := ⟨#[99]⟩
def sD : ByteArray := ⟨#[68]⟩
def axI (s : ByteArray) (t : T) : Inf := ⟨1, s, 0, t, tZ, 0, noS, noS, 0, 0, 0, 0, 0, 0, [], 0, false⟩
def dfI (s : ByteArray) (t v : T) (h : Int) : Inf := ⟨2, s, 0, t, v, h, noS, noS, 0, 0, 0, 0, 0, 0, [], 0, false⟩
def L1 : List Inf := [axI sA tS]
def L2 : List Inf := [axI sA tS, dfI sD tS (tC sA) 1]
set_option maxRecDepth 100000
theorem w1E : addE [] [axI sA tS] = 0 := by decide +kernel
theorem w1L : addL [] [axI sA tS] = L1 := by unfold addL; rw [if_pos w1E]; rfl
theorem w2E : addE L1 [axI sA tS] = 5 := by decide +kernel
theorem w3E : addE L1 [axI sc (tC sB)] = 6 := by decide +kernel
theorem w4E : addE L1 [dfI sD tS (tC sA) 0] = 0 := by decide +kernel
theorem w4h : heightI L1 (dfI sD tS (tC sA) 0) = 1 := by decide +kernel
theorem w4L : addL L1 [dfI sD tS (tC sA) 0] = L2 := by
  unfold addL; rw [if_pos w4E]
  show L1 ++ [addOne L1 (dfI sD tS (tC sA) 0)] = L2
  unfold addOne; rw [w4h]; rfl
theorem w5 : findI L2 sD = some (dfI sD tS (tC sA) 1) := by rfl
theorem w6E : typE L2 (tC sA) = 0 := by decide +kernel
theorem w6T : typT L2 (tC sA) = tS := by rfl
theorem w7h : heightB L2 (tC sD) = 1 := by decide +kernel
/-! the environment, with all that is not its own and not in X there to be read -/
def EX (w : World) (X : Nat → Prop) (lo e m : Nat) (A : Option Addr) (c : Nat) (l : List Inf) : Prop := EA w (fun k => (k < w.heap.size ∧ ¬ X k) ∧ ¬ mine e m A k) lo e m A c l
section
variable {w w' : World} {X X' R : Nat → Prop} {lo e m c : Nat} {A : Option Addr} {l : List Inf}
theorem EA.wide {R2 : Nat → Prop} (h : EA w R lo e m A c l) (hr : ∀ k, R k → R2 k) (hf : ∀ k, R2 k → ¬ mine e m A k ∧ k < w.heap.size) : EA w R2 lo e m A c l := by
  obtain ⟨es, hM, hE⟩ := h.map
  exact ⟨h.box, ⟨es, hM, hE.mono hr⟩, h.own, h.ne, h.lo_, hf, h.hts, h.few, h.rls⟩
theorem EA.ex (h : EA w R lo e m A c l) (hX : ∀ k, R k → ¬ X k) : EX w X lo e m A c l :=
  h.wide (fun k hk => ⟨⟨(h.far k hk).2, hX k hk⟩, (h.far k hk).1⟩) fun k hk => ⟨hk.2, hk.1.1⟩
theorem EX.lt (h : EX w X lo e m A c l) : ∀ k, mine e m A k → lo ≤ k ∧ k < w.heap.size := h.mine_lt
theorem EX.mod {S : Nat → Prop} (h : EX w X lo e m A c l) (hm : Bw.Mod S w w') (hS : ∀ k, k < w.heap.size → S k → X k) (hX : ∀ k, X k → ¬ mine e m A k) (hX' : ∀ k, k < w.heap.size → X' k → X k) : EX w' X' lo e m A c l :=
  (EA.mod h hm (fun k hk hs => hX k (hS k hk hs)) (fun k hk hs => hk.1.2 (hS k hk.1.1 hs)) (fun k hk hs => .inr (hX k (hS k hk hs)))).ex fun k hk hx => hk.1.2 (hX' k hk.1.1 hx)
theorem EX.ext (h : EX w X lo e m A c l) (hm : Ext w w') : EX w' X lo e m A c l :=
  (EA.ext h hm).ex fun k hk => hk.1.2
end
theorem New_x (w : World) (X : Nat → Prop) (hX : ∀ k, ¬ X k) : Runs Tryz.prog 7 #[] w fun v w' => Ext w w' ∧ ∃ e m, v = .pointer (some ⟨e, 0, none⟩) ∧ EX w' X w.heap.size e m none 0 [] :=
  (New_runs w).mono fun v w' ⟨x, e, m, h1, h2⟩ => ⟨x, e, m, h1, h2.ex fun k _ => hX k⟩
theorem Add_x {X R' : Nat → Prop} {lo : Nat} (e m : Nat) (A B : Option Addr) (c bc : Nat) (l xs : List Inf) (w : World) (hE : EX w X lo e m A c l) (hX : ∀ k, X k → k < w.heap.size) (hl : Sl encInf w R' B xs) (hR' : ∀ k, R' k → (k < w.heap.size ∧ ¬ X k) ∧ ¬ mine e m A k) (hB : lenOk xs.length bc) (hsz : xs.length ≤ 1000000) (hrl : ∀ x ∈ xs, x.rules.length ≤ 1000) :
    Runs Tryz.prog 10 #[.pointer (some ⟨e, 0, none⟩), .slice B xs.length bc] w fun v w' => Bw.Mod (mine e m A) w w' ∧ v = .int .i64 (addE l xs) ∧
      ∃ A2 c2, EX w' X lo e m A2 c2 (addL l xs) ∧ (∀ k, mine e m A2 k → mine e m A k ∨ w.heap.size ≤ k) :=
  (Add_runs e m A B c bc l xs w hE hl hR' hB hsz hrl).mono fun v w' ⟨h1, h2, R2, A2, c2, h3, h4, h5, h6⟩ => ⟨h2, h1, A2, c2, h3.ex (fun k hk hx => by
    rcases h5 k hk with h | h
    · exact h.1.2 hx
    · have := hX k hx; omega), fun k hk => by
    rcases hk with hk | hk | hk
    · exact .inl (.inl hk)
    · exact .inl (.inr (.inl hk))
    · exact (h6 k hk).imp (fun h => .inr (.inr h)) id⟩
theorem Find_x {X : Nat → Prop} {lo : Nat} (e m : Nat) (A : Option Addr) (c : Nat) (l : List Inf) (s : ByteArray) (w : World) (hE : EX w X lo e m A c l) (hX : ∀ k, X k → k < w.heap.size) :
    Runs Tryz.prog 13 #[.pointer (some ⟨e, 0, none⟩), .string s] w fun v w' => Ext w w' ∧ ∃ cs : List Value, v = .tuple #[.agg cs.toArray, .bool (findI l s).isSome] ∧ VI w' (fun k => (k < w'.heap.size ∧ ¬ X k) ∧ ¬ mine e m A k) cs (getI l s) :=
  (Find_runs e m A c l s w hE).mono fun v w' ⟨x, cs, h1, h2⟩ => ⟨x, cs, h1, encInf.mono h2 fun k hk => by
    have := x.size
    rcases hk with hk | hk
    · exact ⟨⟨by have := hk.1.1; omega, hk.1.2⟩, hk.2⟩
    · exact ⟨⟨hk.2, fun hx => by have := hX k hx; omega⟩, fun hm => by have := hE.lt k hm; omega⟩⟩
theorem S_runs (w : World) : Runs Tryz.prog 12 #[] w fun v w' => Ext w w' ∧ ∃ cs : List Value, v = .agg cs.toArray ∧ VT w' (fun k => w.heap.size ≤ k ∧ k < w'.heap.size) cs tS :=
  (lS_runs w (fun k => w.heap.size ≤ k) fun k hk => hk).mono fun v w' ⟨cs, h1, h2, h3⟩ => ⟨h3, cs, h1, h2.small⟩
/-- a call that turns S, in which no box lies -/
theorem vcM {C : Cx} {ρ : List Nat} {H : Heap} {w : World} {f : Nat} {args : Array Value} {k : SV → List Nat → Heap → World → Prop} {S : Nat → Prop} {p : Value → World → Prop} (h : Runs C.P f args w fun u w' => Bw.Mod S w w' ∧ p u w') (hH : Holds ρ H w) (hρ : outR S ρ)
    (hk : ∀ v w', Bw.Mod S w w' → w.heap.size ≤ w'.heap.size → Holds ρ H w' → p v w' → k (.v v) ρ H w') : Runs C.P f args w (Lands ρ k) :=
  h.mono fun v w' ⟨m, hp⟩ => have hh := hH.mod m (outR.get hρ); Lands.v hh (hk v w' m m.size hh hp)
theorem notMine {e m g n : Nat} {A A2 : Option Addr} (h : ∀ k, mine e m A2 k → mine e m A k ∨ n ≤ k) (hg : ¬ mine e m A g) (hlt : g < n) : ¬ mine e m A2 g := fun hm => by
  rcases h g hm with h | h
  · exact hg h
  · omega
theorem EX.out {w : World} {X : Nat → Prop} {lo e m c g : Nat} {A : Option Addr} {l : List Inf} (h : EX w X lo e m A c l) (hg : w.heap.size ≤ g) : ¬ mine e m A g := fun hm => by have := h.lt g hm; omega
theorem C_runs (s : ByteArray) (w : World) : Runs Tryz.prog 24 #[.string s] w fun v w' => v = .agg #[.int .u8 3, .int .i64 0, .string s, .slice none 0 0, .slice none 0 0] ∧ Ext w w' := lC_runs s w
theorem i0 : i64ok 0 := by simp [i64ok]
theorem n0 : noS.size ≤ 9223372036854775807 := by decide
theorem tC_rep (s : ByteArray) (hs : s.size ≤ 1000) (w : World) (R : Nat → Prop) : VT w R [.int .u8 3, .int .i64 0, .string s, .slice none 0 0, .slice none 0 0] (tC s) :=
  VT.intro (by omega) (by simp [i64ok]) (by omega) (by simp [lenOk]) (by simp [lenOk]) (SlL.nil _ _ _) (SlT.nil _ _ _)
theorem ax_rep {w : World} {R : Nat → Prop} {cs : List Value} {t : T} (s : ByteArray) (hv : VT w R cs t) (hs : s.size ≤ 1000) : VI w R ((axI s t).cells cs noTc none 0) (axI s t) :=
  ⟨cs, noTc, none, 0, rfl, hv, tZ_rep _ _, Sl.nil _ _ _ _, by simp [lenOk, axI], ⟨by simp [axI], by show s.size ≤ _; omega, i0, i0, n0, n0, i0, i0, i0, i0, i0, i0, i0⟩⟩
theorem df_rep {w : World} {R : Nat → Prop} {cs cv : List Value} {t v : T} (s : ByteArray) (hv : VT w R cs t) (hu : VT w R cv v) (hs : s.size ≤ 1000) : VI w R ((dfI s t v 0).cells cs cv none 0) (dfI s t v 0) :=
  ⟨cs, cv, none, 0, rfl, hv, hu, Sl.nil _ _ _ _, by simp [lenOk, dfI], ⟨by simp [dfI], by show s.size ≤ _; omega, i0, i0, n0, n0, i0, i0, i0, i0, i0, i0, i0⟩⟩
end Go.Proofs.YtnoghkpofpaeeaaGreat


/-
  The chapter's example: its walk.
-/
namespace Go.Proofs.YtnoghkpofpaeeaaGreat
open Go Go.RowKit Go.Proofs.Bw
set_option linter.unusedVariables false
set_option linter.unusedSimpArgs false

set_option maxHeartbeats 2000000 in
set_option maxRecDepth 20000 in
theorem works_runs (w : World) : Runs Tryz.prog 6 #[] w fun v w' => v = .bool true ∧ Ext w w' := by
  refine Runs.of_vc cx_ok [0, 1, 2, 3, 4, 5, 6, 7, 8, 9, 10] [] Tryz.func6 rfl rfl rfl (Holds.nil _) ?_
  refine vcV (New_x w (fun _ => False) fun k h => h) (Holds.nil w) fun v1 w1 x1 z1 hh1 p1 => ?_
  obtain ⟨e, m, rfl, hE1⟩ := p1
  have r1 := hE1.lt
  refine (S_runs w1).mono ?_
  rintro _ w2 ⟨x2, cs2, rfl, hv2⟩
  have hh2 := hh1.ext x2
  have z2 := x2.size
  obtain ⟨ks, ns, ss, lss, tss, las, lcs, tas, tcs, es, rfl, hks, hns, hss, hlls, hlts, hLs, hTs⟩ := hv2.inv
  refine Lands.ret (s := .a [.v (.int .u8 ks), .v (.int .i64 ns), .v (.string ss), .v (.slice las lss.length lcs), .v (.slice tas tss.length tcs)]) rfl rfl hh2 ?_
  intro g3 w3 e3 x3 z3 hh3
  intro w4 m4 z4 hh4
  replace m4 : Upd g3 w3 w4 := m4
  have y4 : Ext w1 w4 := (x2.trans x3).upd m4 (by omega)
  have hvI : VI w4 (fun k => w1.heap.size ≤ k ∧ k < w2.heap.size) _ (axI sA tS) := ax_rep sA (hv2.ext (x3.upd m4 (by omega))) (by decide)
  refine OpT.buildE (E := encInf) (R := (fun k => w1.heap.size ≤ k ∧ k < w2.heap.size)) (vs := [_]) (l := [axI sA tS]) Tryz.zeroValue46 (.cons rfl (.nil)) Tryz.underlying22 Tryz.sizeOf46 rfl rfl (Reps.cons hvI (Reps.nil _ _ _)) rfl rfl hh4 fun w5 g5 e5 x5 z5 o5 hh5 => ?_
  have y5 := y4.trans x5
  refine vcM (Add_x e m none _ 0 1 [] [axI sA tS] w5 (hE1.ext y5) (fun _ h => h.elim) o5.sl (fun k hk => ⟨⟨hk.2, id⟩, fun hm => ?_⟩) (by simp [lenOk]) (by simp) (by simp [axI])) hh5 ⟨fun hm => ?_, trivial⟩ fun v6 w6 m6 z6 hh6 p6 => ?_
  · have := r1 k hm; have := hk.1; omega
  · have := r1 _ hm; omega
  obtain ⟨rfl, A6, c6, hE6, n6⟩ := p6
  rw [w1L] at hE6
  rw [w1E]
  have N6 : ∀ k, mine e m A6 k → k < w1.heap.size ∨ w5.heap.size ≤ k := fun k hk => (n6 k hk).imp (fun h => (r1 k h).2) id
  have r6 := hE6.lt
  have hvI6 := encInf.mod (encInf.ext hvI x5) m6 (fun k hk hm => by have := r1 k hm; have := hk.1; omega)
  -- the same again
  refine OpT.buildE (E := encInf) (R := (fun k => w1.heap.size ≤ k ∧ k < w2.heap.size)) (vs := [_]) (l := [axI sA tS]) Tryz.zeroValue46 (.cons rfl (.nil)) Tryz.underlying22 Tryz.sizeOf46 rfl rfl (Reps.cons hvI6 (Reps.nil _ _ _)) rfl rfl hh6 fun w7 g7 e7 x7 z7 o7 hh7 => ?_
  refine vcM (Add_x e m A6 _ c6 1 L1 [axI sA tS] w7 (hE6.ext x7) (fun _ h => h.elim) o7.sl (fun k hk => ⟨⟨hk.2, id⟩, fun hm => ?_⟩) (by simp [lenOk]) (by simp) (by simp [axI])) hh7 ⟨fun hm => ?_, trivial⟩ fun v8 w8 m8 z8 hh8 p8 => ?_
  · have := r6 k hm; have := N6 k hm; have := hk.1; omega
  · have := r6 _ hm; have := N6 _ hm; omega
  obtain ⟨rfl, A8, c8, hE8, n8⟩ := p8
  rw [show addL L1 [axI sA tS] = L1 from if_neg (by rw [w2E]; decide)] at hE8
  rw [w2E]
  have N8 : ∀ k, mine e m A8 k → k < w1.heap.size ∨ w5.heap.size ≤ k := fun k hk => by
    rcases n8 k hk with h | h
    · exact N6 k h
    · omega
  have r8 := hE8.lt
  -- what names what is not there
  refine vcZ (C_runs sB w8) hh8 fun w9 x9 z9 hh9 => ?_
  have hvc : VI w9 (fun k => False) _ (axI sc (tC sB)) := ax_rep sc (tC_rep sB (by decide) w9 _) (by decide)
  refine OpT.buildE (E := encInf) (R := (fun k => False)) (vs := [_]) (l := [axI sc (tC sB)]) Tryz.zeroValue46 (.cons rfl (.nil)) Tryz.underlying22 Tryz.sizeOf46 rfl rfl (Reps.cons hvc (Reps.nil _ _ _)) rfl rfl hh9 fun w10 g10 e10 x10 z10 o10 hh10 => ?_
  refine vcM (Add_x e m A8 _ c8 1 L1 [axI sc (tC sB)] w10 (hE8.ext (x9.trans x10)) (fun _ h => h.elim) o10.sl (fun k hk => ⟨⟨hk.2, id⟩, fun hm => ?_⟩) (by simp [lenOk]) (by simp) (by simp [axI])) hh10 ⟨fun hm => ?_, trivial⟩ fun v11 w11 m11 z11 hh11 p11 => ?_
  · have := r8 k hm; have := N8 k hm
    rcases hk.1 with h | h
    · exact h
    · omega
  · have := r8 _ hm; have := N8 _ hm; omega
  obtain ⟨rfl, A11, c11, hE11, n11⟩ := p11
  rw [show addL L1 [axI sc (tC sB)] = L1 from if_neg (by rw [w3E]; decide)] at hE11
  rw [w3E]
  have N11 : ∀ k, mine e m A11 k → k < w1.heap.size ∨ w5.heap.size ≤ k := fun k hk => by
    rcases n11 k hk with h | h
    · exact N8 k h
    · omega
  have r11 := hE11.lt
  -- a definition
  refine (S_runs w11).mono ?_
  rintro _ w12 ⟨x12, cs12, rfl, hv12⟩
  have hh12 := hh11.ext x12
  have z12 := x12.size
  obtain ⟨kd, nd, sd, lsd, tsd, lad, lcd, tad, tcd, ed, rfl, hkd, hnd, hsd, hlld, hltd, hLd, hTd⟩ := hv12.inv
  refine Lands.ret (s := .a [.v (.int .u8 kd), .v (.int .i64 nd), .v (.string sd), .v (.slice lad lsd.length lcd), .v (.slice tad tsd.length tcd)]) rfl rfl hh12 ?_
  refine vcZ (C_runs sA w12) hh12 fun w13 x13 z13 hh13 => ?_
  have hvd : VI w13 (fun k => w11.heap.size ≤ k ∧ k < w12.heap.size) _ (dfI sD tS (tC sA) 0) := df_rep sD (hv12.ext x13) (tC_rep sA (by decide) w13 _) (by decide)
  refine OpT.buildE (E := encInf) (R := (fun k => w11.heap.size ≤ k ∧ k < w12.heap.size)) (vs := [_]) (l := [dfI sD tS (tC sA) 0]) Tryz.zeroValue46 (.cons rfl (.nil)) Tryz.underlying22 Tryz.sizeOf46 rfl rfl (Reps.cons hvd (Reps.nil _ _ _)) rfl rfl hh13 fun w14 g14 e14 x14 z14 o14 hh14 => ?_
  have y14 := x12.trans (x13.trans x14)
  refine vcM (Add_x e m A11 _ c11 1 L1 [dfI sD tS (tC sA) 0] w14 (hE11.ext y14) (fun _ h => h.elim) o14.sl (fun k hk => ⟨⟨hk.2, id⟩, fun hm => ?_⟩) (by simp [lenOk]) (by simp) (by simp [dfI])) hh14 ⟨fun hm => ?_, trivial⟩ fun v15 w15 m15 z15 hh15 p15 => ?_
  · have := r11 k hm; have := N11 k hm; have := hk.1; omega
  · have := r11 _ hm; have := N11 _ hm; omega
  obtain ⟨rfl, A15, c15, hE15, n15⟩ := p15
  rw [w4L] at hE15
  rw [w4E]
  have N15 : ∀ k, mine e m A15 k → k < w1.heap.size ∨ w5.heap.size ≤ k := fun k hk => by
    rcases n15 k hk with h | h
    · exact N11 k h
    · omega
  have r15 := hE15.lt
  have M15 : Ext w w15 := by
    have M5 : Ext w w5 := x1.trans y5
    have M6 := M5.trans' m6 fun k hk hs => by have := r1 k hs; omega
    have M8 := (M6.trans x7).trans' m8 fun k hk hs => by have := r6 k hs; omega
    have M11 := (M8.trans (x9.trans x10)).trans' m11 fun k hk hs => by have := r8 k hs; omega
    exact (M11.trans y14).trans' m15 fun k hk hs => by have := r11 k hs; omega
  refine (Find_x e m A15 c15 L2 sD w15 hE15 (fun _ h => h.elim)).mono ?_
  rintro _ w16 ⟨x16, cs16, rfl, hv16⟩
  have hh16 := hh15.ext x16
  have z16 := x16.size
  have hX : getI L2 sD = dfI sD tS (tC sA) 1 := rfl
  rw [hX] at hv16
  obtain ⟨ctF, cvF, raF, rcF, rfl, htyF, hvlF, hruF, hrlF, hokF⟩ := hv16; obtain ⟨kFt, nFt, sFt, lsFt, tsFt, laFt, lcFt, taFt, tcFt, etyF, rfl, hkFt, hnFt, hsFt, hllFt, hltFt, hLFt, hTFt⟩ := htyF.inv; obtain ⟨kFv, nFv, sFv, lsFv, tsFv, laFv, lcFv, taFv, tcFv, evlF, rfl, hkFv, hnFv, hsFv, hllFv, hltFv, hLFv, hTFv⟩ := hvlF.inv
  refine Lands.ret (s := .t [.a [.v (.int .u8 (dfI sD tS (tC sA) 1).kind), .v (.string (dfI sD tS (tC sA) 1).name), .v (.int .i64 (dfI sD tS (tC sA) 1).params), .v (.int .u8 kFt), .v (.int .i64 nFt), .v (.string sFt), .v (.slice laFt lsFt.length lcFt), .v (.slice taFt tsFt.length tcFt), .v (.int .u8 kFv), .v (.int .i64 nFv), .v (.string sFv), .v (.slice laFv lsFv.length lcFv), .v (.slice taFv tsFv.length tcFv), .v (.int .i64 (dfI sD tS (tC sA) 1).height), .v (.string (dfI sD tS (tC sA) 1).block), .v (.string (dfI sD tS (tC sA) 1).of_), .v (.int .i64 (dfI sD tS (tC sA) 1).fixed), .v (.int .i64 (dfI sD tS (tC sA) 1).index), .v (.int .i64 (dfI sD tS (tC sA) 1).no), .v (.int .i64 (dfI sD tS (tC sA) 1).fields), .v (.int .i64 (dfI sD tS (tC sA) 1).motives), .v (.int .i64 (dfI sD tS (tC sA) 1).minors), .v (.slice raF (dfI sD tS (tC sA) 1).rules.length rcF), .v (.int .i64 (dfI sD tS (tC sA) 1).ctors), .v (.bool (dfI sD tS (tC sA) 1).record)], .v (.bool true)]) rfl rfl hh16 ?_
  intro g17 w17 e17 x17 z17 hh17
  intro w18 m18 z18 hh18
  replace m18 : Upd g17 w17 w18 := m18
  have y18 : Ext w15 w18 := (x16.trans x17).upd m18 (by omega)
  refine vcZ (C_runs sA w18) hh18 fun w19 x19 z19 hh19 => ?_
  refine (Type_runs e m A15 c15 L2 (tC sA) _ w19 (hE15.ext (y18.trans x19)) (tC_rep sA (by decide) w19 (fun _ => False)) (fun _ h => h.elim)).mono ?_
  rintro _ w20 ⟨x20, cs20, rfl, hv20⟩
  have hh20 := hh19.ext x20
  have z20 := x20.size
  rw [w6T] at hv20
  rw [w6E]
  obtain ⟨kG, nG, sG, lsG, tsG, laG, lcG, taG, tcG, eG, rfl, hkG, hnG, hsG, hllG, hltG, hLG, hTG⟩ := hv20.inv
  refine Lands.ret (s := .t [.a [.v (.int .u8 kG), .v (.int .i64 nG), .v (.string sG), .v (.slice laG lsG.length lcG), .v (.slice taG tsG.length tcG)], .v (.int .i64 0)]) rfl rfl hh20 ?_
  intro g21 w21 e21 x21 z21 hh21
  intro w22 m22 z22 hh22
  replace m22 : Upd g21 w21 w22 := m22
  have y22 : Ext w15 w22 := (y18.trans (x19.trans (x20.trans x21))).upd m22 (by have := y18.size; omega)
  have hG : VT w22 _ _ tS := hv20.ext (x21.upd m22 (by omega))
  refine vDrw_mk [28, 29, 33, 39, 40] (.one 0 (.one 1 (.one 2 (.one 3 (.one 4 (.one 5 (.one 6 (.one 7 (.one 8 (.one 9 (.one 10 (.one 11 (.one 12 (.one 13 (.one 14 (.one 15 (.one 16 (.one 17 (.one 18 (.one 19 (.one 20 (.one 21 (.one 22 (.one 23 (.one 24 (.one 25 (.one 26 (.one 27 (.one 28 (.one 29 (.one 30 (.one 31 (.one 32 (.one 33 (.one 34 (.one 35 (.one 36 (.one 37 (.one 38 (.one 39 (.one 40 (.one 41 (.one 42 (.one 43 .nil)))))))))))))))))))))))))))))))))))))))))))) rfl fun w23 x23 hh23 => ?_
  refine vyes rfl ?_
  refine (S_runs w23).mono ?_
  rintro _ w24 ⟨x24, cs24, rfl, hv24⟩
  have hh24 := hh23.ext x24
  have z24 := x24.size
  obtain ⟨kH, nH, sH, lsH, tsH, laH, lcH, taH, tcH, eH, rfl, hkH, hnH, hsH, hllH, hltH, hLH, hTH⟩ := hv24.inv
  refine Lands.ret (s := .a [.v (.int .u8 kH), .v (.int .i64 nH), .v (.string sH), .v (.slice laH lsH.length lcH), .v (.slice taH tsH.length tcH)]) rfl rfl hh24 ?_
  refine And.intro x24 ?_
  refine vyes rfl ?_
  refine vcZ (rSame_runs tS tS _ _ w24 _ _ (hG.ext (x23.trans x24)) hv24) hh24 fun w25 x25 z25 hh25 => ?_
  rw [show sameB tS tS = true by decide +kernel]
  have y25 := y22.trans (x23.trans (x24.trans x25))
  refine vyes rfl ?_
  refine vcV (List_runs e m A15 c15 L2 w25 (hE15.ext y25)) hh25 fun v26 w26 x26 z26 hh26 p26 => ?_
  obtain ⟨A26, c26, rfl, _⟩ := p26
  refine vyes rfl ?_
  refine vcZ (C_runs sD w26) hh26 fun w27 x27 z27 hh27 => ?_
  refine And.intro x27 ?_
  refine vyes rfl ?_
  refine vcZ (Height_runs e m A15 c15 L2 (tC sD) _ w27 (hE15.ext (y25.trans (x26.trans x27))) (tC_rep sD (by decide) w27 (fun _ => False))) hh27 fun w28 x28 z28 hh28 => ?_
  rw [w7h]
  exact ⟨rfl, M15.trans (y25.trans (x26.trans (x27.trans x28)))⟩
end Go.Proofs.YtnoghkpofpaeeaaGreat


/-
  Infos that are kept beside an environment; what a list of infos is after some were added.
-/
namespace Go.Proofs.YtnoghkpofpaeeaaGreat
open Go Go.RowKit Go.Proofs.Bw
set_option linter.unusedVariables false
set_option linter.unusedSimpArgs false

def IX (w : World) (M : Nat → Prop) (lo : Nat) (A : Option Addr) (c : Nat) (l : List Inf) : Prop :=
  ∃ css, OwnR w lo 46 encInf.sz A c css ∧ Reps encInf w (fun k => (k < w.heap.size ∧ ¬ M k) ∧ ¬ ownOf A k) css l
section
variable {w w' : World} {M M' : Nat → Prop} {lo c : Nat} {A : Option Addr} {l : List Inf}
theorem IX.nil (w : World) (M : Nat → Prop) (lo : Nat) : IX w M lo none 0 [] := ⟨[], OwnR.nil _ _ _ _, Reps.nil _ _ _⟩
theorem IX.le (h : IX w M lo A c l) : lenOk l.length c := by
  obtain ⟨css, h1, h2⟩ := h
  have := h1.le
  rw [h2.1] at this
  exact this
theorem IX.own (h : IX w M lo A c l) : ∀ k, ownOf A k → lo ≤ k ∧ k < w.heap.size := by
  obtain ⟨css, h1, h2⟩ := h
  rintro k ⟨a, ha, rfl⟩
  exact h1.block ha
theorem IX.sl (h : IX w M lo A c l) : Sl encInf w (fun k => k < w.heap.size) A l := by
  obtain ⟨css, h1, h2⟩ := h
  refine (h2.mono fun k hk => hk.1.1).sl fun i r hi => ?_
  obtain ⟨a, h3, h4, h5⟩ := h1.rd i r hi
  exact ⟨a, h3, h4.2, h5⟩
theorem IX.mod {S : Nat → Prop} (h : IX w M lo A c l) (hm : Bw.Mod S w w') (hS : ∀ k, k < w.heap.size → S k → M k) (hMo : ∀ k, M k → ¬ ownOf A k) (hM : ∀ k, k < w.heap.size → M' k → M k) : IX w' M' lo A c l := by
  have ho := h.own
  obtain ⟨css, h1, h2⟩ := h
  have := hm.size
  exact ⟨css, h1.mod hm fun a ha hs => hMo _ (hS _ (ho _ ⟨a, ha, rfl⟩).2 hs) ⟨a, ha, rfl⟩, (h2.mod hm fun k hk hs => hk.1.2 (hS k hk.1.1 hs)).mono fun k hk => ⟨⟨by have := hk.1.1; omega, fun h => hk.1.2 (hM k hk.1.1 h)⟩, hk.2⟩⟩
theorem IX.ext (h : IX w M lo A c l) (hm : Ext w w') (hMo : ∀ k, M k → ¬ ownOf A k) : IX w' M lo A c l := h.mod hm (fun _ _ h => h.elim) hMo fun _ _ h => h
variable {P : Program} {e : Env} {K : Value → World → Prop} {d : Option Tmp} {t : TypeId} {pos : String} {af : Array Edge} {g' : Option (Nat × Bool)} {ρ : List Nat} {H : Heap} {k : SV → List Nat → Heap → World → Prop}
theorem OpT.appendI {x y : Operand} {st tx : TypeId} {bytes m n cc n' : Nat} {B : Option Addr} {R2 : Nat → Prop} {l2 l3 : List Inf} (hel : ElOk P 46 encInf.sz bytes) (ht : P.underlying st = some (.slice 46)) (htx : P.underlying tx = some (.slice 46))
    (hx : evalO e x = some (.slice A n c)) (hy : evalO e y = some (.slice B m cc)) (hn : n = l.length) (hm : m = l2.length) (h3 : l ++ l2 = l3) (hn' : n' = l3.length) (hown : IX w M lo A c l) (hR : Sl encInf w R2 B l2)
    (hR2 : ∀ k, R2 k → k < w.heap.size → ¬ M k ∧ ¬ ownOf A k) (hlo : lo ≤ w.heap.size) (hM : ∀ k, M k → k < w.heap.size)
    (hH : Holds ρ H w) (hρ : ∀ i, i < ρ.length → ¬ ownOf A (adr ρ i))
    (h63 : l3.length * bytes ≤ 140737488355328 ∧ l3.length ≤ 9223372036854775807)
    (h : ∀ w' A' c', Bw.Mod (ownOf A) w w' → w.heap.size ≤ w'.heap.size → IX w' M lo A' c' l3 → (∀ k, ownOf A' k → ownOf A k ∨ w.heap.size ≤ k) → Holds ρ H w' → k (.v (.slice A' n' c')) ρ H w') :
    OpT P e w ⟨d, .call ⟨.builtin .append, #[x, y], #[st, tx]⟩, t, pos, af, g'⟩ (Lands ρ k) := by
  subst hn; subst hm; subst h3; subst hn'
  obtain ⟨css, h1, h2⟩ := hown
  obtain ⟨news, q1, q2⟩ := hR.small.reps
  have hl1 := h2.1
  have hl2 := q1.1
  have hs := q2.src (P := P) (tx := tx) htx q1.lens q1.ones cc
  rw [hl2] at hs
  have h63' : (css.length + news.length) * bytes ≤ 140737488355328 ∧ css.length + news.length ≤ 9223372036854775807 := by
    rw [hl1, hl2]; rw [List.length_append] at h63; exact h63
  refine OpT.appendS' (news := news) (m := l2.length) hel ht (by rw [hl1]; exact hx) hy h1 hs hl2.symm q1.lens h63' hlo fun w' A' c' m' o' f' => ?_
  have hlen : (css ++ news).length = (l ++ l2).length := by rw [List.length_append, List.length_append, hl1, hl2]
  rw [hlen]
  have hH' : Holds ρ H w' := hH.mod m' hρ
  refine Lands.v hH' (h w' A' c' m' m'.size ⟨css ++ news, o', ?_⟩ f' hH')
  have r1 : Reps encInf w (fun k => (k < w.heap.size ∧ ¬ M k) ∧ ¬ ownOf A k) (css ++ news) (l ++ l2) := h2.append (q1.mono fun k hk => ⟨⟨hk.2, (hR2 k hk.1 hk.2).1⟩, (hR2 k hk.1 hk.2).2⟩)
  refine (r1.mod m' fun k hk => hk.2).mono fun k hk => ⟨⟨Nat.lt_of_lt_of_le hk.1.1 m'.size, hk.1.2⟩, fun h4 => ?_⟩
  rcases f' k h4 with h5 | h5
  · exact hk.2 h5
  · have := hk.1.1; omega
end
/-! what has been added -/
def envL (l : List Inf) (i : Nat) : List Inf := (l.take i).foldl (fun L x => addL L [x]) []
theorem envL_succ (l : List Inf) (i : Nat) (h : i < l.length) : envL l (i + 1) = addL (envL l i) [l[i]] := by
  unfold envL; rw [List.take_succ_eq_append_getElem h, List.foldl_append]; rfl
theorem addL_one {L : List Inf} {x : Inf} (h : addE L [x] = 0) : addL L [x] = L ++ [addOne L x] := by unfold addL; rw [if_pos h]; rfl
theorem addL_no {L : List Inf} {x : Inf} (h : addE L [x] ≠ 0) : addL L [x] = L := by unfold addL; rw [if_neg h]
theorem addE_one {L : List Inf} {x : Inf} (h : addE L [x] = 0) : checkB L [x] 0 x = 0 := by
  unfold addE at h
  by_cases h1 : 4096 < L.length + [x].length
  · rw [if_pos h1] at h; cases h
  · rw [if_neg h1] at h
    exact checks_ok [x] 0 h 0 (by simp)
/-- names are unlike, and heights are above those of what a value names -/
structure Good (L : List Inf) : Prop where
  nd : (L.map (·.name)).Nodup
  h0 : ∀ x ∈ L, x.kind ≠ 2 → x.height = 0
  h1 : ∀ x ∈ L, x.kind = 2 → x.height = 1 + heightB L x.val
  ns : ∀ x ∈ L, x.kind = 2 → ∀ s ∈ nms x.val, (findI L s).isSome = true
theorem Good.nil : Good [] := ⟨by simp, by simp, by simp, by simp⟩
theorem findI_get {L : List Inf} (h : (L.map (·.name)).Nodup) {x : Inf} (hx : x ∈ L) : findI L x.name = some x := by
  induction L with
  | nil => cases hx
  | cons y r ih =>
    unfold findI
    rw [List.find?_cons]
    rw [List.map_cons, List.nodup_cons] at h
    rcases List.mem_cons.1 hx with rfl | hr
    · simp
    · have : y.name ≠ x.name := fun he => h.1 (by rw [he]; exact List.mem_map.2 ⟨x, hr, rfl⟩)
      rw [decide_eq_false this]
      exact ih h.2 hr
theorem findI_snoc {L : List Inf} {s : ByteArray} (h : (findI L s).isSome = true) (y : Inf) : findI (L ++ [y]) s = findI L s := by
  unfold findI at *
  rw [List.find?_append]
  cases hq : List.find? (fun x => decide (x.name = s)) L with
  | none => rw [hq] at h; cases h
  | some z => rfl
theorem heightB_snoc {L : List Inf} {t : T} (h : ∀ s ∈ nms t, (findI L s).isSome = true) (y : Inf) : heightB (L ++ [y]) t = heightB L t := by
  have key : ∀ (q : List ByteArray) (n : Int), (∀ s ∈ q, (findI L s).isSome = true) → q.foldl (fun n s => max n (getI (L ++ [y]) s).height) n = q.foldl (fun n s => max n (getI L s).height) n := by
    intro q
    induction q with
    | nil => intro n _; rfl
    | cons s r ih =>
      intro n hq
      rw [List.foldl_cons, List.foldl_cons, ih _ fun s hs => hq s (List.mem_cons_of_mem _ hs)]
      unfold getI
      rw [findI_snoc (hq s List.mem_cons_self)]
  exact key _ _ h
theorem checkB_last {L xs : List Inf} {i : Nat} {x : Inf} (h : checkB L xs i x = 0) : firstB (namesE L (if valB x.kind = true then xs.take i else xs)) (infT x) = 0 := by
  unfold checkB at h
  split at h
  · cases h
  split at h
  · cases h
  split at h
  · cases h
  split at h
  · rename_i h1; exact absurd h h1
  · exact h
theorem val_names {L : List Inf} {x : Inf} (h : checkB L [x] 0 x = 0) (hk : x.kind = 2) : ∀ s ∈ nms x.val, (findI L s).isSome = true := by
  have hv : valB x.kind = true := by rw [hk]; rfl
  have h1 := checkB_last h
  rw [if_pos hv] at h1
  have h2 := firstB_zero h1 x.val (by unfold infT; rw [if_pos hv]; simp)
  intro s hs
  have h3 := firstB_zero h2 s hs
  unfold thereE at h3
  by_cases h4 : (findI L s).isSome = false ∧ nameIn (List.take 0 [x]) s = false
  · rw [if_pos h4] at h3; cases h3
  · cases hq : (findI L s).isSome with
    | true => rfl
    | false => exact absurd ⟨hq, rfl⟩ h4
theorem Good.add {L : List Inf} {x : Inf} (h : Good L) (ha : addE L [x] = 0) : Good (L ++ [addOne L x]) := by
  have hc := addE_one ha
  have hf := (checkB_fresh hc).1
  have hn : ∀ y ∈ L, y.name ≠ x.name := findI_none.1 (by
    cases hq : findI L x.name with
    | none => rfl
    | some z => rw [hq] at hf; cases hf)
  have hmem : ∀ y ∈ L ++ [addOne L x], y ∈ L ∨ y = addOne L x := fun y hy => by simpa using hy
  refine ⟨?_, ?_, ?_, ?_⟩
  · rw [List.map_append, List.nodup_append]
    refine ⟨h.nd, by simp, ?_⟩
    intro a ha b hb
    simp only [List.map_cons, List.map_nil, List.mem_singleton] at hb
    subst hb
    obtain ⟨y, hy, rfl⟩ := List.mem_map.1 ha
    exact hn y hy
  · intro y hy hk
    rcases hmem y hy with hy | rfl
    · exact h.h0 y hy hk
    · have hk : x.kind ≠ 2 := hk
      show heightI L x = 0
      unfold heightI; rw [if_neg hk]
  · intro y hy hk
    rcases hmem y hy with hy | rfl
    · rw [heightB_snoc (h.ns y hy hk)]; exact h.h1 y hy hk
    · have hk : x.kind = 2 := hk
      have hv : valI x = x.val := by unfold valI; rw [if_pos (by rw [hk]; rfl)]
      show heightI L x = 1 + heightB (L ++ [addOne L x]) (valI x)
      rw [hv, heightB_snoc (val_names hc hk)]
      unfold heightI; rw [if_pos hk]
  · intro y hy hk s hs
    rcases hmem y hy with hy | rfl
    · rw [findI_snoc (h.ns y hy hk s hs)]; exact h.ns y hy hk s hs
    · have hk : x.kind = 2 := hk
      have hv : valI x = x.val := by unfold valI; rw [if_pos (by rw [hk]; rfl)]
      have hs : s ∈ nms x.val := by rw [← hv]; exact hs
      rw [findI_snoc (val_names hc hk s hs)]; exact val_names hc hk s hs
theorem Good.one {L : List Inf} (h : Good L) (x : Inf) : Good (addL L [x]) := by
  by_cases ha : addE L [x] = 0
  · rw [addL_one ha]; exact h.add ha
  · rw [addL_no ha]; exact h
theorem Good.env (l : List Inf) : ∀ i, i ≤ l.length → Good (envL l i)
  | 0, _ => by simpa [envL] using Good.nil
  | i + 1, h => by rw [envL_succ l i h]; exact (Good.env l i (Nat.le_of_succ_le h)).one _
theorem rlsS_refl : ∀ l, rlsS l l = true
  | [] => rfl
  | r :: l => by unfold rlsS; rw [rlsS_refl l]; simp [rlB, sameB_refl]
theorem infB_refl (x : Inf) : infB x x = true := by
  unfold infB; rw [rlsS_refl, sameB_refl, sameB_refl]; simp [hdB]
theorem findI_added {L : List Inf} {x : Inf} (ha : addE L [x] = 0) : findI (addL L [x]) x.name = some (addOne L x) := by
  have hf := (checkB_fresh (addE_one ha)).1
  rw [addL_one ha]
  unfold findI at *
  rw [List.find?_append]
  cases hq : List.find? (fun y => decide (y.name = x.name)) L with
  | some z => rw [hq] at hf; cases hf
  | none => simp [addOne]
end Go.Proofs.YtnoghkpofpaeeaaGreat

