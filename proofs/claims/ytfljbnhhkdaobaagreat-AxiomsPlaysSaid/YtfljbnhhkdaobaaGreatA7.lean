/-
  Small ones: valued, functions over slices of numbers.
-/
import Derived.Test.YtfljbnhhkdaobaaGreatA4
import Derived.Test.YtfljbnhhkdaobaaGreatA6
import Derived.Test.YtfljbnhhkdaobaaGreatA3
namespace Go.Proofs.YtfljbnhhkdaobaaGreat
open Go Go.RowKit Go.Proofs.Bw
set_option linter.unusedVariables false
set_option linter.unusedSimpArgs false
def valB (k : Int) : Bool := decide (k = 2) || decide (k = 3)
theorem valued_runs (k : Int) (w : World) : Runs Tryz.prog 56 #[.int .u8 k] w fun v w' => v = .bool (valB k) ∧ Ext w w' := by
  refine Runs.of_vc cx_ok [0, 2] [.v _] Tryz.func56 rfl rfl rfl (Holds.nil _) ?_
  refine ⟨congrArg Value.bool ?_, Ext.refl _⟩
  unfold valB
  cases decide (k = 2) <;> simp [sel]
def iR (l : List Int) : List (List Value) := l.map fun n => [.int .i64 n]
theorem iR_get {l : List Int} {i : Nat} (h : i < l.length) : (iR l)[i]? = some [.int .i64 l[i]] := by simp [iR, h]
theorem elI : ElOk Tryz.prog 3 1 8 := ⟨⟨Tryz.t3, Tryz.t3.zero.get rfl, by kernel_rfl, rfl, rfl, rfl, rfl⟩, by omega⟩
def ixB {α : Type} (p : α → Bool) : List α → Nat → Int
  | [], _ => -1
  | x :: r, i => if p x = true then i else ixB p r (i + 1)
theorem ixB_drop {α : Type} (p : α → Bool) (l : List α) (i : Nat) (h : i < l.length) : ixB p (l.drop i) i = if p l[i] = true then (i : Int) else ixB p (l.drop (i + 1)) (i + 1) := by
  rw [List.drop_eq_getElem_cons h, ixB]
theorem ixB_any {α : Type} (p : α → Bool) : ∀ (l : List α) (i : Nat), decide (0 ≤ ixB p l i) = l.any p
  | [], i => by simp [ixB]
  | x :: r, i => by
    rw [ixB, List.any_cons]
    by_cases h : p x = true
    · rw [if_pos h, h]; simp
    · rw [if_neg h, ixB_any p r (i + 1), Bool.eq_false_iff.2 h, Bool.false_or]
def great (n : Int) : Bool := decide (n < 0) || decide (1000 < n)
def atLeast0 (n : Int) : Bool := decide (0 ≤ n)
theorem numbers1_runs (n : Int) (w : World) : Runs Tryz.prog 123 #[.int .i64 n] w fun v w' => v = .bool (great n) ∧ Ext w w' := by
  refine Runs.of_vc cx_ok [0, 2] [.v _] Tryz.func123 rfl rfl rfl (Holds.nil _) ?_
  refine ⟨congrArg Value.bool ?_, Ext.refl _⟩
  unfold great
  cases decide (n < 0) <;> simp [sel]
theorem below1_runs (n : Int) (w : World) : Runs Tryz.prog 153 #[.int .i64 n] w fun v w' => v = .bool (atLeast0 n) ∧ Ext w w' := by
  refine Runs.of_vc cx_ok [0, 2] [.v _] Tryz.func153 rfl rfl rfl (Holds.nil _) ?_
  exact ⟨rfl, Ext.refl _⟩
set_option maxRecDepth 20000 in
theorem IndexIntN_runs {R : Nat → Prop} (A : Option Addr) (l : List Int) (c : Nat) (w : World) (hl : Rd w R 1 A (iR l)) (hsz : l.length ≤ 1000000) :
    Runs Tryz.prog 151 #[.slice A l.length c, .func (.func 123) #[] #[]] w fun v w' => v = .int .i64 (ixB great l 0) ∧ Ext w w' := by
  refine Runs.of_vc (ρ := []) cx_ok [0, 1, 4, 5, 7, 8, 9, 16] [.v _, .f 123 [] []] Tryz.func151 rfl rfl rfl (Holds.nil w) ?_
  refine vLoop_mk (σ := Nat) (fun i => [(0, .v (.slice A l.length c)), (1, .f 123 [] []), (7, .v (.int .i64 l.length)), (8, .v (.int .i64 i))]) (fun _ => []) (fun i w' => Ext w w' ∧ i ≤ l.length ∧ ixB great l 0 = ixB great (l.drop i) i) (fun i => l.length - i) 0 (fun _ => ⟨rfl, rfl⟩)
    ⟨⟨rfl, rfl, rfl, rfl, trivial⟩, trivial, Ext.refl _, Nat.zero_le _, rfl⟩ ?_
  rintro i w1 hh1 ⟨x1, hi, hx⟩
  refine Or.inl (And.intro (fun h => ?_) (fun h => ?_))
  · have hil : i < l.length := by have := of_decide_eq_true h; omega
    rw [ixB_drop great l i hil] at hx
    obtain ⟨a1, ha1, _, hrow⟩ := (hl.ext x1).at (iR_get hil)
    refine OpT.indexAddr Tryz.underlying149 Tryz.sizeOf3 rfl rfl ha1 (by omega) ?_
    refine Lands.v hh1 ?_
    refine OpT.load Tryz.isAgg3 rfl (hrow.cell 0 rfl) ?_
    refine Lands.v hh1 ?_
    refine vcS (numbers1_runs l[i] w1) hh1 fun w2 x2 hh2 => ?_
    refine Or.inl (And.intro (fun h => ?_) (fun h => ?_))
    · rw [if_pos h] at hx
      exact ⟨congrArg (Value.int .i64) hx.symm, x1.trans x2⟩
    · rw [if_neg (by rw [h]; decide)] at hx
      refine vsd (by simp only [inKind]; omega) ?_
      exact Exists.intro (i + 1) ⟨by omega, ⟨rfl, rfl, rfl, rfl, trivial⟩, trivial, x1.trans x2, hil, hx⟩
  · obtain rfl : i = l.length := by have := of_decide_eq_false h; omega
    rw [List.drop_length] at hx
    exact ⟨congrArg (Value.int .i64) hx.symm, x1⟩
set_option maxRecDepth 20000 in
theorem ContainsIntN_runs {R : Nat → Prop} (A : Option Addr) (l : List Int) (c : Nat) (w : World) (hl : Rd w R 1 A (iR l)) (hsz : l.length ≤ 1000000) :
    Runs Tryz.prog 122 #[.slice A l.length c, .func (.func 123) #[] #[]] w fun v w' => v = .bool (l.any great) ∧ Ext w w' := by
  refine Runs.of_vc (ρ := []) cx_ok [0, 1, 4] [.v _, .f 123 [] []] Tryz.func122 rfl rfl rfl (Holds.nil w) ?_
  refine vcS (IndexIntN_runs A l c w hl hsz) (Holds.nil _) fun w1 x1 hh1 => ?_
  exact ⟨congrArg Value.bool (ixB_any great l 0), x1⟩
set_option maxRecDepth 20000 in
theorem IndexIntB_runs {R : Nat → Prop} (A : Option Addr) (l : List Int) (c : Nat) (w : World) (hl : Rd w R 1 A (iR l)) (hsz : l.length ≤ 1000000) :
    Runs Tryz.prog 151 #[.slice A l.length c, .func (.func 153) #[] #[]] w fun v w' => v = .int .i64 (ixB atLeast0 l 0) ∧ Ext w w' := by
  refine Runs.of_vc (ρ := []) cx_ok [0, 1, 4, 5, 7, 8, 9, 16] [.v _, .f 153 [] []] Tryz.func151 rfl rfl rfl (Holds.nil w) ?_
  refine vLoop_mk (σ := Nat) (fun i => [(0, .v (.slice A l.length c)), (1, .f 153 [] []), (7, .v (.int .i64 l.length)), (8, .v (.int .i64 i))]) (fun _ => []) (fun i w' => Ext w w' ∧ i ≤ l.length ∧ ixB atLeast0 l 0 = ixB atLeast0 (l.drop i) i) (fun i => l.length - i) 0 (fun _ => ⟨rfl, rfl⟩)
    ⟨⟨rfl, rfl, rfl, rfl, trivial⟩, trivial, Ext.refl _, Nat.zero_le _, rfl⟩ ?_
  rintro i w1 hh1 ⟨x1, hi, hx⟩
  refine Or.inl (And.intro (fun h => ?_) (fun h => ?_))
  · have hil : i < l.length := by have := of_decide_eq_true h; omega
    rw [ixB_drop atLeast0 l i hil] at hx
    obtain ⟨a1, ha1, _, hrow⟩ := (hl.ext x1).at (iR_get hil)
    refine OpT.indexAddr Tryz.underlying149 Tryz.sizeOf3 rfl rfl ha1 (by omega) ?_
    refine Lands.v hh1 ?_
    refine OpT.load Tryz.isAgg3 rfl (hrow.cell 0 rfl) ?_
    refine Lands.v hh1 ?_
    refine vcS (below1_runs l[i] w1) hh1 fun w2 x2 hh2 => ?_
    refine Or.inl (And.intro (fun h => ?_) (fun h => ?_))
    · rw [if_pos h] at hx
      exact ⟨congrArg (Value.int .i64) hx.symm, x1.trans x2⟩
    · rw [if_neg (by rw [h]; decide)] at hx
      refine vsd (by simp only [inKind]; omega) ?_
      exact Exists.intro (i + 1) ⟨by omega, ⟨rfl, rfl, rfl, rfl, trivial⟩, trivial, x1.trans x2, hil, hx⟩
  · obtain rfl : i = l.length := by have := of_decide_eq_false h; omega
    rw [List.drop_length] at hx
    exact ⟨congrArg (Value.int .i64) hx.symm, x1⟩
set_option maxRecDepth 20000 in
theorem ContainsIntB_runs {R : Nat → Prop} (A : Option Addr) (l : List Int) (c : Nat) (w : World) (hl : Rd w R 1 A (iR l)) (hsz : l.length ≤ 1000000) :
    Runs Tryz.prog 122 #[.slice A l.length c, .func (.func 153) #[] #[]] w fun v w' => v = .bool (l.any atLeast0) ∧ Ext w w' := by
  refine Runs.of_vc (ρ := []) cx_ok [0, 1, 4] [.v _, .f 153 [] []] Tryz.func122 rfl rfl rfl (Holds.nil w) ?_
  refine vcS (IndexIntB_runs A l c w hl hsz) (Holds.nil _) fun w1 x1 hh1 => ?_
  exact ⟨congrArg Value.bool (ixB_any atLeast0 l 0), x1⟩
end Go.Proofs.YtfljbnhhkdaobaaGreat

/-
  below: has a term no level parameter from n on?
-/
namespace Go.Proofs.YtfljbnhhkdaobaaGreat
open Go Go.RowKit Go.Proofs.Bw
set_option linter.unusedVariables false
set_option linter.unusedSimpArgs false
theorem OpT.sliceArrFrom {P : Program} {e : Env} {w : World} {K : Value → World → Prop} {d : Option Tmp} {t : TypeId} {pos : String} {af : Array Edge} {g : Option (Nat × Bool)} {x y : Operand} {at_ el : TypeId} {k : IntKind} {n sz b o i : Nat} (hs : P.underlying at_ = some (.array n el)) (hz : SizeIs P el sz)
    (hx : evalO e x = some (.pointer (some ⟨b, o, none⟩))) (hy : evalO e y = some (.int k (i : Int))) (hi : i ≤ n) (h : ∀ A, (i < n → A = some ⟨b, o + i * sz, none⟩) → K (.slice A (n - i) (n - i)) w) : Bw.OpT P e w ⟨d, .slice at_ x (some y) none none, t, pos, af, g⟩ K := by
  have hb : (Instr.sliceBound (.int k (i : Int)) n .sliceB).run P w = .ok i w := by
    simp [Instr.sliceBound, asIntOf, hi]
  refine Bw.OpT.value (fun ρ hρ => ?_) (h (if n = i then some ⟨b, o, none⟩ else some ⟨b, o + i * sz, none⟩) (fun hlt => if_neg (by omega)))
  have hi' : (i : Int) ≤ (n : Int) := by omega
  by_cases hn : n = i
  · subst hn
    simp [execOp, hρ x _ hx, hρ y _ hy, Instr.sliceAt, run_underlying hs, Instr.sureAddr, Instr.sliceBounds, Instr.sliceBound, asIntOf, hz w, Addr.add_lit]
  · simp [execOp, hρ x _ hx, hρ y _ hy, Instr.sliceAt, run_underlying hs, Instr.sureAddr, Instr.sliceBounds, Instr.sliceBound, asIntOf, hz w, Addr.add_lit, hn, hi']
    intro h1; omega
def lps (l : L) : List Int := [l.p0, l.p1, l.p2, l.p3]
def lvB (n : Nat) (l : L) : Bool := !((lps l).drop n).any atLeast0
mutual
def belowB (n : Nat) : T → Bool
  | .mk _ _ _ ls ts => ls.all (lvB n) && belowBs n ts
def belowBs (n : Nat) : List T → Bool
  | [] => true
  | t :: r => belowB n t && belowBs n r
end
theorem belowBs_any (n : Nat) : ∀ ts, belowBs n ts = !ts.any fun t => !belowB n t
  | [] => rfl
  | t :: r => by rw [belowBs, List.any_cons, belowBs_any n r]; cases belowB n t <;> simp
set_option maxRecDepth 20000 in
theorem IndexT_runs {R : Nat → Prop} (n : Nat) (g : Nat) (A : Option Addr) (l : List T) (c : Nat) (w : World) (hl : SlT w R A l) (b : Box w g [.int .i64 n]) (hsz : l.length ≤ 9223372036854775807)
    (ih : ∀ x ∈ l, ∀ cs w', Ext w w' → VT w' R cs x → Runs Tryz.prog 125 #[.agg cs.toArray, .int .i64 n] w' fun v w'' => v = .bool (belowB n x) ∧ Ext w' w'') :
    Runs Tryz.prog 173 #[.slice A l.length c, .func (.func 155) #[] #[.pointer (some ⟨g, 0, none⟩)]] w fun v w' => v = .int .i64 (ixB (fun t => !belowB n t) l 0) ∧ Ext w w' := by
  refine Runs.of_vc (ρ := []) cx_ok [0, 1, 4, 5, 7, 8, 9, 16] [.v _, .f 155 [] [.v _]] Tryz.func173 rfl rfl rfl (Holds.nil w) ?_
  refine vLoop_mk (σ := Nat) (fun i => [(0, .v (.slice A l.length c)), (1, .f 155 [] [.v (.pointer (some ⟨g, 0, none⟩))]), (7, .v (.int .i64 l.length)), (8, .v (.int .i64 i))]) (fun _ => []) (fun i w' => Ext w w' ∧ i ≤ l.length ∧ ixB (fun t => !belowB n t) l 0 = ixB (fun t => !belowB n t) (l.drop i) i) (fun i => l.length - i) 0 (fun _ => ⟨rfl, rfl⟩)
    ⟨⟨rfl, rfl, rfl, rfl, trivial⟩, trivial, Ext.refl _, Nat.zero_le _, rfl⟩ ?_
  rintro i w1 hh1 ⟨x1, hi, hx⟩
  refine Or.inl (And.intro (fun h => ?_) (fun h => ?_))
  · have hil : i < l.length := by have := of_decide_eq_true h; omega
    rw [ixB_drop _ l i hil] at hx
    obtain ⟨a1, cs, ha1, _, hrow, hv⟩ := (hl.ext x1).at hil
    refine OpT.indexAddr Tryz.underlying31 Tryz.sizeOf33 rfl rfl ha1 (by omega) ?_
    refine Lands.v hh1 ?_
    refine OpT.loadA (cs := cs) Tryz.isAgg33 (by rw [hv.length]; exact Tryz.sizeOf33) rfl hrow ?_
    refine Lands.v hh1 ?_
    have key : Runs Tryz.prog 155 #[.agg cs.toArray, .pointer (some ⟨g, 0, none⟩)] w1 fun v w' => v = .bool (!belowB n l[i]) ∧ Ext w1 w' := by
      have hv0 := hv
      obtain ⟨k, m, s, ls, ts, la, lc, ta, tc, ea, rfl, -⟩ := hv.inv
      have hh := Holds.one (g := g) (cs := [.v (.int .i64 n)]) (b.ext x1) rfl
      refine Runs.of_vc (ρ := [g]) cx_ok [0, 1, 2, 3] [.a [.v (.int .u8 k), .v (.int .i64 m), .v (.string s), .v (.slice la ls.length lc), .v (.slice ta ts.length tc)], .p 0 0] Tryz.func155 rfl rfl rfl hh ?_
      intro g2 w2 e2 x2 z2 hh2
      refine vcS (ih _ (List.getElem_mem hil) _ w2 (x1.trans x2) (hv0.ext x2)) hh2 fun w3 x3 hh3 => ?_
      exact ⟨rfl, x2.trans x3⟩
    refine vcS key hh1 fun w2 x2 hh2 => ?_
    refine Or.inl (And.intro (fun h => ?_) (fun h => ?_))
    · rw [if_pos h] at hx
      exact ⟨congrArg (Value.int .i64) hx.symm, x1.trans x2⟩
    · rw [if_neg (by rw [h]; decide)] at hx
      refine vsd (by simp only [inKind]; omega) ?_
      exact Exists.intro (i + 1) ⟨by omega, ⟨rfl, rfl, rfl, rfl, trivial⟩, trivial, x1.trans x2, hil, hx⟩
  · obtain rfl : i = l.length := by have := of_decide_eq_false h; omega
    rw [List.drop_length] at hx
    exact ⟨congrArg (Value.int .i64) hx.symm, x1⟩
theorem Box.rd {w : World} {g o : Nat} {cs : List Value} {l : List Int} (b : Box w g cs) (h : cs.drop o = l.map fun n => Value.int .i64 n) : Rd w (fun _ => True) 1 (some ⟨g, o, none⟩) (iR l) := fun i r hr => by
  refine ⟨_, rfl, trivial, ?_⟩
  simp only [iR, List.getElem?_map, Option.map_eq_some_iff] at hr
  obtain ⟨n, hn, rfl⟩ := hr
  intro j u hu
  have hj : j = 0 := by
    rcases j with _ | j
    · rfl
    · simp at hu
  subst hj
  simp only [List.getElem?_cons_zero, Option.some.injEq] at hu
  subst hu
  have e : cs[o + i]? = (cs.drop o)[i]? := by rw [List.getElem?_drop]
  rw [Nat.mul_one, Addr.add_lit, Addr.add_lit, b.cell, Nat.add_zero, e, h]
  simp [hn]
set_option maxRecDepth 20000 in
theorem below_runs {R : Nat → Prop} (n : Nat) (hn : n ≤ 4) (t : T) : ∀ (cs : List Value) (w : World), VT w R cs t → Runs Tryz.prog 125 #[.agg cs.toArray, .int .i64 n] w fun v w' => v = .bool (belowB n t) ∧ Ext w w' := by
  induction t using T.ind with
  | h k m s ls ts ih =>
  intro cs w hv
  have hv0 := hv
  obtain ⟨k', m', s', ls', ts', la, lc, ta, tc, ea, rfl, hk, hm, hs, hll, hlt, hL, hT⟩ := hv.inv
  injection ea with e1 e2 e3 e4 e5
  subst e1; subst e2; subst e3; subst e4; subst e5
  refine Runs.of_vc (ρ := []) cx_ok [0, 1, 2, 3, 4, 6, 8, 9, 10, 11, 17] [.a [.v (.int .u8 k), .v (.int .i64 m), .v (.string s), .v (.slice la ls.length lc), .v (.slice ta ts.length tc)], .v _] Tryz.func125 rfl rfl rfl (Holds.nil w) ?_
  intro g1 w1 e1 x1 z1 hh1
  intro g2 w2 e2 x2 z2 hh2
  have y2 := x1.trans x2
  refine vLoop_mk (σ := Nat) (fun i => [(2, .p 0 0), (3, .p 1 0), (8, .v (.slice la ls.length lc)), (9, .v (.int .i64 ls.length)), (10, .v (.int .i64 i))]) (fun _ => [(0, [.v (.int .u8 k), .v (.int .i64 m), .v (.string s), .v (.slice la ls.length lc), .v (.slice ta ts.length tc)]), (1, [.v (.int .i64 n)])])
    (fun i w' => Ext w w' ∧ i ≤ ls.length ∧ (ls.take i).all (lvB n) = true) (fun i => ls.length - i) 0 (fun _ => ⟨rfl, rfl⟩)
    ⟨⟨rfl, rfl, rfl, rfl, rfl, trivial⟩, ⟨rfl, rfl, trivial⟩, y2, Nat.zero_le _, rfl⟩ ?_
  rintro i w3 hh3 ⟨x3, hi, hall⟩
  refine Or.inl (And.intro (fun h => ?_) (fun h => ?_))
  · have hil : i < ls.length := by have := of_decide_eq_true h; omega
    clear h
    obtain ⟨a1, ha1, _, hrow, hwf⟩ := (hL.ext x3).at hil
    refine OpT.indexAddr Tryz.underlying30 Tryz.sizeOf63 rfl rfl ha1 (by unfold lenOk at hll; omega) ?_
    refine Lands.v hh3 ?_
    refine OpT.loadA (cs := ls[i].cells) Tryz.isAgg63 Tryz.sizeOf63 rfl hrow ?_
    refine Lands.ret (s := .a [.v (.int .i64 ls[i].c), .v (.int .i64 ls[i].p0), .v (.int .i64 ls[i].p1), .v (.int .i64 ls[i].p2), .v (.int .i64 ls[i].p3)]) rfl rfl hh3 ?_
    intro g4 w4 e4 x4 z4 hh4
    intro w5 m5 z5 hh5
    replace m5 : Upd g4 w4 w5 := m5
    have y5 : Ext w3 w5 := x4.upd m5 (by omega)
    have bx : Box w5 g4 [.int .i64 ls[i].c, .int .i64 ls[i].p0, .int .i64 ls[i].p1, .int .i64 ls[i].p2, .int .i64 ls[i].p3] := hh5.box 2 _ rfl
    refine OpT.sliceArrFrom Tryz.underlying61 Tryz.sizeOf3 rfl rfl hn fun A6 hA6 => ?_
    refine Lands.v hh5 ?_
    have hlen : ((lps ls[i]).drop n).length = 4 - n := by rw [List.length_drop]; rfl
    have rd6 : Rd w5 (fun _ => True) 1 A6 (iR ((lps ls[i]).drop n)) := by
      by_cases h4 : n < 4
      · rw [hA6 h4]
        refine Box.rd bx ?_
        have e : ∀ q : L, List.drop (1 + n * 1) [Value.int .i64 q.c, .int .i64 q.p0, .int .i64 q.p1, .int .i64 q.p2, .int .i64 q.p3] = ((lps q).drop n).map fun n => Value.int .i64 n := by
          intro q
          rw [List.map_drop, Nat.mul_one, ← List.drop_drop]; rfl
        exact e _
      · have : (lps ls[i]).drop n = [] := List.drop_eq_nil_of_le (by show 4 ≤ n; omega)
        rw [this]; exact Rd.nil _ _ _ _
    have cI := ContainsIntB_runs A6 ((lps ls[i]).drop n) (4 - n) w5 rd6 (by omega)
    rw [hlen] at cI
    refine vcS cI hh5 fun w6 x6 hh6 => ?_
    have y6 := x3.trans (y5.trans x6)
    refine Or.inl (And.intro (fun h => ?_) (fun h => ?_))
    · have hno : ls.all (lvB n) = false := by
        rw [Bool.eq_false_iff]
        intro hc
        have := List.all_eq_true.1 hc _ (List.getElem_mem hil)
        unfold lvB at this
        rw [h] at this; cases this
      refine ⟨?_, y6⟩
      rw [belowB, hno]; rfl
    · refine vsd (by simp only [inKind]; unfold lenOk at hll; omega) ?_
      refine Exists.intro (i + 1) ⟨by omega, ⟨rfl, rfl, rfl, rfl, rfl, trivial⟩, ⟨rfl, rfl, trivial⟩, y6, hil, ?_⟩
      rw [take_snoc ls i hil, List.all_append, hall]
      simp [lvB, h]
  · obtain rfl : i = ls.length := by have := of_decide_eq_false h; omega
    rw [List.take_length] at hall
    have b3 : Box w3 g2 [.int .i64 n] := hh3.box 1 _ rfl
    have cT : Runs Tryz.prog 154 #[.slice ta ts.length tc, .func (.func 155) #[] #[.pointer (some ⟨g2, 0, none⟩)]] w3 fun v w' => v = .bool (ts.any fun t => !belowB n t) ∧ Ext w3 w' := by
      refine Runs.of_vc (ρ := []) cx_ok [0, 1, 4] [.v _, .f 155 [] [.v _]] Tryz.func154 rfl rfl rfl (Holds.nil w3) ?_
      refine vcS (IndexT_runs (R := R) n g2 ta ts tc w3 (hT.ext x3) b3 (by unfold lenOk at hlt; omega) fun x hx cs w' hx' hv' => ih x hx cs w' hv') (Holds.nil _) fun w4 x4 hh4 => ?_
      exact ⟨congrArg Value.bool (ixB_any _ ts 0), x4⟩
    refine vcS cT hh3 fun w4 x4 hh4 => ?_
    refine ⟨?_, x3.trans x4⟩
    rw [belowB, hall, belowBs_any, Bool.true_and]
    rfl
end Go.Proofs.YtfljbnhhkdaobaaGreat

/-
  The terms and the numbers of an info.
-/
namespace Go.Proofs.YtfljbnhhkdaobaaGreat
open Go Go.RowKit Go.Proofs.Bw
set_option linter.unusedVariables false
set_option linter.unusedSimpArgs false
def infT (x : Inf) : List T := [x.ty] ++ (if valB x.kind = true then [x.val] else []) ++ x.rules.map (·.b)
theorem infT_len (x : Inf) (h : x.rules.length ≤ 1000000) : (infT x).length ≤ 1000002 := by unfold infT; split <;> simp <;> omega
set_option maxRecDepth 20000 in
theorem terms_runs {R : Nat → Prop} (x : Inf) (cs : List Value) (w : World) (hx : VI w R cs x) (hR : ∀ k, R k → k < w.heap.size) (hsz : x.rules.length ≤ 1000000) :
    Runs Tryz.prog 94 #[.agg cs.toArray] w fun v w' => Ext w w' ∧ ∃ A c, v = .slice A (infT x).length c ∧ OwnE encT w' w.heap.size 33 R A c (infT x) := by
  obtain ⟨ct, cv, ra, rc, rfl, hty, hvl, hru, hrl, hok⟩ := hx; obtain ⟨kt, nt, st, lst, tst, lat, lct, tat, tct, ety, rfl, hkt, hnt, hst, hllt, hltt, hLt, hTt⟩ := hty.inv; obtain ⟨kv, nv, sv, lsv, tsv, lav, lcv, tav, tcv, evl, rfl, hkv, hnv, hsv, hllv, hltv, hLv, hTv⟩ := hvl.inv
  refine Runs.of_vc (ρ := []) cx_ok [0, 1, 2, 3, 5, 11, 18, 19, 20, 21] [.a [.v (.int .u8 x.kind), .v (.string x.name), .v (.int .i64 x.params), .v (.int .u8 kt), .v (.int .i64 nt), .v (.string st), .v (.slice lat lst.length lct), .v (.slice tat tst.length tct), .v (.int .u8 kv), .v (.int .i64 nv), .v (.string sv), .v (.slice lav lsv.length lcv), .v (.slice tav tsv.length tcv), .v (.int .i64 x.height), .v (.string x.block), .v (.string x.of_), .v (.int .i64 x.fixed), .v (.int .i64 x.index), .v (.int .i64 x.no), .v (.int .i64 x.fields), .v (.int .i64 x.motives), .v (.int .i64 x.minors), .v (.slice ra x.rules.length rc), .v (.int .i64 x.ctors), .v (.bool x.record)]] Tryz.func94 rfl rfl rfl (Holds.nil w) ?_
  intro g1 w1 e1 x1 z1 hh1
  refine OpT.buildE (E := encT) (R := R) (vs := [_]) (l := [x.ty]) Tryz.zeroValue33 (.cons rfl (.nil)) Tryz.underlying31 Tryz.sizeOf33 rfl rfl (Reps.cons (hty.ext x1) (Reps.nil _ _ _)) rfl rfl hh1 fun w2 g2 e2 x2 z2 o2 hh2 => ?_
  have y2 := x1.trans x2
  refine vcZ (valued_runs x.kind w2) hh2 fun w3 x3 z3 hh3 => ?_
  have y3 := y2.trans x3
  refine vJoin_upd (σ := Option Addr × Nat) [3, 12, 13, 14, 15, 16] (fun s => [(3, .v (.slice s.1 ([x.ty] ++ if valB x.kind = true then [x.val] else []).length s.2))]) [] (fun _ => [])
    (fun s w' => Ext w w' ∧ w1.heap.size ≤ w'.heap.size ∧ OwnE encT w' w1.heap.size 33 R s.1 s.2 ([x.ty] ++ if valB x.kind = true then [x.val] else [])) (fun _ => ⟨rfl, rfl⟩) (fun h => ?_) (fun h => ?_) ?_
  · rw [if_pos h]
    refine OpT.buildE (E := encT) (R := R) (vs := [_]) (l := [x.val]) Tryz.zeroValue33 (.cons rfl (.nil)) Tryz.underlying31 Tryz.sizeOf33 rfl rfl (Reps.cons (hvl.ext y3) (Reps.nil _ _ _)) rfl rfl hh3 fun w4 g4 e4 x4 z4 o4 hh4 => ?_
    refine OpT.appendO (E := encT) elT Tryz.underlying31 Tryz.underlying31 rfl rfl rfl rfl (l3 := [x.ty] ++ [x.val]) rfl rfl o2 (x3.trans x4) o4 (by omega) (fun k hk => by have := hR k hk; omega) (y3.trans x4) (by omega) hh4 (by repeat (first | exact trivial | refine And.intro (by omega) ?_)) (by simp) fun w5 A5 c5 y5 z5 o5 hh5 => ?_
    exact Exists.intro ((A5, c5)) ⟨esub_over (by repeat (first | exact trivial | refine And.intro rfl ?_)) (by repeat (first | exact trivial | refine And.intro rfl ?_)), hsub_over (by repeat (first | exact trivial | refine And.intro rfl ?_)) (by repeat (first | exact trivial | refine And.intro rfl ?_)), y5, by omega, o5⟩
  · rw [if_neg (by rw [h]; decide)]
    exact Exists.intro ((some ⟨g2, 0, none⟩, 1)) ⟨esub_over (by repeat (first | exact trivial | refine And.intro rfl ?_)) (by repeat (first | exact trivial | refine And.intro rfl ?_)), hsub_over (by repeat (first | exact trivial | refine And.intro rfl ?_)) (by repeat (first | exact trivial | refine And.intro rfl ?_)), y3, by omega, o2.ext x3⟩
  rintro ⟨A5, c5⟩ w5 hh5 ⟨y5, q5, o5⟩
  refine vLoop_upd (σ := Nat × Option Addr × Nat) [3, 5, 20, 21, 22, 23, 24, 25, 26, 27, 28, 29] (fun s => [(20, .v (.int .i64 s.1)), (3, .v (.slice s.2.1 ([x.ty] ++ (if valB x.kind = true then [x.val] else []) ++ (x.rules.take s.1).map (·.b)).length s.2.2))]) [] (fun _ => [])
    (fun s w' => Ext w w' ∧ w1.heap.size ≤ w'.heap.size ∧ s.1 ≤ x.rules.length ∧ OwnE encT w' w1.heap.size 33 R s.2.1 s.2.2 ([x.ty] ++ (if valB x.kind = true then [x.val] else []) ++ (x.rules.take s.1).map (·.b))) (fun s => x.rules.length - s.1) (0, A5, c5) (fun _ => ⟨rfl, rfl⟩)
    ⟨⟨rfl, by simp; rfl, trivial⟩, (by repeat (first | exact trivial | refine And.intro rfl ?_)), (by repeat (first | exact trivial | refine And.intro rfl ?_)), (by repeat (first | exact trivial | refine And.intro rfl ?_)), y5, q5, Nat.zero_le _, by simpa using o5⟩ ?_
  rintro ⟨i, A6, c6⟩ w6 hh6 ⟨y6, q6, hi, o6⟩
  simp only at hi o6
  refine Or.inl (And.intro (fun h => ?_) (fun h => ?_))
  · have hil : i < x.rules.length := by have := of_decide_eq_true h; omega
    obtain ⟨a, cr, ha, _, hrow, hR'⟩ := (hru.ext y6).at hil
    have htk : x.rules.take (i + 1) = x.rules.take i ++ [x.rules[i]] := take_snoc _ _ hil
    generalize x.rules[i] = r at *
    obtain ⟨cb, rfl, hbo, hrf, hrc⟩ := hR'
    obtain ⟨kb, nb, sb, lsb, tsb, lab, lcb, tab, tcb, ebo, rfl, hkb, hnb, hsb, hllb, hltb, hLb, hTb⟩ := hbo.inv
    refine OpT.indexAddr Tryz.underlying34 Tryz.sizeOf84 rfl rfl ha (by first | omega | (simp only [lenOk] at *; omega)) ?_; refine Lands.v hh6 ?_
    refine OpT.loadA Tryz.isAgg84 (by exact Tryz.sizeOf84) rfl hrow ?_; refine Lands.ret (s := .a [.v (.string r.c), .v (.int .i64 r.f), .v (.int .u8 kb), .v (.int .i64 nb), .v (.string sb), .v (.slice lab lsb.length lcb), .v (.slice tab tsb.length tcb)]) rfl rfl hh6 ?_
    intro g7 w7 e7 x7 z7 hh7; intro w8 m8 z8 hh8; replace m8 : Upd g7 w7 w8 := m8; have x8 : Ext w6 w8 := x7.upd m8 (by omega); have q8 := x8.size
    refine OpT.buildE (E := encT) (R := R) (vs := [_]) (l := [r.b]) Tryz.zeroValue33 (.cons rfl (.nil)) Tryz.underlying31 Tryz.sizeOf33 rfl rfl (Reps.cons (hbo.ext x8) (Reps.nil _ _ _)) rfl rfl hh8 fun w9 g9 e9 x9 z9 o9 hh9 => ?_
    have hlen : ([x.ty] ++ (if valB x.kind = true then [x.val] else []) ++ (x.rules.take (i + 1)).map (·.b)).length ≤ 1000002 := by split <;> simp <;> omega
    refine OpT.appendO (E := encT) elT Tryz.underlying31 Tryz.underlying31 rfl rfl rfl rfl (l3 := [x.ty] ++ (if valB x.kind = true then [x.val] else []) ++ (x.rules.take (i + 1)).map (·.b)) (by rw [htk]; simp) rfl o6 (x8.trans x9) o9 (by omega) (fun k hk => by have := hR k hk; omega) (y6.trans (x8.trans x9)) (by omega) hh9 (by repeat (first | exact trivial | refine And.intro (by omega) ?_)) (by omega) fun w10 A10 c10 y10 z10 o10 hh10 => ?_
    refine vsd (by simp only [inKind]; omega) ?_
    exact Exists.intro ((i + 1, A10, c10)) ⟨by simp only; omega, esub_over (by repeat (first | exact trivial | refine And.intro rfl ?_)) (by repeat (first | exact trivial | refine And.intro rfl ?_)), hsub_over (by repeat (first | exact trivial | refine And.intro rfl ?_)) (by repeat (first | exact trivial | refine And.intro rfl ?_)), y10, by omega, hil, o10⟩
  · obtain rfl : i = x.rules.length := by have := of_decide_eq_false h; simp only at this; omega
    rw [List.take_length] at o6
    exact ⟨y6, A6, c6, by rw [List.take_length]; rfl, o6.lower (by omega)⟩
def infN (x : Inf) : List Int := [x.fixed, x.index, x.no, x.fields, x.motives, x.minors, x.ctors] ++ x.rules.map (·.f)
theorem sl_I {w : World} {R : Nat → Prop} {A : Option Addr} {l : List Int} (h : Sl encI w R A l) : Rd w R 1 A (iR l) := fun i r hr => by
  simp only [iR, List.getElem?_map, Option.map_eq_some_iff] at hr
  obtain ⟨n, hn, rfl⟩ := hr
  obtain ⟨a, cs, h1, h2, h3, rfl, _⟩ := h i n hn
  exact ⟨a, h1, h2, h3⟩
theorem elI8 : ElOk Tryz.prog 3 encI.sz 8 := elI
set_option maxRecDepth 20000 in
theorem numbers_runs {R : Nat → Prop} (x : Inf) (cs : List Value) (w : World) (hx : VI w R cs x) (hR : ∀ k, R k → k < w.heap.size) (hsz : x.rules.length ≤ 1000000 - 7) :
    Runs Tryz.prog 92 #[.agg cs.toArray] w fun v w' => v = .bool (!(infN x).any great) ∧ Ext w w' := by
  obtain ⟨ct, cv, ra, rc, rfl, hty, hvl, hru, hrl, hok⟩ := hx; obtain ⟨kt, nt, st, lst, tst, lat, lct, tat, tct, ety, rfl, hkt, hnt, hst, hllt, hltt, hLt, hTt⟩ := hty.inv; obtain ⟨kv, nv, sv, lsv, tsv, lav, lcv, tav, tcv, evl, rfl, hkv, hnv, hsv, hllv, hltv, hLv, hTv⟩ := hvl.inv
  refine Runs.of_vc (ρ := []) cx_ok [0, 1, 2, 3, 5, 22, 23, 24, 25] [.a [.v (.int .u8 x.kind), .v (.string x.name), .v (.int .i64 x.params), .v (.int .u8 kt), .v (.int .i64 nt), .v (.string st), .v (.slice lat lst.length lct), .v (.slice tat tst.length tct), .v (.int .u8 kv), .v (.int .i64 nv), .v (.string sv), .v (.slice lav lsv.length lcv), .v (.slice tav tsv.length tcv), .v (.int .i64 x.height), .v (.string x.block), .v (.string x.of_), .v (.int .i64 x.fixed), .v (.int .i64 x.index), .v (.int .i64 x.no), .v (.int .i64 x.fields), .v (.int .i64 x.motives), .v (.int .i64 x.minors), .v (.slice ra x.rules.length rc), .v (.int .i64 x.ctors), .v (.bool x.record)]] Tryz.func92 rfl rfl rfl (Holds.nil w) ?_
  intro g1 w1 e1 x1 z1 hh1
  obtain ⟨-, -, -, -, -, -, k1, k2, k3, k4, k5, k6, k7⟩ := hok
  refine OpT.buildE (E := encI) (R := R) (vs := [_, _, _, _, _, _, _]) (l := [x.fixed, x.index, x.no, x.fields, x.motives, x.minors, x.ctors]) Tryz.zeroValue3 (.cons rfl (.cons rfl (.cons rfl (.cons rfl (.cons rfl (.cons rfl (.cons rfl (.nil)))))))) Tryz.underlying149 Tryz.sizeOf3 rfl rfl (Reps.cons (⟨rfl, k1⟩) (Reps.cons (⟨rfl, k2⟩) (Reps.cons (⟨rfl, k3⟩) (Reps.cons (⟨rfl, k4⟩) (Reps.cons (⟨rfl, k5⟩) (Reps.cons (⟨rfl, k6⟩) (Reps.cons (⟨rfl, k7⟩) (Reps.nil _ _ _)))))))) rfl rfl hh1 fun w2 g2 e2 x2 z2 o2 hh2 => ?_
  have y2 := x1.trans x2
  refine vLoop_upd (σ := Nat × Option Addr × Nat) [3, 5, 24, 25, 26, 27, 28, 29, 30, 31, 32, 33] (fun s => [(24, .v (.int .i64 s.1)), (3, .v (.slice s.2.1 ([x.fixed, x.index, x.no, x.fields, x.motives, x.minors, x.ctors] ++ (x.rules.take s.1).map (·.f)).length s.2.2))]) [] (fun _ => [])
    (fun s w' => Ext w w' ∧ w1.heap.size ≤ w'.heap.size ∧ s.1 ≤ x.rules.length ∧ OwnE encI w' w1.heap.size 3 R s.2.1 s.2.2 ([x.fixed, x.index, x.no, x.fields, x.motives, x.minors, x.ctors] ++ (x.rules.take s.1).map (·.f))) (fun s => x.rules.length - s.1) (0, some ⟨g2, 0, none⟩, 7) (fun _ => ⟨rfl, rfl⟩)
    ⟨⟨rfl, rfl, trivial⟩, (by repeat (first | exact trivial | refine And.intro rfl ?_)), (by repeat (first | exact trivial | refine And.intro rfl ?_)), (by repeat (first | exact trivial | refine And.intro rfl ?_)), y2, by omega, Nat.zero_le _, by simpa using o2⟩ ?_
  rintro ⟨i, A6, c6⟩ w6 hh6 ⟨y6, q6, hi, o6⟩
  simp only at hi o6
  refine Or.inl (And.intro (fun h => ?_) (fun h => ?_))
  · have hil : i < x.rules.length := by have := of_decide_eq_true h; omega
    obtain ⟨a, cr, ha, _, hrow, hR'⟩ := (hru.ext y6).at hil
    have htk : x.rules.take (i + 1) = x.rules.take i ++ [x.rules[i]] := take_snoc _ _ hil
    generalize x.rules[i] = r at *
    obtain ⟨cb, rfl, hbo, hrf, hrc⟩ := hR'
    obtain ⟨kb, nb, sb, lsb, tsb, lab, lcb, tab, tcb, ebo, rfl, hkb, hnb, hsb, hllb, hltb, hLb, hTb⟩ := hbo.inv
    refine OpT.indexAddr Tryz.underlying34 Tryz.sizeOf84 rfl rfl ha (by first | omega | (simp only [lenOk] at *; omega)) ?_; refine Lands.v hh6 ?_
    refine OpT.loadA Tryz.isAgg84 (by exact Tryz.sizeOf84) rfl hrow ?_; refine Lands.ret (s := .a [.v (.string r.c), .v (.int .i64 r.f), .v (.int .u8 kb), .v (.int .i64 nb), .v (.string sb), .v (.slice lab lsb.length lcb), .v (.slice tab tsb.length tcb)]) rfl rfl hh6 ?_
    intro g7 w7 e7 x7 z7 hh7; intro w8 m8 z8 hh8; replace m8 : Upd g7 w7 w8 := m8; have x8 : Ext w6 w8 := x7.upd m8 (by omega); have q8 := x8.size
    refine OpT.buildE (E := encI) (R := R) (vs := [_]) (l := [r.f]) Tryz.zeroValue3 (.cons rfl (.nil)) Tryz.underlying149 Tryz.sizeOf3 rfl rfl (Reps.cons (⟨rfl, hrf⟩) (Reps.nil _ _ _)) rfl rfl hh8 fun w9 g9 e9 x9 z9 o9 hh9 => ?_
    have hlen : ([x.fixed, x.index, x.no, x.fields, x.motives, x.minors, x.ctors] ++ (x.rules.take (i + 1)).map (·.f)).length ≤ 1000007 := by simp; omega
    refine OpT.appendO (E := encI) elI8 Tryz.underlying149 Tryz.underlying149 rfl rfl rfl rfl (l3 := [x.fixed, x.index, x.no, x.fields, x.motives, x.minors, x.ctors] ++ (x.rules.take (i + 1)).map (·.f)) (by rw [htk]; simp) rfl o6 (x8.trans x9) o9 (by omega) (fun k hk => by have := hR k hk; omega) (y6.trans (x8.trans x9)) (by omega) hh9 (by repeat (first | exact trivial | refine And.intro (by omega) ?_)) (by omega) fun w10 A10 c10 y10 z10 o10 hh10 => ?_
    refine vsd (by simp only [inKind]; omega) ?_
    exact Exists.intro ((i + 1, A10, c10)) ⟨by simp only; omega, esub_over (by repeat (first | exact trivial | refine And.intro rfl ?_)) (by repeat (first | exact trivial | refine And.intro rfl ?_)), hsub_over (by repeat (first | exact trivial | refine And.intro rfl ?_)) (by repeat (first | exact trivial | refine And.intro rfl ?_)), y10, by omega, hil, o10⟩
  · obtain rfl : i = x.rules.length := by have := of_decide_eq_false h; simp only at this; omega
    rw [List.take_length] at o6
    have cI := ContainsIntN_runs A6 (infN x) c6 w6 (sl_I o6.sl) (by unfold infN; simp; omega)
    rw [List.take_length]
    refine vcZ cI hh6 fun w7 x7 z7 hh7 => ?_
    exact ⟨rfl, y6.trans x7⟩
end Go.Proofs.YtfljbnhhkdaobaaGreat

/-
  closed; the first error of a list.
-/
namespace Go.Proofs.YtfljbnhhkdaobaaGreat
open Go Go.RowKit Go.Proofs.Bw
set_option linter.unusedVariables false
set_option linter.unusedSimpArgs false
def closedE (n : Nat) (t : T) : Int := if mayT t = false ∨ 0 < free t 0 then 7 else if belowB n t = false then 8 else 0
theorem closed_runs {R : Nat → Prop} (p : Nat) (hp : p ≤ 4) (t : T) (cs : List Value) (w : World) (hv : VT w R cs t) :
    Runs Tryz.prog 96 #[.agg cs.toArray, .int .i64 p] w fun v w' => v = .int .i64 (closedE p t) ∧ Ext w w' := by
  have hv0 := hv
  obtain ⟨k, n, s, ls, ts, la, lc, ta, tc, et, rfl, hk, hn, hs, hll, hlt, hL, hT⟩ := hv.inv
  refine Runs.of_vc (ρ := []) cx_ok [0, 1, 2, 4, 5, 12] [.a [.v (.int .u8 k), .v (.int .i64 n), .v (.string s), .v (.slice la ls.length lc), .v (.slice ta ts.length tc)], .v _] Tryz.func96 rfl rfl rfl (Holds.nil w) ?_
  intro g1 w1 e1 x1 z1 hh1
  refine vcZ (may_runs t _ w1 R (hv0.ext x1)) hh1 fun w2 x2 z2 hh2 => ?_
  refine Or.inl (And.intro (fun h => ?_) (fun h => ?_))
  · refine Or.inl (And.intro (fun _ => ?_) (fun hx => nomatch (h).symm.trans hx))
    have h : mayT t = false := by simpa using h
    have e : closedE p t = 7 := by unfold closedE; rw [if_pos (.inl h)]
    exact ⟨congrArg (Value.int .i64) e.symm, x1.trans x2⟩
  · have hm : mayT t = true := by simpa using h
    refine vcZ (free_runs t _ w2 R (hv0.ext (x1.trans x2))) hh2 fun w3 x3 z3 hh3 => ?_
    have ef : (bif mayT t then max 0 (free t 0) else 0) = max 0 (free t 0) := by rw [hm]; rfl
    rw [ef]
    refine Or.inl (And.intro (fun h => ?_) (fun h => ?_))
    · have h := of_decide_eq_true h
      have e : closedE p t = 7 := by unfold closedE; rw [if_pos (.inr (by omega))]
      exact ⟨congrArg (Value.int .i64) e.symm, x1.trans (x2.trans x3)⟩
    · have h := of_decide_eq_false h
      have h7 : ¬ (mayT t = false ∨ 0 < free t 0) := by rw [hm]; simp; omega
      refine vcZ (below_runs p hp t _ w3 (hv0.ext (x1.trans (x2.trans x3)))) hh3 fun w4 x4 z4 hh4 => ?_
      refine Or.inl (And.intro (fun h => ?_) (fun h => ?_))
      · have h : belowB p t = false := by simpa using h
        have e : closedE p t = 8 := by unfold closedE; rw [if_neg h7, if_pos h]
        exact ⟨congrArg (Value.int .i64) e.symm, x1.trans (x2.trans (x3.trans x4))⟩
      · have h : belowB p t = true := by simpa using h
        have e : closedE p t = 0 := by unfold closedE; rw [if_neg h7, if_neg (by rw [h]; decide)]
        exact ⟨congrArg (Value.int .i64) e.symm, x1.trans (x2.trans (x3.trans x4))⟩
def firstB {α : Type} (f : α → Int) : List α → Int
  | [] => 0
  | x :: r => if f x ≠ 0 then f x else firstB f r
theorem firstB_drop {α : Type} (f : α → Int) (l : List α) (i : Nat) (h : i < l.length) : firstB f (l.drop i) = if f l[i] ≠ 0 then f l[i] else firstB f (l.drop (i + 1)) := by
  rw [List.drop_eq_getElem_cons h, firstB]
set_option maxRecDepth 20000 in
theorem firstT2_runs {R : Nat → Prop} (caps : List Value) (hcl : caps.length = 1) (f : T → Int) (A : Option Addr) (l : List T) (c : Nat) (w : World) (hl : Sl encT w R A l) (hsz : l.length ≤ 1000002)
    (hf : ∀ t ∈ l, ∀ cs w', Ext w w' → VT w' R cs t → Runs Tryz.prog 95 (#[.agg cs.toArray] ++ caps.toArray) w' fun v w'' => v = .int .i64 (f t) ∧ Ext w' w'') :
    Runs Tryz.prog 93 #[.slice A l.length c, .func (.func 95) #[] caps.toArray] w fun v w' => v = .int .i64 (firstB f l) ∧ Ext w w' := by
  obtain ⟨c0, rfl⟩ : ∃ c0, caps = [c0] := by
    match caps, hcl with
    | [c0], _ => exact ⟨c0, rfl⟩
  refine Runs.of_vc (ρ := []) cx_ok [0, 1, 4, 6, 7, 8, 9, 10, 11, 18] [.v _, .f 95 [] [.v c0]] Tryz.func93 rfl rfl rfl (Holds.nil w) ?_
  refine vLoop_upd (σ := Nat) [4, 6, 7, 10, 11, 12, 13, 14, 15, 16, 17, 18, 19, 20] (fun i => [(10, .v (.int .i64 i))]) [] (fun _ => []) (fun i w' => Ext w w' ∧ i ≤ l.length ∧ firstB f l = firstB f (l.drop i)) (fun i => l.length - i) 0 (fun _ => ⟨rfl, rfl⟩)
    ⟨(by repeat (first | exact trivial | refine And.intro rfl ?_)), (by repeat (first | exact trivial | refine And.intro rfl ?_)), (by repeat (first | exact trivial | refine And.intro rfl ?_)), (by repeat (first | exact trivial | refine And.intro rfl ?_)), Ext.refl _, Nat.zero_le _, rfl⟩ ?_
  rintro i w1 hh1 ⟨x1, hi, hx⟩
  refine Or.inl (And.intro (fun h => ?_) (fun h => ?_))
  · have hil : i < l.length := by have := of_decide_eq_true h; omega
    rw [firstB_drop f l i hil] at hx
    obtain ⟨a1, cs, ha1, _, hrow, hv⟩ := (hl.ext x1).at hil
    have hft := hf l[i] (List.getElem_mem hil)
    generalize l[i] = t at *
    have hv0 := hv
    have hv : VT w1 R cs t := hv
    obtain ⟨k, n, s, ls, ts, la, lc, ta, tc, et, rfl, hk, hn, hs, hll, hlt, hL, hT⟩ := hv.inv
    refine OpT.indexAddr Tryz.underlying31 Tryz.sizeOf33 rfl rfl ha1 (by first | omega | (simp only [lenOk] at *; omega)) ?_; refine Lands.v hh1 ?_
    refine OpT.loadA Tryz.isAgg33 (by exact Tryz.sizeOf33) rfl hrow ?_; refine Lands.ret (s := .a [.v (.int .u8 k), .v (.int .i64 n), .v (.string s), .v (.slice la ls.length lc), .v (.slice ta ts.length tc)]) rfl rfl hh1 ?_
    intro g2 w2 e2 x2 z2 hh2; intro w3 m3 z3 hh3; replace m3 : Upd g2 w2 w3 := m3; have x3 : Ext w1 w3 := x2.upd m3 (by omega); have q3 := x3.size
    refine vcZ (hft _ w3 (x1.trans x3) (hv0.ext x3)) hh3 fun w4 x4 z4 hh4 => ?_
    refine Or.inl (And.intro (fun h => ?_) (fun h => ?_))
    · rw [if_pos (by simpa using h)] at hx
      exact ⟨congrArg (Value.int .i64) hx.symm, x1.trans (x3.trans x4)⟩
    · rw [if_neg (by simpa using h)] at hx
      refine vsd (by simp only [inKind]; omega) ?_
      exact Exists.intro (i + 1) ⟨by omega, esub_over (by repeat (first | exact trivial | refine And.intro rfl ?_)) (by repeat (first | exact trivial | refine And.intro rfl ?_)), hsub_over (by repeat (first | exact trivial | refine And.intro rfl ?_)) (by repeat (first | exact trivial | refine And.intro rfl ?_)), x1.trans (x3.trans x4), hil, hx⟩
  · obtain rfl : i = l.length := by have := of_decide_eq_false h; omega
    rw [List.drop_length] at hx
    exact ⟨congrArg (Value.int .i64) hx.symm, x1⟩
set_option maxRecDepth 20000 in
theorem firstT3_runs {R : Nat → Prop} (caps : List Value) (hcl : caps.length = 3) (f : T → Int) (A : Option Addr) (l : List T) (c : Nat) (w : World) (hl : Sl encT w R A l) (hsz : l.length ≤ 1000002)
    (hf : ∀ t ∈ l, ∀ cs w', Ext w w' → VT w' R cs t → Runs Tryz.prog 97 (#[.agg cs.toArray] ++ caps.toArray) w' fun v w'' => v = .int .i64 (f t) ∧ Ext w' w'') :
    Runs Tryz.prog 93 #[.slice A l.length c, .func (.func 97) #[] caps.toArray] w fun v w' => v = .int .i64 (firstB f l) ∧ Ext w w' := by
  obtain ⟨c0, c1, c2, rfl⟩ : ∃ c0 c1 c2, caps = [c0, c1, c2] := by
    match caps, hcl with
    | [c0, c1, c2], _ => exact ⟨c0, c1, c2, rfl⟩
  refine Runs.of_vc (ρ := []) cx_ok [0, 1, 4, 6, 7, 8, 9, 10, 11, 18] [.v _, .f 97 [] [.v c0, .v c1, .v c2]] Tryz.func93 rfl rfl rfl (Holds.nil w) ?_
  refine vLoop_upd (σ := Nat) [4, 6, 7, 10, 11, 12, 13, 14, 15, 16, 17, 18, 19, 20] (fun i => [(10, .v (.int .i64 i))]) [] (fun _ => []) (fun i w' => Ext w w' ∧ i ≤ l.length ∧ firstB f l = firstB f (l.drop i)) (fun i => l.length - i) 0 (fun _ => ⟨rfl, rfl⟩)
    ⟨(by repeat (first | exact trivial | refine And.intro rfl ?_)), (by repeat (first | exact trivial | refine And.intro rfl ?_)), (by repeat (first | exact trivial | refine And.intro rfl ?_)), (by repeat (first | exact trivial | refine And.intro rfl ?_)), Ext.refl _, Nat.zero_le _, rfl⟩ ?_
  rintro i w1 hh1 ⟨x1, hi, hx⟩
  refine Or.inl (And.intro (fun h => ?_) (fun h => ?_))
  · have hil : i < l.length := by have := of_decide_eq_true h; omega
    rw [firstB_drop f l i hil] at hx
    obtain ⟨a1, cs, ha1, _, hrow, hv⟩ := (hl.ext x1).at hil
    have hft := hf l[i] (List.getElem_mem hil)
    generalize l[i] = t at *
    have hv0 := hv
    have hv : VT w1 R cs t := hv
    obtain ⟨k, n, s, ls, ts, la, lc, ta, tc, et, rfl, hk, hn, hs, hll, hlt, hL, hT⟩ := hv.inv
    refine OpT.indexAddr Tryz.underlying31 Tryz.sizeOf33 rfl rfl ha1 (by first | omega | (simp only [lenOk] at *; omega)) ?_; refine Lands.v hh1 ?_
    refine OpT.loadA Tryz.isAgg33 (by exact Tryz.sizeOf33) rfl hrow ?_; refine Lands.ret (s := .a [.v (.int .u8 k), .v (.int .i64 n), .v (.string s), .v (.slice la ls.length lc), .v (.slice ta ts.length tc)]) rfl rfl hh1 ?_
    intro g2 w2 e2 x2 z2 hh2; intro w3 m3 z3 hh3; replace m3 : Upd g2 w2 w3 := m3; have x3 : Ext w1 w3 := x2.upd m3 (by omega); have q3 := x3.size
    refine vcZ (hft _ w3 (x1.trans x3) (hv0.ext x3)) hh3 fun w4 x4 z4 hh4 => ?_
    refine Or.inl (And.intro (fun h => ?_) (fun h => ?_))
    · rw [if_pos (by simpa using h)] at hx
      exact ⟨congrArg (Value.int .i64) hx.symm, x1.trans (x3.trans x4)⟩
    · rw [if_neg (by simpa using h)] at hx
      refine vsd (by simp only [inKind]; omega) ?_
      exact Exists.intro (i + 1) ⟨by omega, esub_over (by repeat (first | exact trivial | refine And.intro rfl ?_)) (by repeat (first | exact trivial | refine And.intro rfl ?_)), hsub_over (by repeat (first | exact trivial | refine And.intro rfl ?_)) (by repeat (first | exact trivial | refine And.intro rfl ?_)), x1.trans (x3.trans x4), hil, hx⟩
  · obtain rfl : i = l.length := by have := of_decide_eq_false h; omega
    rw [List.drop_length] at hx
    exact ⟨congrArg (Value.int .i64) hx.symm, x1⟩
end Go.Proofs.YtfljbnhhkdaobaaGreat

/-
  How the program's environment lies; what is found there; names of infos.
-/
namespace Go.Proofs.YtfljbnhhkdaobaaGreat
open Go Go.RowKit Go.Proofs.Bw
set_option linter.unusedVariables false
set_option linter.unusedSimpArgs false
def noI : Inf := ⟨0, noS, 0, tZ, tZ, 0, noS, noS, 0, 0, 0, 0, 0, 0, [], 0, false⟩
theorem tZ_rep (w : World) (R : Nat → Prop) : VT w R [.int .u8 0, .int .i64 0, .string noS, .slice none 0 0, .slice none 0 0] tZ :=
  VT.intro (by omega) (by simp [i64ok]) (by show (⟨#[]⟩ : ByteArray).size ≤ _; simp [ByteArray.size]) (by simp [lenOk]) (by simp [lenOk]) (SlL.nil _ _ _) (SlT.nil _ _ _)
theorem noS_size : noS.size = 0 := rfl
theorem noI_ok : noI.ok := by simp [Inf.ok, noI, i64ok, noS_size]
def noIc : List Value := noI.cells [.int .u8 0, .int .i64 0, .string noS, .slice none 0 0, .slice none 0 0] [.int .u8 0, .int .i64 0, .string noS, .slice none 0 0, .slice none 0 0] none 0
theorem noI_rep (w : World) (R : Nat → Prop) : VI w R noIc noI := ⟨_, _, _, _, rfl, tZ_rep w R, tZ_rep w R, Sl.nil _ _ _ _, by simp [lenOk, noI], noI_ok⟩
def findI (l : List Inf) (s : ByteArray) : Option Inf := l.find? fun x => decide (x.name = s)
def getI (l : List Inf) (s : ByteArray) : Inf := (findI l s).getD noI
abbrev strE : ByteArray → Value := fun s => .string s
def EMs (w : World) (R : Nat → Prop) : List (ByteArray × Value) → List Inf → Prop
  | [], [] => True
  | p :: es, x :: l => p.1 = x.name ∧ (∃ cs : List Value, p.2 = .agg cs.toArray ∧ VI w R cs x) ∧ EMs w R es l
  | _, _ => False
theorem EMs.mod {S R : Nat → Prop} {w w' : World} (hm : Bw.Mod S w w') (hS : ∀ k, R k → ¬ S k) : ∀ {es : List (ByteArray × Value)} {l : List Inf}, EMs w R es l → EMs w' R es l
  | [], [], _ => trivial
  | p :: es, x :: l, ⟨h1, ⟨cs, h2, h3⟩, h4⟩ => ⟨h1, ⟨cs, h2, encInf.mod h3 hm hS⟩, h4.mod hm hS⟩
  | [], _ :: _, h => h.elim
  | _ :: _, [], h => h.elim
theorem EMs.mono {R R' : Nat → Prop} {w : World} (hr : ∀ k, R k → R' k) : ∀ {es : List (ByteArray × Value)} {l : List Inf}, EMs w R es l → EMs w R' es l
  | [], [], _ => trivial
  | p :: es, x :: l, ⟨h1, ⟨cs, h2, h3⟩, h4⟩ => ⟨h1, ⟨cs, h2, encInf.mono h3 hr⟩, h4.mono hr⟩
  | [], _ :: _, h => h.elim
  | _ :: _, [], h => h.elim
theorem EMs.snoc {R : Nat → Prop} {w : World} {s : ByteArray} {cs : List Value} {y : Inf} (hn : s = y.name) (hy : VI w R cs y) : ∀ {es : List (ByteArray × Value)} {l : List Inf}, EMs w R es l → EMs w R (es ++ [(s, .agg cs.toArray)]) (l ++ [y])
  | [], [], _ => ⟨hn, ⟨cs, rfl, hy⟩, trivial⟩
  | p :: es, x :: l, ⟨h1, h2, h4⟩ => ⟨h1, h2, h4.snoc hn hy⟩
  | [], _ :: _, h => h.elim
  | _ :: _, [], h => h.elim
theorem EMs.find {R : Nat → Prop} {w : World} (s : ByteArray) : ∀ {es : List (ByteArray × Value)} {l : List Inf} (i : Nat), EMs w R es l →
    (∃ j x, ∃ cs : List Value, mfind s es i = some (j, .agg cs.toArray) ∧ findI l s = some x ∧ VI w R cs x) ∨ (mfind s es i = none ∧ findI l s = none)
  | [], [], i, _ => .inr ⟨rfl, rfl⟩
  | p :: es, x :: l, i, ⟨h1, ⟨cs, h2, h3⟩, h4⟩ => by
    obtain ⟨k', v⟩ := p
    simp only at h1 h2
    subst h1; subst h2
    unfold mfind findI
    rw [List.find?_cons]
    by_cases hk : s = x.name
    · rw [if_pos hk, decide_eq_true hk.symm]
      exact .inl ⟨_, _, _, rfl, rfl, h3⟩
    · rw [if_neg hk, decide_eq_false (fun e => hk e.symm)]
      exact EMs.find s (i + 1) h4
  | [], _ :: _, _, h => h.elim
  | _ :: _, [], _, h => h.elim
theorem EMs.get {R : Nat → Prop} {w : World} {es : List (ByteArray × Value)} {l : List Inf} (h : EMs w R es l) (s : ByteArray) :
    ∃ cs : List Value, (mget s es).getD (.agg noIc.toArray) = .agg cs.toArray ∧ VI w R cs (getI l s) ∧ (mget s es).isSome = (findI l s).isSome := by
  unfold mget getI
  rcases h.find s 0 with ⟨j, x, cs, h1, h2, h3⟩ | ⟨h1, h2⟩
  · rw [h1, h2]; exact ⟨cs, rfl, h3, rfl⟩
  · rw [h1, h2]; exact ⟨noIc, rfl, noI_rep w R, rfl⟩
theorem EMs.put {R : Nat → Prop} {w : World} {es : List (ByteArray × Value)} {l : List Inf} {cs : List Value} {y : Inf} (h : EMs w R es l) (hy : VI w R cs y) (hno : findI l y.name = none) : EMs w R (mput y.name (.agg cs.toArray) es) (l ++ [y]) := by
  unfold mput
  rcases h.find y.name 0 with ⟨j, x, cs', h1, h2, h3⟩ | ⟨h1, h2⟩
  · rw [hno] at h2; cases h2
  · rw [h1]; exact h.snoc rfl hy
theorem findI_mem {l : List Inf} {s : ByteArray} {x : Inf} (h : findI l s = some x) : x ∈ l ∧ x.name = s := by
  unfold findI at h
  exact ⟨List.mem_of_find?_eq_some h, by simpa using List.find?_some h⟩
theorem findI_none {l : List Inf} {s : ByteArray} : findI l s = none ↔ ∀ x ∈ l, x.name ≠ s := by
  unfold findI
  simp [List.find?_eq_none]
def mine (e m : Nat) (A : Option Addr) : Nat → Prop := fun k => k = e ∨ k = m ∨ ownOf A k
structure EA (w : World) (R : Nat → Prop) (lo e m : Nat) (A : Option Addr) (c : Nat) (l : List Inf) : Prop where
  box : Box w e [.map (some m), .slice A l.length c]
  map : ∃ es, MapAt strE w m es ∧ EMs w R es l
  own : OwnE encS w lo 9 (fun _ => False) A c (l.map (·.name))
  ne : e ≠ m ∧ ¬ ownOf A e ∧ ¬ ownOf A m
  lo_ : lo ≤ e ∧ lo ≤ m
  far : ∀ k, R k → ¬ mine e m A k ∧ k < w.heap.size
  hts : ∀ x ∈ l, 0 ≤ x.height ∧ x.height ≤ l.length
  few : l.length ≤ 4096
  rls : ∀ x ∈ l, x.rules.length ≤ 1000
theorem EA.mine_lt {w : World} {R : Nat → Prop} {lo e m c : Nat} {A : Option Addr} {l : List Inf} (h : EA w R lo e m A c l) : ∀ k, mine e m A k → lo ≤ k ∧ k < w.heap.size := by
  rintro k (rfl | rfl | hk)
  · exact ⟨h.lo_.1, h.box.lt⟩
  · obtain ⟨es, h1, _⟩ := h.map
    exact ⟨h.lo_.2, h1.lt⟩
  · exact h.own.lt k hk
theorem EA.mod {S : Nat → Prop} {w w' : World} {R : Nat → Prop} {lo e m c : Nat} {A : Option Addr} {l : List Inf} (h : EA w R lo e m A c l) (hm : Bw.Mod S w w') (h1 : ∀ k, k < w.heap.size → S k → ¬ mine e m A k) (h2 : ∀ k, R k → ¬ S k) (h3 : ∀ k, k < w.heap.size → S k → k < lo ∨ ¬ mine e m A k) : EA w' R lo e m A c l := by
  obtain ⟨es, hM, hE⟩ := h.map
  have hlt := h.mine_lt
  refine ⟨h.box.mod hm fun hs => h1 e h.box.lt hs (.inl rfl), ⟨es, hM.mod hm fun hs => h1 m hM.lt hs (.inr (.inl rfl)), hE.mod hm h2⟩, ?_, h.ne, h.lo_, fun k hk => ⟨(h.far k hk).1, Nat.lt_of_lt_of_le (h.far k hk).2 hm.size⟩, h.hts, h.few, h.rls⟩
  obtain ⟨css, q1, q2⟩ := h.own
  refine ⟨css, q1.mod hm fun a ha hs => h1 a.block (hlt _ (.inr (.inr ⟨a, ha, rfl⟩))).2 hs (.inr (.inr ⟨a, ha, rfl⟩)), q2.1, fun i cs x hx hy => ?_⟩
  exact q2.2 i cs x hx hy
theorem EA.ext {w w' : World} {R : Nat → Prop} {lo e m c : Nat} {A : Option Addr} {l : List Inf} (h : EA w R lo e m A c l) (hx : Ext w w') : EA w' R lo e m A c l :=
  h.mod hx (fun _ _ h => h.elim) (fun _ _ h => h.elim) (fun _ _ h => h.elim)
/-! is(name) -/
set_option maxRecDepth 20000 in
theorem is1_runs {R : Nat → Prop} (g : Nat) (s : ByteArray) (x : Inf) (cs : List Value) (w : World) (hx : VI w R cs x) (b : Box w g [.string s]) :
    Runs Tryz.prog 89 #[.agg cs.toArray, .pointer (some ⟨g, 0, none⟩)] w fun v w' => v = .bool (decide (x.name = s)) ∧ Ext w w' := by
  obtain ⟨ct, cv, ra, rc, rfl, hty, hvl, hru, hrl, hok⟩ := hx; obtain ⟨kt, nt, st, lst, tst, lat, lct, tat, tct, ety, rfl, hkt, hnt, hst, hllt, hltt, hLt, hTt⟩ := hty.inv; obtain ⟨kv, nv, sv, lsv, tsv, lav, lcv, tav, tcv, evl, rfl, hkv, hnv, hsv, hllv, hltv, hLv, hTv⟩ := hvl.inv
  have hh := Holds.one (g := g) (cs := [.v (.string s)]) b rfl
  refine Runs.of_vc (ρ := [g]) cx_ok [0, 1, 2, 3] [.a [.v (.int .u8 x.kind), .v (.string x.name), .v (.int .i64 x.params), .v (.int .u8 kt), .v (.int .i64 nt), .v (.string st), .v (.slice lat lst.length lct), .v (.slice tat tst.length tct), .v (.int .u8 kv), .v (.int .i64 nv), .v (.string sv), .v (.slice lav lsv.length lcv), .v (.slice tav tsv.length tcv), .v (.int .i64 x.height), .v (.string x.block), .v (.string x.of_), .v (.int .i64 x.fixed), .v (.int .i64 x.index), .v (.int .i64 x.no), .v (.int .i64 x.fields), .v (.int .i64 x.motives), .v (.int .i64 x.minors), .v (.slice ra x.rules.length rc), .v (.int .i64 x.ctors), .v (.bool x.record)], .p 0 0] Tryz.func89 rfl rfl rfl hh ?_
  intro g1 w1 e1 x1 z1 hh1
  exact ⟨rfl, x1⟩
theorem is_runs (s : ByteArray) (w : World) : Runs Tryz.prog 88 #[.string s] w fun v w' => Ext w w' ∧ ∃ g, v = .func (.func 89) #[] #[.pointer (some ⟨g, 0, none⟩)] ∧ Box w' g [.string s] ∧ w.heap.size ≤ g := by
  refine Runs.of_vc cx_ok [0, 1, 2] [.v _] Tryz.func88 rfl rfl rfl (Holds.nil _) ?_
  intro g1 w1 e1 x1 z1 hh1
  exact ⟨x1, g1, rfl, hh1.box 0 _ rfl, by omega⟩
set_option maxRecDepth 20000 in
theorem IndexInfo_runs {R : Nat → Prop} (g : Nat) (s : ByteArray) (A : Option Addr) (l : List Inf) (c : Nat) (w : World) (hl : Sl encInf w R A l) (b : Box w g [.string s]) (hsz : l.length ≤ 1000000) :
    Runs Tryz.prog 121 #[.slice A l.length c, .func (.func 89) #[] #[.pointer (some ⟨g, 0, none⟩)]] w fun v w' => v = .int .i64 (ixB (fun x => decide (x.name = s)) l 0) ∧ Ext w w' := by
  refine Runs.of_vc (ρ := []) cx_ok [0, 1, 4, 5, 7, 8, 9, 16] [.v _, .f 89 [] [.v _]] Tryz.func121 rfl rfl rfl (Holds.nil w) ?_
  refine vLoop_upd (σ := Nat) [4, 5, 8, 9, 10, 11, 12, 13, 14, 15, 16, 17, 18] (fun i => [(8, .v (.int .i64 i))]) [] (fun _ => []) (fun i w' => Ext w w' ∧ i ≤ l.length ∧ ixB (fun x => decide (x.name = s)) l 0 = ixB (fun x => decide (x.name = s)) (l.drop i) i) (fun i => l.length - i) 0 (fun _ => ⟨rfl, rfl⟩)
    ⟨(by repeat (first | exact trivial | refine And.intro rfl ?_)), (by repeat (first | exact trivial | refine And.intro rfl ?_)), (by repeat (first | exact trivial | refine And.intro rfl ?_)), (by repeat (first | exact trivial | refine And.intro rfl ?_)), Ext.refl _, Nat.zero_le _, rfl⟩ ?_
  rintro i w1 hh1 ⟨x1, hi, hx⟩
  refine Or.inl (And.intro (fun h => ?_) (fun h => ?_))
  · have hil : i < l.length := by have := of_decide_eq_true h; omega
    rw [ixB_drop _ l i hil] at hx
    obtain ⟨a1, cs, ha1, _, hrow, hv⟩ := (hl.ext x1).at hil
    generalize l[i] = x at *
    have hv0 : VI w1 R cs x := hv
    have hv : VI w1 R cs x := hv
    obtain ⟨ct, cv, ra, rc, rfl, hty, hvl, hru, hrl, hok⟩ := hv; obtain ⟨kt, nt, st, lst, tst, lat, lct, tat, tct, ety, rfl, hkt, hnt, hst, hllt, hltt, hLt, hTt⟩ := hty.inv; obtain ⟨kv, nv, sv, lsv, tsv, lav, lcv, tav, tcv, evl, rfl, hkv, hnv, hsv, hllv, hltv, hLv, hTv⟩ := hvl.inv
    refine OpT.indexAddr Tryz.underlying22 Tryz.sizeOf36 rfl rfl ha1 (by first | omega | (simp only [lenOk] at *; omega)) ?_; refine Lands.v hh1 ?_
    refine OpT.loadA Tryz.isAgg36 (by exact Tryz.sizeOf36) rfl hrow ?_; refine Lands.ret (s := .a [.v (.int .u8 x.kind), .v (.string x.name), .v (.int .i64 x.params), .v (.int .u8 kt), .v (.int .i64 nt), .v (.string st), .v (.slice lat lst.length lct), .v (.slice tat tst.length tct), .v (.int .u8 kv), .v (.int .i64 nv), .v (.string sv), .v (.slice lav lsv.length lcv), .v (.slice tav tsv.length tcv), .v (.int .i64 x.height), .v (.string x.block), .v (.string x.of_), .v (.int .i64 x.fixed), .v (.int .i64 x.index), .v (.int .i64 x.no), .v (.int .i64 x.fields), .v (.int .i64 x.motives), .v (.int .i64 x.minors), .v (.slice ra x.rules.length rc), .v (.int .i64 x.ctors), .v (.bool x.record)]) rfl rfl hh1 ?_
    refine vcZ (is1_runs g s x _ w1 hv0 (b.ext x1)) hh1 fun w2 x2 z2 hh2 => ?_
    refine Or.inl (And.intro (fun h => ?_) (fun h => ?_))
    · rw [if_pos h] at hx
      exact ⟨congrArg (Value.int .i64) hx.symm, x1.trans x2⟩
    · rw [if_neg (by rw [h]; decide)] at hx
      refine vsd (by simp only [inKind]; omega) ?_
      exact Exists.intro (i + 1) ⟨by omega, esub_over (by repeat (first | exact trivial | refine And.intro rfl ?_)) (by repeat (first | exact trivial | refine And.intro rfl ?_)), hsub_over (by repeat (first | exact trivial | refine And.intro rfl ?_)) (by repeat (first | exact trivial | refine And.intro rfl ?_)), x1.trans x2, hil, hx⟩
  · obtain rfl : i = l.length := by have := of_decide_eq_false h; omega
    rw [List.drop_length] at hx
    exact ⟨congrArg (Value.int .i64) hx.symm, x1⟩
def nameIn (l : List Inf) (s : ByteArray) : Bool := l.any fun x => decide (x.name = s)
theorem ContainsInfo_runs {R : Nat → Prop} (g : Nat) (s : ByteArray) (A : Option Addr) (l : List Inf) (c : Nat) (w : World) (hl : Sl encInf w R A l) (b : Box w g [.string s]) (hsz : l.length ≤ 1000000) :
    Runs Tryz.prog 91 #[.slice A l.length c, .func (.func 89) #[] #[.pointer (some ⟨g, 0, none⟩)]] w fun v w' => v = .bool (nameIn l s) ∧ Ext w w' := by
  refine Runs.of_vc (ρ := []) cx_ok [0, 1, 4] [.v _, .f 89 [] [.v _]] Tryz.func91 rfl rfl rfl (Holds.nil w) ?_
  refine vcS (IndexInfo_runs g s A l c w hl b hsz) (Holds.nil _) fun w1 x1 hh1 => ?_
  exact ⟨congrArg Value.bool (ixB_any _ l 0), x1⟩
end Go.Proofs.YtfljbnhhkdaobaaGreat

/-
  check: names that nobody gave.
-/
namespace Go.Proofs.YtfljbnhhkdaobaaGreat
open Go Go.RowKit Go.Proofs.Bw
set_option linter.unusedVariables false
set_option linter.unusedSimpArgs false
theorem keyS : KeyOk Tryz.prog 9 strE := keyStr Tryz.underlying9
structure CK (w : World) (ge gw gi e : Nat) (B : Option Addr) (n bc : Nat) : Prop where
  be : Box w ge [.pointer (some ⟨e, 0, none⟩)]
  bw : Box w gw [.slice B n bc]
  bi : Box w gi [.func (.func 88) #[] #[]]
  bn : e < ge ∧ ge < gi ∧ gi < gw
theorem CK.ext {w w' : World} {ge gw gi e : Nat} {B : Option Addr} {n bc : Nat} (h : CK w ge gw gi e B n bc) (x : Ext w w') : CK w' ge gw gi e B n bc := ⟨h.be.ext x, h.bw.ext x, h.bi.ext x, h.bn⟩
def thereE (l ls : List Inf) (s : ByteArray) : Int := if (findI l s).isSome = false ∧ nameIn ls s = false then 6 else 0
set_option maxRecDepth 20000 in
theorem cl31_runs {R R' : Nat → Prop} {lo : Nat} (ge gw gi e m : Nat) (A B : Option Addr) (c bc : Nat) (l ls : List Inf) (s : ByteArray) (w : World) (hE : EA w R lo e m A c l) (hl : Sl encInf w R' B ls) (hC : CK w ge gw gi e B ls.length bc) (hsz : ls.length ≤ 1000000) :
    Runs Tryz.prog 100 #[.string s, .pointer (some ⟨ge, 0, none⟩), .pointer (some ⟨gw, 0, none⟩), .pointer (some ⟨gi, 0, none⟩)] w fun v w' => v = .int .i64 (thereE l ls s) ∧ Ext w w' := by
  obtain ⟨k1, k2, k3⟩ := hC.bn
  have hh : Holds [ge, gw, gi, e] [(0, [.p 3 0]), (1, [.v (.slice B ls.length bc)]), (2, [.f 88 [] []]), (3, [.v (.map (some m)), .v (.slice A l.length c)])] w :=
    Holds.of (by simp; omega) (by have := hC.be.lt; have := hC.bw.lt; have := hC.bi.lt; have := hE.box.lt; simp; omega) ⟨hC.be, hC.bw, hC.bi, hE.box, trivial⟩ rfl
  refine Runs.of_vc (ρ := [ge, gw, gi, e]) cx_ok [0, 1, 2, 3, 5, 7, 26] [.v (.string s), .p 0 0, .p 1 0, .p 2 0] Tryz.func100 rfl rfl rfl hh ?_
  obtain ⟨es, hM, hes⟩ := hE.map
  obtain ⟨cs, h1, h2, h3⟩ := hes.get s
  have hth : thereE l ls s = if (findI l s).isSome = false ∧ nameIn ls s = false then 6 else 0 := rfl
  generalize getI l s = X at *
  obtain ⟨ct, cv, ra, rc, rfl, hty, hvl, hru, hrl, hok⟩ := h2; obtain ⟨kt, nt, st, lst, tst, lat, lct, tat, tct, ety, rfl, hkt, hnt, hst, hllt, hltt, hLt, hTt⟩ := hty.inv; obtain ⟨kv, nv, sv, lsv, tsv, lav, lcv, tav, tcv, evl, rfl, hkv, hnv, hsv, hllv, hltv, hLv, hTv⟩ := hvl.inv
  refine OpT.lookup2 Tryz.underlying89 keyS Tryz.zeroValue36 rfl rfl hM ?_
  refine Lands.ret (s := .t [.a [.v (.int .u8 X.kind), .v (.string X.name), .v (.int .i64 X.params), .v (.int .u8 kt), .v (.int .i64 nt), .v (.string st), .v (.slice lat lst.length lct), .v (.slice tat tst.length tct), .v (.int .u8 kv), .v (.int .i64 nv), .v (.string sv), .v (.slice lav lsv.length lcv), .v (.slice tav tsv.length tcv), .v (.int .i64 X.height), .v (.string X.block), .v (.string X.of_), .v (.int .i64 X.fixed), .v (.int .i64 X.index), .v (.int .i64 X.no), .v (.int .i64 X.fields), .v (.int .i64 X.motives), .v (.int .i64 X.minors), .v (.slice ra X.rules.length rc), .v (.int .i64 X.ctors), .v (.bool X.record)], .v (.bool (findI l s).isSome)]) (by rw [← h3]; exact congrArg (fun q => Value.tuple #[q, _]) h1.symm) rfl hh ?_
  intro g1 w1 e1 x1 z1 hh1; intro w2 m2 z2 hh2; replace m2 : Upd g1 w1 w2 := m2; have x2 : Ext w w2 := x1.upd m2 (by omega); have q2 := x2.size
  rw [hth]
  generalize (findI l s).isSome = there at *
  cases there with
  | true =>
    refine vDrw_mk [6, 7] (.one 0 (.one 1 (.one 2 (.one 3 (.one 4 (.one 5 (.one 6 (.one 7 (.one 8 (.one 9 .nil)))))))))) rfl fun w3 x3 hh3 => ?_
    refine vskip rfl (And.intro (Ext.refl _) ?_)
    refine vskip rfl ?_
    refine Exists.intro (.v (.bool false)) (And.intro rfl (And.intro (fun w' x hh h => by cases h) ?_))
    refine Or.inl (And.intro (fun hx => nomatch (rfl).symm.trans hx) (fun _ => ?_))
    exact ⟨rfl, x2.trans x3⟩
  | false =>
    refine vDrw_mk [6, 7] (.one 0 (.one 1 (.one 2 (.one 3 (.one 4 (.one 5 (.one 6 (.one 7 (.one 8 (.one 9 .nil)))))))))) rfl fun w3 x3 hh3 => ?_
    refine vyes rfl ?_
    refine vcV (is_runs s w3) hh3 fun v4 w4 x4 z4 hh4 p4 => ?_
    obtain ⟨g4, rfl, b4, z4'⟩ := p4
    refine And.intro x4 ?_
    refine vyes rfl ?_
    have y4 := x2.trans (x3.trans x4)
    refine vcZ (ContainsInfo_runs g4 s B ls bc w4 (hl.ext y4) b4 hsz) hh4 fun w5 x5 z5 hh5 => ?_
    refine Or.inl (And.intro (fun h => ?_) (fun h => ?_))
    · have h : nameIn ls s = false := by simpa [sel] using h
      exact ⟨by rw [h]; rfl, y4.trans x5⟩
    · have h : nameIn ls s = true := by simpa [sel] using h
      exact ⟨by rw [h]; rfl, y4.trans x5⟩
theorem sl_strs {w : World} {lo el c : Nat} {A : Option Addr} {l : List (List UInt8)} (h : OwnR w lo el 1 A c (zR l)) (hs : ∀ s ∈ l, s.length ≤ 9223372036854775807) (R : Nat → Prop) : OwnE encS w lo el R A c (l.map strOf) := by
  refine ⟨zR l, h, by simp [zR], fun i cs x hx hy => ?_⟩
  simp only [zR, List.getElem?_map, Option.map_eq_some_iff] at hx hy
  obtain ⟨s, h1, rfl⟩ := hx
  obtain ⟨s', h2, rfl⟩ := hy
  rw [h1] at h2; cases h2
  exact ⟨rfl, by rw [strOf_size]; exact hs s (List.mem_of_getElem? h1)⟩
def nms (t : T) : List ByteArray := (nmsT t).map strOf
theorem nmsT_size (t : T) : ∀ s ∈ nmsT t, s.length ≤ 32 := by
  intro s hs
  unfold nmsT at hs
  split at hs
  · rename_i hm
    have hn := may_nodes hm
    have h1 := names_name t hn s ((cs_law (names t)).2 s |>.1 hs)
    unfold nameB at h1
    simp only [Bool.and_eq_true, decide_eq_true_eq] at h1
    have : (⟨s.toArray⟩ : ByteArray).size = s.length := by show s.toArray.size = _; simp
    omega
  · cases hs
theorem nmsE_runs (t : T) (cs : List Value) (w : World) (R R' : Nat → Prop) (hv : VT w R cs t) :
    Runs Tryz.prog 99 #[.agg cs.toArray] w fun v w' => Ext w w' ∧ ∃ A c, v = .slice A (nms t).length c ∧ OwnE encS w' w.heap.size 9 R' A c (nms t) := by
  refine (Names_runs t cs w R hv).mono ?_
  rintro v w' ⟨x, A, c, rfl, h⟩
  exact ⟨x, A, c, by unfold nms; rw [List.length_map], sl_strs h (fun s hs => by have := nmsT_size t s hs; omega) _⟩
theorem nmsE_len (t : T) : (nms t).length ≤ 65536 := by
  unfold nms nmsT
  rw [List.length_map]
  split
  · rename_i hm
    have h1 := compact_len (srt (names t))
    rw [srt_len] at h1
    have := names_len t
    have := may_size hm
    omega
  · simp
set_option maxRecDepth 20000 in
theorem firstS_runs {R R' R2 : Nat → Prop} {lo : Nat} (ge gw gi e m : Nat) (A B D : Option Addr) (c bc dc : Nat) (l ls : List Inf) (q : List ByteArray) (w : World) (hE : EA w R lo e m A c l) (hl : Sl encInf w R' B ls) (hC : CK w ge gw gi e B ls.length bc) (hq : Sl encS w R2 D q) (hsz : ls.length ≤ 1000000) (hsq : q.length ≤ 1000000) :
    Runs Tryz.prog 98 #[.slice D q.length dc, .func (.func 100) #[] #[.pointer (some ⟨ge, 0, none⟩), .pointer (some ⟨gw, 0, none⟩), .pointer (some ⟨gi, 0, none⟩)]] w fun v w' => v = .int .i64 (firstB (thereE l ls) q) ∧ Ext w w' := by
  refine Runs.of_vc (ρ := []) cx_ok [0, 1, 4, 6, 7, 8, 9, 10, 11, 18] [.v _, .f 100 [] [.v _, .v _, .v _]] Tryz.func98 rfl rfl rfl (Holds.nil w) ?_
  refine vLoop_upd (σ := Nat) [4, 6, 7, 10, 11, 12, 13, 14, 15, 16, 17, 18, 19, 20] (fun i => [(10, .v (.int .i64 i))]) [] (fun _ => []) (fun i w' => Ext w w' ∧ i ≤ q.length ∧ firstB (thereE l ls) q = firstB (thereE l ls) (q.drop i)) (fun i => q.length - i) 0 (fun _ => ⟨rfl, rfl⟩)
    ⟨(by repeat (first | exact trivial | refine And.intro rfl ?_)), (by repeat (first | exact trivial | refine And.intro rfl ?_)), (by repeat (first | exact trivial | refine And.intro rfl ?_)), (by repeat (first | exact trivial | refine And.intro rfl ?_)), Ext.refl _, Nat.zero_le _, rfl⟩ ?_
  rintro i w1 hh1 ⟨x1, hi, hx⟩
  refine Or.inl (And.intro (fun h => ?_) (fun h => ?_))
  · have hil : i < q.length := by have := of_decide_eq_true h; omega
    rw [firstB_drop _ q i hil] at hx
    obtain ⟨a1, cs, ha1, _, hrow, rfl, hsz1⟩ := (hq.ext x1).at hil
    refine OpT.indexAddr Tryz.underlying28 Tryz.sizeOf9 rfl rfl ha1 (by first | omega | (simp only [lenOk] at *; omega)) ?_; refine Lands.v hh1 ?_
    refine OpT.load Tryz.isAgg9 rfl (hrow.cell 0 rfl) ?_; refine Lands.v hh1 ?_
    refine vcZ (cl31_runs ge gw gi e m A B c bc l ls q[i] w1 (hE.ext x1) (hl.ext x1) (hC.ext x1) hsz) hh1 fun w4 x4 z4 hh4 => ?_
    refine Or.inl (And.intro (fun h => ?_) (fun h => ?_))
    · rw [if_pos (by simpa using h)] at hx
      exact ⟨congrArg (Value.int .i64) hx.symm, x1.trans x4⟩
    · rw [if_neg (by simpa using h)] at hx
      refine vsd (by simp only [inKind]; omega) ?_
      exact Exists.intro (i + 1) ⟨by omega, esub_over (by repeat (first | exact trivial | refine And.intro rfl ?_)) (by repeat (first | exact trivial | refine And.intro rfl ?_)), hsub_over (by repeat (first | exact trivial | refine And.intro rfl ?_)) (by repeat (first | exact trivial | refine And.intro rfl ?_)), x1.trans x4, hil, hx⟩
  · obtain rfl : i = q.length := by have := of_decide_eq_false h; omega
    rw [List.drop_length] at hx
    exact ⟨congrArg (Value.int .i64) hx.symm, x1⟩
def namesE (l xs : List Inf) (t : T) : Int := firstB (thereE l xs) (nms t)
set_option maxRecDepth 20000 in
theorem cl3_runs {R R' R2 : Nat → Prop} {lo : Nat} (ge gw gi e m : Nat) (A B : Option Addr) (c bc : Nat) (l xs : List Inf) (t : T) (cs : List Value) (w : World) (hE : EA w R lo e m A c l) (hl : Sl encInf w R' B xs) (hC : CK w ge gw gi e B xs.length bc) (hv : VT w R2 cs t) (hsz : xs.length ≤ 1000000) :
    Runs Tryz.prog 97 #[.agg cs.toArray, .pointer (some ⟨ge, 0, none⟩), .pointer (some ⟨gw, 0, none⟩), .pointer (some ⟨gi, 0, none⟩)] w fun v w' => v = .int .i64 (namesE l xs t) ∧ Ext w w' := by
  have hv0 := hv
  obtain ⟨k, n, s, ls, ts, la, lc, ta, tc, et, rfl, hk, hn, hs, hll, hlt, hL, hT⟩ := hv.inv
  refine Runs.of_vc (ρ := []) cx_ok [0, 1, 2, 3, 4, 5] [.a [.v (.int .u8 k), .v (.int .i64 n), .v (.string s), .v (.slice la ls.length lc), .v (.slice ta ts.length tc)], .v _, .v _, .v _] Tryz.func97 rfl rfl rfl (Holds.nil w) ?_
  intro g1 w1 e1 x1 z1 hh1
  refine vcV (nmsE_runs t _ w1 R2 (fun _ => False) (hv0.ext x1)) hh1 fun v2 w2 x2 z2 hh2 p2 => ?_
  obtain ⟨A2, c2, rfl, o2⟩ := p2
  have y2 := x1.trans x2
  refine vcZ (firstS_runs ge gw gi e m A B A2 c bc c2 l xs (nms t) w2 (hE.ext y2) (hl.ext y2) (hC.ext y2) o2.sl hsz (by have := nmsE_len t; omega)) hh2 fun w3 x3 z3 hh3 => ?_
  exact ⟨rfl, y2.trans x3⟩
set_option maxRecDepth 20000 in
theorem cl2_runs {R2 : Nat → Prop} (g : Nat) (X : Inf) (p : Nat) (t : T) (cs : List Value) (w : World) {kxt nxt : Int} {sxt : ByteArray} {lsxt : List L} {tsxt : List T} {laxt : Option Addr} {lcxt : Nat} {taxt : Option Addr} {tcxt : Nat} {kxv nxv : Int} {sxv : ByteArray} {lsxv : List L} {tsxv : List T} {laxv : Option Addr} {lcxv : Nat} {taxv : Option Addr} {tcxv : Nat} {rax : Option Addr} {rcx : Nat} (hb : Box w g (concs [g] [.v (.int .u8 X.kind), .v (.string X.name), .v (.int .i64 X.params), .v (.int .u8 kxt), .v (.int .i64 nxt), .v (.string sxt), .v (.slice laxt lsxt.length lcxt), .v (.slice taxt tsxt.length tcxt), .v (.int .u8 kxv), .v (.int .i64 nxv), .v (.string sxv), .v (.slice laxv lsxv.length lcxv), .v (.slice taxv tsxv.length tcxv), .v (.int .i64 X.height), .v (.string X.block), .v (.string X.of_), .v (.int .i64 X.fixed), .v (.int .i64 X.index), .v (.int .i64 X.no), .v (.int .i64 X.fields), .v (.int .i64 X.motives), .v (.int .i64 X.minors), .v (.slice rax X.rules.length rcx), .v (.int .i64 X.ctors), .v (.bool X.record)])) (he : X.params = p) (hp : p ≤ 4) (hv : VT w R2 cs t) :
    Runs Tryz.prog 95 #[.agg cs.toArray, .pointer (some ⟨g, 0, none⟩)] w fun v w' => v = .int .i64 (closedE p t) ∧ Ext w w' := by
  have hv0 := hv
  obtain ⟨k, n, s, ls, ts, la, lc, ta, tc, et, rfl, hk, hn, hs, hll, hlt, hL, hT⟩ := hv.inv
  have hh := Holds.one (g := g) (cs := [.v (.int .u8 X.kind), .v (.string X.name), .v (.int .i64 X.params), .v (.int .u8 kxt), .v (.int .i64 nxt), .v (.string sxt), .v (.slice laxt lsxt.length lcxt), .v (.slice taxt tsxt.length tcxt), .v (.int .u8 kxv), .v (.int .i64 nxv), .v (.string sxv), .v (.slice laxv lsxv.length lcxv), .v (.slice taxv tsxv.length tcxv), .v (.int .i64 X.height), .v (.string X.block), .v (.string X.of_), .v (.int .i64 X.fixed), .v (.int .i64 X.index), .v (.int .i64 X.no), .v (.int .i64 X.fields), .v (.int .i64 X.motives), .v (.int .i64 X.minors), .v (.slice rax X.rules.length rcx), .v (.int .i64 X.ctors), .v (.bool X.record)]) hb rfl
  refine Runs.of_vc (ρ := [g]) cx_ok [0, 1, 2, 3] [.a [.v (.int .u8 k), .v (.int .i64 n), .v (.string s), .v (.slice la ls.length lc), .v (.slice ta ts.length tc)], .p 0 0] Tryz.func95 rfl rfl rfl hh ?_
  intro g1 w1 e1 x1 z1 hh1
  rw [he]
  refine vcZ (closed_runs p hp t _ w1 (hv0.ext x1)) hh1 fun w2 x2 z2 hh2 => ?_
  exact ⟨rfl, x1.trans x2⟩
end Go.Proofs.YtfljbnhhkdaobaaGreat

/-
  check.
-/
namespace Go.Proofs.YtfljbnhhkdaobaaGreat
open Go Go.RowKit Go.Proofs.Bw
set_option linter.unusedVariables false
set_option linter.unusedSimpArgs false
def badNums (x : Inf) : Bool := (infN x).any great
def checkB (l xs : List Inf) (i : Nat) (x : Inf) : Int :=
  if nameB x.name = false ∨ (findI l x.name).isSome = true ∨ nameIn (xs.take i) x.name = true then 5
  else if x.kind < 1 ∨ 6 < x.kind ∨ badNums x = true then 1
  else if x.params < 0 ∨ 4 < x.params then 8
  else if firstB (closedE x.params.toNat) (infT x) ≠ 0 then firstB (closedE x.params.toNat) (infT x)
  else firstB (namesE l (if valB x.kind = true then xs.take i else xs)) (infT x)
set_option maxRecDepth 20000 in
theorem check_runs {R R' : Nat → Prop} {lo : Nat} (e m : Nat) (A B : Option Addr) (c bc : Nat) (l xs : List Inf) (i : Nat) (hi : i < xs.length) (w : World) (hE : EA w R lo e m A c l) (hl : Sl encInf w R' B xs) (hR' : ∀ k, R' k → k < w.heap.size) (hB : lenOk xs.length bc) (hsz : xs.length ≤ 1000000) (hrl : ∀ x ∈ xs, x.rules.length ≤ 1000) :
    Runs Tryz.prog 54 #[.pointer (some ⟨e, 0, none⟩), .slice B xs.length bc, .int .i64 i] w fun v w' => v = .int .i64 (checkB l xs i xs[i]) ∧ Ext w w' := by
  have hh := Holds.one (g := e) (cs := [.v (.map (some m)), .v (.slice A l.length c)]) hE.box rfl
  refine Runs.of_vc (ρ := [e]) cx_ok [0, 1, 2, 3, 6, 7, 8, 10, 11, 12, 27, 41, 51, 63, 68] [.p 0 0, .v _, .v _] Tryz.func54 rfl rfl rfl hh ?_
  intro g1 w1 e1 x1 z1 hh1
  obtain ⟨a1, cs, ha1, _, hrow, hv⟩ := hl.at hi
  have hxr := hrl _ (List.getElem_mem hi)
  generalize xs[i] = x at *
  have hvw : VI w R' cs x := hv
  have hv0 : VI w1 R' cs x := hvw.ext x1
  have hv : VI w1 R' cs x := hv0
  replace hrow := hrow.ext x1
  obtain ⟨ct, cv, ra, rc, rfl, hty, hvl, hru, hrl, hok⟩ := hv; obtain ⟨kt, nt, st, lst, tst, lat, lct, tat, tct, ety, rfl, hkt, hnt, hst, hllt, hltt, hLt, hTt⟩ := hty.inv; obtain ⟨kv, nv, sv, lsv, tsv, lav, lcv, tav, tcv, evl, rfl, hkv, hnv, hsv, hllv, hltv, hLv, hTv⟩ := hvl.inv
  refine OpT.indexAddr Tryz.underlying22 Tryz.sizeOf36 rfl rfl ha1 (by first | omega | (simp only [lenOk] at *; omega)) ?_; refine Lands.v hh1 ?_
  refine OpT.loadA Tryz.isAgg36 (by exact Tryz.sizeOf36) rfl hrow ?_; refine Lands.ret (s := .a [.v (.int .u8 x.kind), .v (.string x.name), .v (.int .i64 x.params), .v (.int .u8 kt), .v (.int .i64 nt), .v (.string st), .v (.slice lat lst.length lct), .v (.slice tat tst.length tct), .v (.int .u8 kv), .v (.int .i64 nv), .v (.string sv), .v (.slice lav lsv.length lcv), .v (.slice tav tsv.length tcv), .v (.int .i64 x.height), .v (.string x.block), .v (.string x.of_), .v (.int .i64 x.fixed), .v (.int .i64 x.index), .v (.int .i64 x.no), .v (.int .i64 x.fields), .v (.int .i64 x.motives), .v (.int .i64 x.minors), .v (.slice ra x.rules.length rc), .v (.int .i64 x.ctors), .v (.bool x.record)]) rfl rfl hh1 ?_
  intro g2 w2 e2 x2 z2 hh2; intro w3 m3 z3 hh3; replace m3 : Upd g2 w2 w3 := m3; have x3 : Ext w1 w3 := x2.upd m3 (by omega); have q3 := x3.size
  intro g4 w4 e4 x4 z4 hh4; intro w5 m5 z5 hh5; replace m5 : Upd g4 w4 w5 := m5; have x5 : Ext w3 w5 := x4.upd m5 (by omega); have q5 := x5.size
  have y5 := x1.trans (x3.trans x5)
  refine vDrwN_mk hh5 [10, 11] (.one 0 (.one 1 (.one 2 (.one 3 (.one 4 (.one 5 (.one 6 (.one 7 (.one 8 (.one 9 (.one 10 (.one 11 (.one 12 .nil))))))))))))) rfl fun w6 x6 q6 hh6 => ?_
  obtain ⟨es, hM, hes⟩ := hE.map
  obtain ⟨cs', h1, h2, h3⟩ := hes.get x.name
  have hX : getI l x.name = getI l x.name := rfl
  generalize getI l x.name = X at h2
  obtain ⟨ctY, cvY, raY, rcY, rfl, htyY, hvlY, hruY, hrlY, hokY⟩ := h2; obtain ⟨kYt, nYt, sYt, lsYt, tsYt, laYt, lcYt, taYt, tcYt, etyY, rfl, hkYt, hnYt, hsYt, hllYt, hltYt, hLYt, hTYt⟩ := htyY.inv; obtain ⟨kYv, nYv, sYv, lsYv, tsYv, laYv, lcYv, taYv, tcYv, evlY, rfl, hkYv, hnYv, hsYv, hllYv, hltYv, hLYv, hTYv⟩ := hvlY.inv
  refine Exists.intro (.t [.a [.v (.int .u8 X.kind), .v (.string X.name), .v (.int .i64 X.params), .v (.int .u8 kYt), .v (.int .i64 nYt), .v (.string sYt), .v (.slice laYt lsYt.length lcYt), .v (.slice taYt tsYt.length tcYt), .v (.int .u8 kYv), .v (.int .i64 nYv), .v (.string sYv), .v (.slice laYv lsYv.length lcYv), .v (.slice taYv tsYv.length tcYv), .v (.int .i64 X.height), .v (.string X.block), .v (.string X.of_), .v (.int .i64 X.fixed), .v (.int .i64 X.index), .v (.int .i64 X.no), .v (.int .i64 X.fields), .v (.int .i64 X.motives), .v (.int .i64 X.minors), .v (.slice raY X.rules.length rcY), .v (.int .i64 X.ctors), .v (.bool X.record)], .v (.bool (findI l x.name).isSome)]) (And.intro rfl (And.intro (fun w' mm hh => OpT.lookup2 Tryz.underlying89 keyS Tryz.zeroValue36 rfl rfl ((hM.ext (y5.trans x6)).mod mm (by have := hM.lt; have := y5.size; omega)) ⟨by rw [← h3]; exact congrArg (fun q => Value.tuple #[q, _]) h1, rfl⟩) ?_))
  intro g7 w7 e7 x7 z7 hh7
  refine And.intro (x7.mono fun _ h => h.elim) ?_
  intro w8 m8 z8 hh8
  replace m8 : Upd g7 w7 w8 := m8
  refine And.intro (m8.mono fun k e => by have e : k = g7 := e; omega) ?_
  have x8 : Ext w6 w8 := x7.upd m8 (by omega)
  have y8 := y5.trans (x6.trans x8)
  have q8 := y8.size
  have hn : x.name.size ≤ 9223372036854775807 := hok.2.1
  refine vcZ (tname_runs x.name hn w8) hh8 fun w9 x9 z9 hh9 => ?_
  have y9 := y8.trans x9
  have hno : ∀ q : Int, (nameB x.name = false ∨ (findI l x.name).isSome = true ∨ nameIn (xs.take i) x.name = true) → q = 5 → Value.int .i64 q = .int .i64 (checkB l xs i x) := fun q hq e => by
    subst e; unfold checkB; rw [if_pos hq]
  refine Or.inl (And.intro (fun h => ?_) (fun h => ?_))
  · refine Or.inl (And.intro (fun _ => ?_) (fun hx => nomatch (h).symm.trans hx))
    exact ⟨hno _ (.inl (by simpa using h)) rfl, y9⟩
  · have k1 : nameB x.name = true := by simpa using h
    refine Or.inl (And.intro (fun h => ?_) (fun h => ?_))
    · refine Or.inl (And.intro (fun _ => ?_) (fun hx => nomatch (h).symm.trans hx))
      exact ⟨hno _ (.inr (.inl h)) rfl, y9⟩
    · have k2 := h
      refine vDrw_mk [6, 7] (.one 0 (.one 1 (.one 2 (.one 3 (.one 4 (.one 5 (.one 6 (.one 7 (.one 8 .nil))))))))) rfl fun w10 x10 hh10 => ?_
      have y10 := y9.trans x10
      have q10 := x10.size
      refine Exists.intro (.v (.slice B (xs.take i).length bc)) (And.intro rfl (And.intro (fun w' xx hh => OpT.slicePre Tryz.underlying22 Tryz.sizeOf36 rfl rfl (j := (i : Int)) (by simp only [lenOk] at hB; omega) (by rw [List.length_take]; omega) ⟨rfl, rfl⟩) ?_))
      refine vcV (is_runs x.name w10) hh10 fun v11 w11 x11 z11 hh11 p11 => ?_
      obtain ⟨g11, rfl, b11, z11'⟩ := p11
      refine And.intro x11 ?_
      have y11 := y10.trans x11
      refine vcZ (ContainsInfo_runs g11 x.name B (xs.take i) bc w11 ((hl.ext y11).take i) b11 (by rw [List.length_take]; omega)) hh11 fun w12 x12 z12 hh12 => ?_
      have y12 := y11.trans x12
      have q12 := y12.size
      refine Or.inl (And.intro (fun h => ?_) (fun h => ?_))
      · exact ⟨hno _ (.inr (.inr h)) rfl, y12⟩
      · have k3 := h
        have hgo : checkB l xs i x = if x.kind < 1 ∨ 6 < x.kind ∨ badNums x = true then 1
            else if x.params < 0 ∨ 4 < x.params then 8
            else if firstB (closedE x.params.toNat) (infT x) ≠ 0 then firstB (closedE x.params.toNat) (infT x)
            else firstB (namesE l (if valB x.kind = true then xs.take i else xs)) (infT x) := by
          unfold checkB; rw [if_neg (by rw [k1, k2, k3]; simp)]
        rw [hgo]
        refine Or.inl (And.intro (fun h => ?_) (fun h => ?_))
        · refine Or.inl (And.intro (fun _ => ?_) (fun hx => nomatch (h).symm.trans hx))
          have h := of_decide_eq_true h
          exact ⟨by rw [if_pos (.inl h)]; rfl, y12⟩
        · have k4 := of_decide_eq_false h
          refine Or.inl (And.intro (fun h => ?_) (fun h => ?_))
          · refine Or.inl (And.intro (fun _ => ?_) (fun hx => nomatch (h).symm.trans hx))
            have h := of_decide_eq_true h
            exact ⟨by rw [if_pos (.inr (.inl h))]; rfl, y12⟩
          · have k5 := of_decide_eq_false h
            have hI : VI w12 R' _ x := hv0.ext (x3.trans (x5.trans (x6.trans (x8.trans (x9.trans (x10.trans (x11.trans x12)))))))
            refine vcZ (numbers_runs x _ w12 hI (fun k hk => by have := hR' k hk; omega) (by omega)) hh12 fun w13 x13 z13 hh13 => ?_
            have y13 := y12.trans x13
            refine Or.inl (And.intro (fun h => ?_) (fun h => ?_))
            · have h : badNums x = true := by simpa [badNums] using h
              exact ⟨by rw [if_pos (.inr (.inr h))]; rfl, y13⟩
            · have k6 : badNums x = false := by simpa [badNums] using h
              rw [if_neg (by rw [k6]; simp [k4, k5])]
              refine Or.inl (And.intro (fun h => ?_) (fun h => ?_))
              · have h : x.params < 0 ∨ 4 < x.params := by revert h; unfold sel; cases hq : decide (x.params < 0) <;> simp at hq ⊢ <;> omega
                exact ⟨by rw [if_pos h]; rfl, y13⟩
              · have h : ¬ (x.params < 0 ∨ 4 < x.params) := by revert h; unfold sel; cases hq : decide (x.params < 0) <;> simp at hq ⊢ <;> omega
                rw [if_neg h]
                obtain ⟨p, hp⟩ : ∃ p : Nat, x.params = p := ⟨x.params.toNat, by omega⟩
                have hI := hI.ext x13
                refine vcV (terms_runs x _ w13 hI (fun k hk => by have := hR' k hk; omega) (by omega)) hh13 fun v14 w14 x14 z14 hh14 p14 => ?_
                obtain ⟨A14, c14, rfl, o14⟩ := p14
                have hl14 := infT_len x (by omega)
                have y14 := y13.trans x14
                have hp4 : p ≤ 4 := by omega
                have epn : x.params.toNat = p := by omega
                rw [epn]
                have bX := hh14.box 2 _ rfl
                have q14 := y14.size
                refine vcZ (firstT2_runs [.pointer (some ⟨g2, 0, none⟩)] rfl (closedE p) A14 (infT x) c14 w14 o14.sl (by omega) (fun t ht cs w' hx' hv' => cl2_runs g2 x p t cs w' (bX.ext hx') hp hp4 hv')) hh14 fun w15 x15 z15 hh15 => ?_
                have y15 := y14.trans x15
                refine Or.inl (And.intro (fun h => ?_) (fun h => ?_))
                · have h : firstB (closedE p) (infT x) ≠ 0 := by simpa using h
                  rw [if_pos h]
                  exact ⟨rfl, y15⟩
                · have h : ¬ firstB (closedE p) (infT x) ≠ 0 := by simpa using h
                  rw [if_neg h]
                  intro g16 w16 e16 x16 z16 hh16; intro w17 m17 z17 hh17; replace m17 : Upd g16 w16 w17 := m17; have x17 : Ext w15 w17 := x16.upd m17 (by omega); have q17 := x17.size
                  have y17 := y15.trans x17
                  have q17' := y17.size
                  refine vcZ (valued_runs x.kind w17) hh17 fun w18 x18 z18 hh18 => ?_
                  have y18 := y17.trans x18
                  refine vJoin_upd (σ := Unit) [69, 70, 71] (fun _ => []) [5] (fun _ => [(5, [.v (.slice B (if valB x.kind = true then xs.take i else xs).length bc)])]) (fun _ w' => Ext w w' ∧ w18.heap.size ≤ w'.heap.size) (fun _ => ⟨rfl, rfl⟩) (fun h => ?_) (fun h => ?_) ?_
                  · rw [if_pos h]
                    refine OpT.slicePre Tryz.underlying22 Tryz.sizeOf36 rfl rfl (j := (i : Int)) (by simp only [lenOk] at hB; omega) (m := (xs.take i).length) (by rw [List.length_take]; omega) ?_
                    refine Lands.v hh18 ?_
                    intro w19 m19 z19 hh19
                    replace m19 : Upd g16 w18 w19 := m19
                    have y19 : Ext w w19 := y18.upd m19 (by have := y15.size; omega)
                    exact Exists.intro (()) ⟨esub_over (by repeat (first | exact trivial | refine And.intro rfl ?_)) (by repeat (first | exact trivial | refine And.intro rfl ?_)), hsub_over (by repeat (first | exact trivial | refine And.intro rfl ?_)) (by repeat (first | exact trivial | refine And.intro rfl ?_)), y19, by omega⟩
                  · rw [if_neg (by rw [h]; decide)]
                    exact Exists.intro (()) ⟨esub_over (by repeat (first | exact trivial | refine And.intro rfl ?_)) (by repeat (first | exact trivial | refine And.intro rfl ?_)), hsub_over (by repeat (first | exact trivial | refine And.intro rfl ?_)) (by repeat (first | exact trivial | refine And.intro rfl ?_)), y18, Nat.le_refl _⟩
                  rintro ⟨⟩ w20 hh20 ⟨y20, q20⟩
                  have hI20 := hvw.ext y20
                  refine vcV (terms_runs x _ w20 hI20 (fun k hk => by have := hR' k hk; omega) (by omega)) hh20 fun v21 w21 x21 z21 hh21 p21 => ?_
                  obtain ⟨A21, c21, rfl, o21⟩ := p21
                  have y21 := y20.trans x21
                  have hCK : CK w21 g1 g16 g4 e B (if valB x.kind = true then xs.take i else xs).length bc := ⟨hh21.box 1 _ rfl, hh21.box 5 _ rfl, hh21.box 3 _ rfl, by have := hE.box.lt; omega⟩
                  have hlw : Sl encInf w21 R' B (if valB x.kind = true then xs.take i else xs) := by
                    split
                    · exact (hl.ext y21).take i
                    · exact hl.ext y21
                  have hlen : (if valB x.kind = true then xs.take i else xs).length ≤ 1000000 := by
                    split
                    · rw [List.length_take]; omega
                    · exact hsz
                  refine vcZ (firstT3_runs [.pointer (some ⟨g1, 0, none⟩), .pointer (some ⟨g16, 0, none⟩), .pointer (some ⟨g4, 0, none⟩)] rfl (namesE l (if valB x.kind = true then xs.take i else xs)) A21 (infT x) c21 w21 o21.sl (by omega)
                    (fun t ht cs w' hx' hv' => cl3_runs g1 g16 g4 e m A B c bc l _ t cs w' (hE.ext (y21.trans hx')) (hlw.ext hx') (hCK.ext hx') hv' hlen)) hh21 fun w22 x22 z22 hh22 => ?_
                  exact ⟨rfl, y21.trans x22⟩
end Go.Proofs.YtfljbnhhkdaobaaGreat

/-
  Slices that are copied; heights; New, List.
-/
namespace Go.Proofs.YtfljbnhhkdaobaaGreat
open Go Go.RowKit Go.Proofs.Bw
set_option linter.unusedVariables false
set_option linter.unusedSimpArgs false
theorem elS1 : ElOk Tryz.prog 9 encS.sz 16 := elS
theorem elR7 : ElOk Tryz.prog 84 encR.sz 104 := elR
set_option maxRecDepth 20000 in
theorem CloneR_runs {R : Nat → Prop} (A : Option Addr) (l : List Rl) (c : Nat) (w : World) (hl : Sl encR w R A l) (hR : ∀ k, R k → k < w.heap.size) (hsz : l.length ≤ 1000000) :
    Runs Tryz.prog 50 #[.slice A l.length c] w fun v w' => Ext w w' ∧ ∃ A' c', v = .slice A' l.length c' ∧ OwnE encR w' w.heap.size 84 R A' c' l := by
  refine Runs.of_vc cx_ok [0, 2, 4] [.v _] Tryz.func50 rfl rfl rfl (Holds.nil _) ?_
  refine Or.inl (And.intro (fun h => ?_) (fun h => ?_))
  · have hA : A = none := Option.isNone_iff_eq_none.1 h
    have hl0 : l = [] := by
      cases l with
      | nil => rfl
      | cons x r =>
        obtain ⟨a, cs, h1, _⟩ := hl 0 x rfl
        rw [hA] at h1; cases h1
    subst hl0
    exact ⟨Ext.refl _, none, 0, rfl, OwnE.nil _ _ _ _ _⟩
  · refine OpT.buildE (E := encR) (R := R) (vs := []) (l := []) Tryz.zeroValue84 (.nil) Tryz.underlying34 Tryz.sizeOf84 rfl rfl (Reps.nil _ _ _) rfl rfl (Holds.nil w) fun w1 g1 e1 x1 z1 o1 hh1 => ?_
    refine OpT.appendL (E := encR) elR7 Tryz.underlying34 Tryz.underlying34 rfl rfl rfl rfl (l3 := l) rfl rfl o1 (Ext.refl _) (hl.ext x1) (fun k hk _ => .inl hk) (fun k hk => by have := hR k hk; omega) x1 (by omega) hh1 (by repeat (first | exact trivial | refine And.intro (by omega) ?_)) (by omega) fun w2 A2 c2 y2 z2 o2 hh2 => ?_
    exact ⟨y2, A2, c2, rfl, o2⟩
set_option maxRecDepth 20000 in
theorem CloneS_runs {R : Nat → Prop} (A : Option Addr) (l : List ByteArray) (c : Nat) (w : World) (hl : Sl encS w R A l) (hR : ∀ k, R k → k < w.heap.size) (hsz : l.length ≤ 8000000000000) :
    Runs Tryz.prog 49 #[.slice A l.length c] w fun v w' => Ext w w' ∧ ∃ A' c', v = .slice A' l.length c' ∧ OwnE encS w' w.heap.size 9 R A' c' l := by
  refine Runs.of_vc cx_ok [0, 2, 4] [.v _] Tryz.func49 rfl rfl rfl (Holds.nil _) ?_
  refine Or.inl (And.intro (fun h => ?_) (fun h => ?_))
  · have hA : A = none := Option.isNone_iff_eq_none.1 h
    have hl0 : l = [] := by
      cases l with
      | nil => rfl
      | cons x r =>
        obtain ⟨a, cs, h1, _⟩ := hl 0 x rfl
        rw [hA] at h1; cases h1
    subst hl0
    exact ⟨Ext.refl _, none, 0, rfl, OwnE.nil _ _ _ _ _⟩
  · refine OpT.buildE (E := encS) (R := R) (vs := []) (l := []) Tryz.zeroValue9 (.nil) Tryz.underlying28 Tryz.sizeOf9 rfl rfl (Reps.nil _ _ _) rfl rfl (Holds.nil w) fun w1 g1 e1 x1 z1 o1 hh1 => ?_
    refine OpT.appendL (E := encS) elS1 Tryz.underlying28 Tryz.underlying28 rfl rfl rfl rfl (l3 := l) rfl rfl o1 (Ext.refl _) (hl.ext x1) (fun k hk _ => .inl hk) (fun k hk => by have := hR k hk; omega) x1 (by omega) hh1 (by repeat (first | exact trivial | refine And.intro (by omega) ?_)) (by omega) fun w2 A2 c2 y2 z2 o2 hh2 => ?_
    exact ⟨y2, A2, c2, rfl, o2⟩
theorem New_runs (w : World) : Runs Tryz.prog 47 #[] w fun v w' => Ext w w' ∧ ∃ e m, v = .pointer (some ⟨e, 0, none⟩) ∧ EA w' (fun k => k < w.heap.size) w.heap.size e m none 0 [] := by
  refine Runs.of_vc cx_ok [0] [] Tryz.func47 rfl rfl rfl (Holds.nil _) ?_
  refine OpT.makeMap (enc := strE) fun w1 m e1 x1 z1 hm => ?_
  refine Lands.v (Holds.nil _) ?_
  intro g2 w2 e2 x2 z2 hh2
  have y2 := x1.trans x2
  refine ⟨y2, g2, m, rfl, ⟨hh2.box 0 _ rfl, ⟨[], hm.ext x2, trivial⟩, OwnE.nil _ _ _ _ _, ⟨by omega, fun ⟨a, ha, _⟩ => (by cases ha), fun ⟨a, ha, _⟩ => (by cases ha)⟩, by omega, fun k hk => ⟨?_, by omega⟩, fun x hx => (by cases hx), by simp, fun x hx => (by cases hx)⟩⟩
  rintro (rfl | rfl | ⟨a, ha, _⟩)
  · omega
  · omega
  · cases ha
def heightB (l : List Inf) (t : T) : Int := (nms t).foldl (fun n s => max n (getI l s).height) 0
theorem heights_le (l : List Inf) (b : Int) (hb : 0 ≤ b) (h : ∀ x ∈ l, 0 ≤ x.height ∧ x.height ≤ b) : ∀ (q : List ByteArray) (n : Int), 0 ≤ n → n ≤ b → 0 ≤ q.foldl (fun n s => max n (getI l s).height) n ∧ q.foldl (fun n s => max n (getI l s).height) n ≤ b
  | [], n, h0, h1 => ⟨h0, h1⟩
  | s :: r, n, h0, h1 => by
    rw [List.foldl_cons]
    have : 0 ≤ (getI l s).height ∧ (getI l s).height ≤ b := by
      unfold getI
      cases hf : findI l s with
      | none => exact ⟨by simp [noI], by simpa [noI] using hb⟩
      | some x => exact h x (findI_mem hf).1
    exact heights_le l b hb h r _ (by omega) (by omega)
set_option maxRecDepth 20000 in
theorem Height_runs {R R' : Nat → Prop} {lo : Nat} (e m : Nat) (A : Option Addr) (c : Nat) (l : List Inf) (t : T) (cs : List Value) (w : World) (hE : EA w R lo e m A c l) (hv : VT w R' cs t) :
    Runs Tryz.prog 55 #[.pointer (some ⟨e, 0, none⟩), .agg cs.toArray] w fun v w' => v = .int .i64 (heightB l t) ∧ Ext w w' := by
  have hv0 := hv
  obtain ⟨k, n, s, ls, ts, la, lc, ta, tc, et, rfl, hk, hn, hs, hll, hlt, hL, hT⟩ := hv.inv
  have hh := Holds.one (g := e) (cs := [.v (.map (some m)), .v (.slice A l.length c)]) hE.box rfl
  refine Runs.of_vc (ρ := [e]) cx_ok [0, 1, 3, 4, 6, 8, 10, 11, 12, 13] [.p 0 0, .a [.v (.int .u8 k), .v (.int .i64 n), .v (.string s), .v (.slice la ls.length lc), .v (.slice ta ts.length tc)]] Tryz.func55 rfl rfl rfl hh ?_
  intro g1 w1 e1 x1 z1 hh1
  refine Or.inl (And.intro (fun hx => nomatch (rfl).symm.trans hx) (fun _ => ?_))
  refine vcV (nmsE_runs t _ w1 R' (fun _ => False) (hv0.ext x1)) hh1 fun v2 w2 x2 z2 hh2 p2 => ?_
  obtain ⟨A2, c2, rfl, o2⟩ := p2
  have y2 := x1.trans x2
  have hnl := nmsE_len t
  refine vLoop_upd (σ := Nat) [4, 6, 12, 13, 14, 15, 16, 17, 18, 19, 20, 21, 22, 23, 24, 25] (fun i => [(12, .v (.int .i64 i)), (4, .v (.int .i64 (((nms t).take i).foldl (fun n s => max n (getI l s).height) 0)))]) [] (fun _ => []) (fun i w' => Ext w2 w' ∧ i ≤ (nms t).length) (fun i => (nms t).length - i) 0 (fun _ => ⟨rfl, rfl⟩)
    ⟨(by repeat (first | exact trivial | refine And.intro rfl ?_)), (by repeat (first | exact trivial | refine And.intro rfl ?_)), (by repeat (first | exact trivial | refine And.intro rfl ?_)), (by repeat (first | exact trivial | refine And.intro rfl ?_)), Ext.refl _, Nat.zero_le _⟩ ?_
  rintro i w3 hh3 ⟨x3, hi⟩
  refine Or.inl (And.intro (fun h => ?_) (fun h => ?_))
  · have hil : i < (nms t).length := by have := of_decide_eq_true h; omega
    obtain ⟨a1, cs1, ha1, _, hrow, rfl, hs1⟩ := (o2.sl.ext x3).at hil
    have htk : (nms t).take (i + 1) = (nms t).take i ++ [(nms t)[i]] := take_snoc _ _ hil
    generalize (nms t)[i] = s at *
    refine OpT.indexAddr Tryz.underlying28 Tryz.sizeOf9 rfl rfl ha1 (by first | omega | (simp only [lenOk] at *; omega)) ?_; refine Lands.v hh3 ?_
    refine OpT.load Tryz.isAgg9 rfl (hrow.cell 0 rfl) ?_; refine Lands.v hh3 ?_
    obtain ⟨es, hM, hes⟩ := (hE.ext (y2.trans x3)).map
    obtain ⟨cs', h1, h2, h3⟩ := hes.get s
    have hfo : ((nms t).take (i + 1)).foldl (fun n s => max n (getI l s).height) 0 = max (((nms t).take i).foldl (fun n s => max n (getI l s).height) 0) (getI l s).height := by rw [htk, List.foldl_append]; rfl
    generalize getI l s = X at *
    obtain ⟨ctY, cvY, raY, rcY, rfl, htyY, hvlY, hruY, hrlY, hokY⟩ := h2; obtain ⟨kYt, nYt, sYt, lsYt, tsYt, laYt, lcYt, taYt, tcYt, etyY, rfl, hkYt, hnYt, hsYt, hllYt, hltYt, hLYt, hTYt⟩ := htyY.inv; obtain ⟨kYv, nYv, sYv, lsYv, tsYv, laYv, lcYv, taYv, tcYv, evlY, rfl, hkYv, hnYv, hsYv, hllYv, hltYv, hLYv, hTYv⟩ := hvlY.inv
    refine OpT.lookup Tryz.underlying89 keyS Tryz.zeroValue36 rfl rfl hM ?_
    refine Lands.ret (s := .a [.v (.int .u8 X.kind), .v (.string X.name), .v (.int .i64 X.params), .v (.int .u8 kYt), .v (.int .i64 nYt), .v (.string sYt), .v (.slice laYt lsYt.length lcYt), .v (.slice taYt tsYt.length tcYt), .v (.int .u8 kYv), .v (.int .i64 nYv), .v (.string sYv), .v (.slice laYv lsYv.length lcYv), .v (.slice taYv tsYv.length tcYv), .v (.int .i64 X.height), .v (.string X.block), .v (.string X.of_), .v (.int .i64 X.fixed), .v (.int .i64 X.index), .v (.int .i64 X.no), .v (.int .i64 X.fields), .v (.int .i64 X.motives), .v (.int .i64 X.minors), .v (.slice raY X.rules.length rcY), .v (.int .i64 X.ctors), .v (.bool X.record)]) h1.symm rfl hh3 ?_
    have hmx : (if X.height > ((nms t).take i).foldl (fun n s => max n (getI l s).height) 0 then X.height else ((nms t).take i).foldl (fun n s => max n (getI l s).height) 0) = ((nms t).take (i + 1)).foldl (fun n s => max n (getI l s).height) 0 := by
      rw [hfo]; split <;> omega
    refine vsd (by simp only [inKind]; omega) ?_
    exact Exists.intro (i + 1) ⟨by omega, esub_over ⟨rfl, by rw [← hmx]; rfl, trivial⟩ (by repeat (first | exact trivial | refine And.intro rfl ?_)), hsub_over (by repeat (first | exact trivial | refine And.intro rfl ?_)) (by repeat (first | exact trivial | refine And.intro rfl ?_)), x3, hil⟩
  · obtain rfl : i = (nms t).length := by have := of_decide_eq_false h; omega
    exact ⟨by rw [List.take_length]; rfl, y2.trans x3⟩
end Go.Proofs.YtfljbnhhkdaobaaGreat
