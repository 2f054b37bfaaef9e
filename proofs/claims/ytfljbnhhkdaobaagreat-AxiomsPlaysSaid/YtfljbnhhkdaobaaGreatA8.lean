/-
  Find, List; of no environment.
-/
import Derived.Test.YtfljbnhhkdaobaaGreatA7
import Derived.Test.YtfljbnhhkdaobaaGreatA6
import Derived.Shelf.SlMaps.Clone
namespace Go.Proofs.YtfljbnhhkdaobaaGreat
open Go Go.RowKit Go.Proofs.Bw
set_option linter.unusedVariables false
set_option linter.unusedSimpArgs false
theorem getI_rls {w : World} {R : Nat → Prop} {lo e m c : Nat} {A : Option Addr} {l : List Inf} (h : EA w R lo e m A c l) (s : ByteArray) : (getI l s).rules.length ≤ 1000 := by
  unfold getI
  cases hf : findI l s with
  | none => simp [noI]
  | some x => exact h.rls x (findI_mem hf).1
set_option maxRecDepth 20000 in
theorem Find_runs {R : Nat → Prop} {lo : Nat} (e m : Nat) (A : Option Addr) (c : Nat) (l : List Inf) (s : ByteArray) (w : World) (hE : EA w R lo e m A c l) :
    Runs Tryz.prog 16 #[.pointer (some ⟨e, 0, none⟩), .string s] w fun v w' => Ext w w' ∧ ∃ cs : List Value, v = .tuple #[.agg cs.toArray, .bool (findI l s).isSome] ∧ VI w' (fun k => R k ∨ (w.heap.size ≤ k ∧ k < w'.heap.size)) cs (getI l s) := by
  have hh := Holds.one (g := e) (cs := [.v (.map (some m)), .v (.slice A l.length c)]) hE.box rfl
  have hrl := getI_rls hE s
  refine Runs.of_vc (ρ := [e]) cx_ok [0, 1, 4, 5, 6, 7, 9] [.p 0 0, .v (.string s)] Tryz.func16 rfl rfl rfl hh ?_
  intro g1 w1 e1 x1 z1 hh1
  refine Or.inl (And.intro (fun hx => nomatch (rfl).symm.trans hx) (fun _ => ?_))
  obtain ⟨es, hM, hes⟩ := (hE.ext x1).map
  obtain ⟨cs', h1, h2, h3⟩ := hes.get s
  have hX : getI l s = getI l s := rfl
  generalize getI l s = X at *
  obtain ⟨ctY, cvY, raY, rcY, rfl, htyY, hvlY, hruY, hrlY, hokY⟩ := h2; obtain ⟨kYt, nYt, sYt, lsYt, tsYt, laYt, lcYt, taYt, tcYt, etyY, rfl, hkYt, hnYt, hsYt, hllYt, hltYt, hLYt, hTYt⟩ := htyY.inv; obtain ⟨kYv, nYv, sYv, lsYv, tsYv, laYv, lcYv, taYv, tcYv, evlY, rfl, hkYv, hnYv, hsYv, hllYv, hltYv, hLYv, hTYv⟩ := hvlY.inv
  refine OpT.lookup2 Tryz.underlying89 keyS Tryz.zeroValue36 rfl rfl hM ?_
  refine Lands.ret (s := .t [.a [.v (.int .u8 X.kind), .v (.string X.name), .v (.int .i64 X.params), .v (.int .u8 kYt), .v (.int .i64 nYt), .v (.string sYt), .v (.slice laYt lsYt.length lcYt), .v (.slice taYt tsYt.length tcYt), .v (.int .u8 kYv), .v (.int .i64 nYv), .v (.string sYv), .v (.slice laYv lsYv.length lcYv), .v (.slice taYv tsYv.length tcYv), .v (.int .i64 X.height), .v (.string X.block), .v (.string X.of_), .v (.int .i64 X.fixed), .v (.int .i64 X.index), .v (.int .i64 X.no), .v (.int .i64 X.fields), .v (.int .i64 X.motives), .v (.int .i64 X.minors), .v (.slice raY X.rules.length rcY), .v (.int .i64 X.ctors), .v (.bool X.record)], .v (.bool (findI l s).isSome)]) (by rw [← h3]; exact congrArg (fun q => Value.tuple #[q, _]) h1.symm) rfl hh1 ?_
  intro g2 w2 e2 x2 z2 hh2; intro w3 m3 z3 hh3; replace m3 : Upd g2 w2 w3 := m3; have x3 : Ext w1 w3 := x2.upd m3 (by omega); have q3 := x3.size
  have hRw : ∀ k, R k → k < w.heap.size := fun k hk => (hE.far k hk).2
  refine vcV (CloneR_runs (R := R) raY X.rules rcY w3 (hruY.ext x3) (fun k hk => by have := hRw k hk; omega) (by omega)) hh3 fun v4 w4 x4 z4 hh4 p4 => ?_
  obtain ⟨A4, c4, rfl, o4⟩ := p4
  intro w5 m5 z5 hh5
  replace m5 : Upd g2 w4 w5 := m5
  intro w6 m6 z6 hh6
  replace m6 : Upd g1 w5 w6 := m6
  have x5 : Ext w1 w5 := (x3.trans x4).upd m5 (by omega)
  have x6 : Ext w w6 := (x1.trans x5).upd m6 (by omega)
  have hm : ∀ k, R k → ¬ (k = g1 ∨ k = g2) := fun k hk => by have := hRw k hk; omega
  have M6 : Bw.Mod (fun k => k = g1 ∨ k = g2) w1 w6 := (Mod.mono x3 fun _ h => h.elim).trans' ((Mod.mono x4 fun _ h => h.elim).trans' ((m5.mono fun _ h => .inr h).trans (m6.mono fun _ h => .inl h)) fun _ _ h => h) fun _ _ h => h
  have M46 : Bw.Mod (fun k => k = g1 ∨ k = g2) w4 w6 := (m5.mono fun _ h => .inr h).trans (m6.mono fun _ h => .inl h)
  refine ⟨x6, X.cells [.int .u8 kYt, .int .i64 nYt, .string sYt, .slice laYt lsYt.length lcYt, .slice taYt tsYt.length tcYt] [.int .u8 kYv, .int .i64 nYv, .string sYv, .slice laYv lsYv.length lcYv, .slice taYv tsYv.length tcYv] A4 c4, rfl, ?_⟩
  have hle := o4.le
  have o6 := o4.mod M46 (fun k _ hk => ⟨fun hr => hm k hr hk, by omega⟩)
  have hsl : Sl encR w6 (fun k => R k ∨ (w.heap.size ≤ k ∧ k < w6.heap.size)) A4 X.rules := o6.sl.mono fun k hk => by
    rcases hk.1 with h | h
    · exact .inl h
    · exact .inr ⟨by omega, hk.2⟩
  exact ⟨_, _, A4, c4, rfl, (htyY.mod M6 hm).mono fun k h => .inl h, (hvlY.mod M6 hm).mono fun k h => .inl h, hsl, hle, hokY⟩
theorem own_S {w : World} {R R' : Nat → Prop} {lo el c : Nat} {A : Option Addr} {l : List ByteArray} (h : OwnE encS w lo el R A c l) : OwnE encS w lo el R' A c l := by
  obtain ⟨css, q1, q2⟩ := h
  exact ⟨css, q1, q2.1, fun i cs x hx hy => q2.2 i cs x hx hy⟩
set_option maxRecDepth 20000 in
theorem List_runs {R : Nat → Prop} {lo : Nat} (e m : Nat) (A : Option Addr) (c : Nat) (l : List Inf) (w : World) (hE : EA w R lo e m A c l) :
    Runs Tryz.prog 15 #[.pointer (some ⟨e, 0, none⟩)] w fun v w' => Ext w w' ∧ ∃ A' c', v = .slice A' l.length c' ∧ OwnE encS w' w.heap.size 9 (fun _ => False) A' c' (l.map (·.name)) := by
  have hh := Holds.one (g := e) (cs := [.v (.map (some m)), .v (.slice A l.length c)]) hE.box rfl
  refine Runs.of_vc (ρ := [e]) cx_ok [0, 2, 4] [.p 0 0] Tryz.func15 rfl rfl rfl hh ?_
  refine Or.inl (And.intro (fun hx => nomatch (rfl).symm.trans hx) (fun _ => ?_))
  have hc := CloneS_runs A (l.map (·.name)) c w hE.own.sl (fun k hk => hk.2) (by rw [List.length_map]; have := hE.few; omega)
  rw [List.length_map] at hc
  refine vcV hc hh fun v1 w1 x1 z1 hh1 p1 => ?_
  obtain ⟨A1, c1, rfl, o1⟩ := p1
  exact ⟨x1, A1, c1, rfl, own_S o1⟩
/-! where there is no environment -/
set_option maxRecDepth 20000 in
theorem FindN_runs (s : ByteArray) (w : World) : Runs Tryz.prog 16 #[.pointer none, .string s] w fun v w' => v = .tuple #[.agg noIc.toArray, .bool false] ∧ Ext w w' := by
  refine Runs.of_vc cx_ok [0, 1, 4, 5, 6, 7, 9] [.v _, .v _] Tryz.func16 rfl rfl rfl (Holds.nil _) ?_
  intro g1 w1 e1 x1 z1 hh1
  refine Or.inl (And.intro (fun _ => ?_) (fun hx => nomatch (rfl).symm.trans hx))
  intro w2 m2 z2 hh2
  replace m2 : Upd g1 w1 w2 := m2
  exact ⟨rfl, x1.upd m2 (by omega)⟩
theorem ListN_runs (w : World) : Runs Tryz.prog 15 #[.pointer none] w fun v w' => v = .slice none 0 0 ∧ Ext w w' := by
  refine Runs.of_vc cx_ok [0, 2, 4] [.v _] Tryz.func15 rfl rfl rfl (Holds.nil _) ?_
  refine Or.inl (And.intro (fun _ => ?_) (fun hx => nomatch (rfl).symm.trans hx))
  exact ⟨rfl, Ext.refl _⟩
def noTc : List Value := [.int .u8 0, .int .i64 0, .string noS, .slice none 0 0, .slice none 0 0]
end Go.Proofs.YtfljbnhhkdaobaaGreat

/-
  Add.
-/
namespace Go.Proofs.YtfljbnhhkdaobaaGreat
open Go Go.RowKit Go.Proofs.Bw
set_option linter.unusedVariables false
set_option linter.unusedSimpArgs false
theorem snoc_ind {α : Type} {p : List α → Prop} (h0 : p []) (h : ∀ xs x, p xs → p (xs ++ [x])) (xs : List α) : p xs := by
  have key : ∀ ys : List α, p ys.reverse := by
    intro ys
    induction ys with
    | nil => exact h0
    | cons y r ih => rw [List.reverse_cons]; exact h _ _ ih
  have := key xs.reverse
  rwa [List.reverse_reverse] at this
def checksB (l xs : List Inf) : List Inf → Nat → Int
  | [], _ => 0
  | x :: r, i => if checkB l xs i x ≠ 0 then checkB l xs i x else checksB l xs r (i + 1)
theorem checksB_drop (l xs : List Inf) (i : Nat) (h : i < xs.length) : checksB l xs (xs.drop i) i = if checkB l xs i xs[i] ≠ 0 then checkB l xs i xs[i] else checksB l xs (xs.drop (i + 1)) (i + 1) := by
  rw [List.drop_eq_getElem_cons h, checksB]
def heightI (l : List Inf) (x : Inf) : Int := if x.kind = 2 then 1 + heightB l x.val else 0
def setH (x : Inf) (h : Int) : Inf := { x with height := h }
def valI (x : Inf) : T := if valB x.kind = true then x.val else tZ
def addOne (l : List Inf) (x : Inf) : Inf := { x with height := heightI l x, val := valI x }
def addAll (l xs : List Inf) : List Inf := xs.foldl (fun l x => l ++ [addOne l x]) l
def addE (l xs : List Inf) : Int := if 4096 < l.length + xs.length then 4 else checksB l xs xs 0
def addL (l xs : List Inf) : List Inf := if addE l xs = 0 then addAll l xs else l
theorem addAll_snoc (l xs : List Inf) (x : Inf) : addAll l (xs ++ [x]) = addAll l xs ++ [addOne (addAll l xs) x] := by
  unfold addAll; rw [List.foldl_append]; rfl
theorem addAll_len (l : List Inf) : ∀ xs, (addAll l xs).length = l.length + xs.length := by
  refine snoc_ind rfl ?_
  intro xs x ih
  rw [addAll_snoc, List.length_append, ih]; simp; omega
theorem findI_append (l l' : List Inf) (s : ByteArray) : (findI (l ++ l') s).isSome = ((findI l s).isSome || (findI l' s).isSome) := by
  unfold findI; rw [List.find?_append]; cases List.find? _ l <;> simp
theorem findI_addAll (l : List Inf) (s : ByteArray) : ∀ xs, (findI (addAll l xs) s).isSome = ((findI l s).isSome || nameIn xs s) := by
  refine snoc_ind (by simp [addAll, nameIn]) ?_
  intro xs x ih
  rw [addAll_snoc, findI_append, ih]
  unfold nameIn
  rw [List.any_append]
  cases (findI l s).isSome <;> cases xs.any (fun x => decide (x.name = s)) <;> by_cases hx : x.name = s <;> simp [findI, addOne, hx]
theorem checks_ok {l xs : List Inf} : ∀ (r : List Inf) (i : Nat), checksB l xs r i = 0 → ∀ j (h : j < r.length), checkB l xs (i + j) r[j] = 0
  | [], i, _, j, h => by simp at h
  | x :: r, i, hc, j, h => by
    unfold checksB at hc
    by_cases h0 : checkB l xs i x ≠ 0
    · rw [if_pos h0] at hc; exact absurd hc h0
    · rw [if_neg h0] at hc
      cases j with
      | zero => simpa using h0
      | succ j =>
        have := checks_ok r (i + 1) hc j (by simpa using h)
        rw [show i + (j + 1) = i + 1 + j by omega]
        simpa using this
theorem checkB_fresh {l xs : List Inf} {i : Nat} {x : Inf} (h : checkB l xs i x = 0) : (findI l x.name).isSome = false ∧ nameIn (xs.take i) x.name = false := by
  unfold checkB at h
  by_cases h1 : nameB x.name = false ∨ (findI l x.name).isSome = true ∨ nameIn (xs.take i) x.name = true
  · rw [if_pos h1] at h; cases h
  · simp only [not_or, Bool.not_eq_true] at h1
    exact h1.2
theorem heightB_le (l : List Inf) (t : T) (h : ∀ x ∈ l, 0 ≤ x.height ∧ x.height ≤ l.length) : 0 ≤ heightB l t ∧ heightB l t ≤ l.length :=
  heights_le l l.length (by omega) h (nms t) 0 (by omega) (by omega)
set_option maxHeartbeats 1000000 in
set_option maxRecDepth 20000 in
theorem Add_runs {R R' : Nat → Prop} {lo : Nat} (e m : Nat) (A B : Option Addr) (c bc : Nat) (l xs : List Inf) (w : World) (hE : EA w R lo e m A c l) (hl : Sl encInf w R' B xs) (hR' : ∀ k, R' k → R k) (hB : lenOk xs.length bc) (hsz : xs.length ≤ 1000000) (hrl : ∀ x ∈ xs, x.rules.length ≤ 1000) :
    Runs Tryz.prog 18 #[.pointer (some ⟨e, 0, none⟩), .slice B xs.length bc] w fun v w' => v = .int .i64 (addE l xs) ∧ Bw.Mod (mine e m A) w w' ∧
      ∃ R2 A2 c2, EA w' R2 lo e m A2 c2 (addL l xs) ∧ (∀ k, R k → R2 k) ∧ (∀ k, R2 k → R k ∨ w.heap.size ≤ k) ∧ (∀ k, ownOf A2 k → ownOf A k ∨ w.heap.size ≤ k) := by
  have hh := Holds.one (g := e) (cs := [.v (.map (some m)), .v (.slice A l.length c)]) hE.box rfl
  have hRw : ∀ k, R k → k < w.heap.size := fun k hk => (hE.far k hk).2
  have hR'w : ∀ k, R' k → k < w.heap.size := fun k hk => hRw k (hR' k hk)
  have hfew := hE.few
  have hno : ∀ q w', Ext w w' → q = addE l xs → q ≠ 0 → Value.int .i64 q = .int .i64 (addE l xs) ∧ Bw.Mod (mine e m A) w w' ∧
      ∃ R2 A2 c2, EA w' R2 lo e m A2 c2 (addL l xs) ∧ (∀ k, R k → R2 k) ∧ (∀ k, R2 k → R k ∨ w.heap.size ≤ k) ∧ (∀ k, ownOf A2 k → ownOf A k ∨ w.heap.size ≤ k) := by
    intro q w' hx hq h0
    subst hq
    refine ⟨rfl, Mod.mono hx fun _ h => h.elim, R, A, c, ?_, fun k h => h, fun k h => .inl h, fun k h => .inl h⟩
    unfold addL; rw [if_neg h0]; exact hE.ext hx
  refine Runs.of_vc (ρ := [e]) cx_ok [0, 1, 4, 5, 6, 8, 9, 12, 23, 24, 25, 32, 35, 36, 37, 38, 44, 54] [.p 0 0, .v _] Tryz.func18 rfl rfl rfl hh ?_
  refine Or.inl (And.intro (fun hx => nomatch (rfl).symm.trans hx) (fun _ => ?_))
  refine vsd (by simp only [inKind]; omega) ?_
  refine Or.inl (And.intro (fun h => ?_) (fun h => ?_))
  · have h := of_decide_eq_true h
    exact hno 4 w (Ext.refl _) (by unfold addE; rw [if_pos (by omega)]) (by decide)
  · have h := of_decide_eq_false h
    have hch : addE l xs = checksB l xs xs 0 := by unfold addE; rw [if_neg (by omega)]
    have hxl : l.length + xs.length ≤ 4096 := by omega
    refine vLoop_upd (σ := Nat) [4, 5, 6, 24, 25, 26, 27, 28, 29, 30, 31, 32, 33, 34] (fun i => [(24, .v (.int .i64 i))]) [] (fun _ => []) (fun i w' => Ext w w' ∧ i ≤ xs.length ∧ checksB l xs xs 0 = checksB l xs (xs.drop i) i) (fun i => xs.length - i) 0 (fun _ => ⟨rfl, rfl⟩)
      ⟨(by repeat (first | exact trivial | refine And.intro rfl ?_)), (by repeat (first | exact trivial | refine And.intro rfl ?_)), (by repeat (first | exact trivial | refine And.intro rfl ?_)), (by repeat (first | exact trivial | refine And.intro rfl ?_)), Ext.refl _, Nat.zero_le _, rfl⟩ ?_
    rintro i w1 hh1 ⟨x1, hi, hx⟩
    refine Or.inl (And.intro (fun h => ?_) (fun h => ?_))
    · have hil : i < xs.length := by have := of_decide_eq_true h; omega
      rw [checksB_drop l xs i hil] at hx
      have q1 := x1.size
      refine vcZ (check_runs e m A B c bc l xs i hil w1 (hE.ext x1) (hl.ext x1) (fun k hk => by have := hR'w k hk; omega) hB hsz hrl) hh1 fun w2 x2 z2 hh2 => ?_
      refine Or.inl (And.intro (fun h => ?_) (fun h => ?_))
      · have h : checkB l xs i xs[i] ≠ 0 := by simpa using h
        rw [if_pos h] at hx
        exact hno _ _ (x1.trans x2) (by rw [hch, hx]) h
      · have h : ¬ checkB l xs i xs[i] ≠ 0 := by simpa using h
        rw [if_neg h] at hx
        refine vsd (by simp only [inKind]; omega) ?_
        exact Exists.intro (i + 1) ⟨by omega, esub_over (by repeat (first | exact trivial | refine And.intro rfl ?_)) (by repeat (first | exact trivial | refine And.intro rfl ?_)), hsub_over (by repeat (first | exact trivial | refine And.intro rfl ?_)) (by repeat (first | exact trivial | refine And.intro rfl ?_)), x1.trans x2, hil, hx⟩
    · obtain rfl : i = xs.length := by have := of_decide_eq_false h; omega
      rw [List.drop_length] at hx
      have h0 : addE l xs = 0 := by rw [hch, hx]; rfl
      rw [h0] at hno ⊢
      have hck := checks_ok xs 0 (by rw [← hch]; exact h0)
      have hadd : addL l xs = addAll l xs := by unfold addL; rw [if_pos h0]
      rw [hadd]
      refine vLoop_upd (σ := Nat × Option Addr × Nat × (Nat → Prop)) [8, 37, 38, 39, 40, 41, 42, 43, 44, 45, 46, 47, 48, 49, 50, 51, 52, 53, 54, 55, 56, 57, 58, 59, 60, 61, 62, 63, 64, 65, 66, 67, 68, 69, 70, 71, 72, 73, 74, 75, 76, 77, 78, 79] (fun s => [(37, .v (.int .i64 s.1))]) [0] (fun s => [(0, [.v (.map (some m)), .v (.slice s.2.1 (addAll l (xs.take s.1)).length s.2.2.1)])])
        (fun s w' => s.1 ≤ xs.length ∧ Bw.Mod (mine e m A) w w' ∧ EA w' s.2.2.2 lo e m s.2.1 s.2.2.1 (addAll l (xs.take s.1)) ∧ (∀ k, R k → s.2.2.2 k) ∧ (∀ k, s.2.2.2 k → R k ∨ w.heap.size ≤ k) ∧ (∀ k, ownOf s.2.1 k → ownOf A k ∨ w.heap.size ≤ k)) (fun s => xs.length - s.1) (0, A, c, R) (fun _ => ⟨rfl, rfl⟩)
        ⟨(by repeat (first | exact trivial | refine And.intro rfl ?_)), (by repeat (first | exact trivial | refine And.intro rfl ?_)), (by repeat (first | exact trivial | refine And.intro rfl ?_)), (by repeat (first | exact trivial | refine And.intro rfl ?_)), Nat.zero_le _, Mod.mono x1 fun _ h => h.elim, hE.ext x1, fun k h => h, fun k h => .inl h, fun k h => .inl h⟩ ?_
      rintro ⟨i, A1, c1, R1⟩ w2 hh2 ⟨hi, M2, hE2, r1, r2, r3⟩
      simp only at hi hE2 r1 r2 r3
      refine Or.inl (And.intro (fun h => ?_) (fun h => ?_))
      · have hil : i < xs.length := by have := of_decide_eq_true h; simp only at this; omega
        have hl2 := hl.mod M2 fun k hk => (hE.far k (hR' k hk)).1
        obtain ⟨a1, cs, ha1, _, hrow, hv⟩ := hl2.at hil
        have hxr := hrl _ (List.getElem_mem hil)
        have htk : xs.take (i + 1) = xs.take i ++ [xs[i]] := take_snoc _ _ hil
        have hfr : (findI l xs[i].name).isSome = false ∧ nameIn (xs.take i) xs[i].name = false := by
          have := checkB_fresh (hck i hil)
          rwa [Nat.zero_add] at this
        generalize xs[i] = x at *
        have hvw : VI w2 R' cs x := hv
        have hv : VI w2 R' cs x := hv
        have hL : (addAll l (xs.take i)).length = l.length + i := by rw [addAll_len, List.length_take]; omega
        have hfind : findI (addAll l (xs.take i)) x.name = none := by
          have := findI_addAll l x.name (xs.take i)
          rw [hfr.1, hfr.2] at this
          exact Option.not_isSome_iff_eq_none.1 (by rw [this]; decide)
        have hnext : addAll l (xs.take (i + 1)) = addAll l (xs.take i) ++ [addOne (addAll l (xs.take i)) x] := by rw [htk, addAll_snoc]
        generalize hLL : addAll l (xs.take i) = L1 at *
        obtain ⟨ct, cv, ra, rc, rfl, hty, hvl, hru, hrl, hok⟩ := hv; obtain ⟨kt, nt, st, lst, tst, lat, lct, tat, tct, ety, rfl, hkt, hnt, hst, hllt, hltt, hLt, hTt⟩ := hty.inv; obtain ⟨kv, nv, sv, lsv, tsv, lav, lcv, tav, tcv, evl, rfl, hkv, hnv, hsv, hllv, hltv, hLv, hTv⟩ := hvl.inv
        have q2 := M2.size
        refine OpT.indexAddr Tryz.underlying22 Tryz.sizeOf36 rfl rfl ha1 (by first | omega | (simp only [lenOk] at *; omega)) ?_; refine Lands.v hh2 ?_
        refine OpT.loadA Tryz.isAgg36 (by exact Tryz.sizeOf36) rfl hrow ?_; refine Lands.ret (s := .a [.v (.int .u8 x.kind), .v (.string x.name), .v (.int .i64 x.params), .v (.int .u8 kt), .v (.int .i64 nt), .v (.string st), .v (.slice lat lst.length lct), .v (.slice tat tst.length tct), .v (.int .u8 kv), .v (.int .i64 nv), .v (.string sv), .v (.slice lav lsv.length lcv), .v (.slice tav tsv.length tcv), .v (.int .i64 x.height), .v (.string x.block), .v (.string x.of_), .v (.int .i64 x.fixed), .v (.int .i64 x.index), .v (.int .i64 x.no), .v (.int .i64 x.fields), .v (.int .i64 x.motives), .v (.int .i64 x.minors), .v (.slice ra x.rules.length rc), .v (.int .i64 x.ctors), .v (.bool x.record)]) rfl rfl hh2 ?_
        intro g3 w3 e3 x3 z3 hh3; intro w4 m4 z4 hh4; replace m4 : Upd g3 w3 w4 := m4; have x4 : Ext w2 w4 := x3.upd m4 (by omega); have q4 := x4.size
        intro w5 m5 z5 hh5; replace m5 : Upd g3 w4 w5 := m5; have x5 : Ext w2 w5 := x4.upd m5 (by omega)
        have hh5' := heightB_le L1 x.val hE2.hts
        refine vJoin_upd (σ := Unit) [45, 46, 47, 48, 49, 50] (fun _ => []) [1] (fun _ => [(1, [.v (.int .u8 (setH x (heightI L1 x)).kind), .v (.string (setH x (heightI L1 x)).name), .v (.int .i64 (setH x (heightI L1 x)).params), .v (.int .u8 kt), .v (.int .i64 nt), .v (.string st), .v (.slice lat lst.length lct), .v (.slice tat tst.length tct), .v (.int .u8 kv), .v (.int .i64 nv), .v (.string sv), .v (.slice lav lsv.length lcv), .v (.slice tav tsv.length tcv), .v (.int .i64 (setH x (heightI L1 x)).height), .v (.string (setH x (heightI L1 x)).block), .v (.string (setH x (heightI L1 x)).of_), .v (.int .i64 (setH x (heightI L1 x)).fixed), .v (.int .i64 (setH x (heightI L1 x)).index), .v (.int .i64 (setH x (heightI L1 x)).no), .v (.int .i64 (setH x (heightI L1 x)).fields), .v (.int .i64 (setH x (heightI L1 x)).motives), .v (.int .i64 (setH x (heightI L1 x)).minors), .v (.slice ra (setH x (heightI L1 x)).rules.length rc), .v (.int .i64 (setH x (heightI L1 x)).ctors), .v (.bool (setH x (heightI L1 x)).record)])]) (fun _ w' => Ext w2 w' ∧ w5.heap.size ≤ w'.heap.size) (fun _ => ⟨rfl, rfl⟩) (fun h => ?_) (fun h => ?_) ?_
        · have hk : x.kind = 2 := of_decide_eq_true h
          have hhi : heightI L1 x = 1 + heightB L1 x.val := by unfold heightI; rw [if_pos hk]
          refine vcZ (Height_runs e m A1 c1 L1 x.val _ w5 (hE2.ext x5) (hvl.ext x5)) hh5 fun w6 x6 z6 hh6 => ?_
          refine vsd (by simp only [inKind]; omega) ?_
          intro w7 m7 z7 hh7
          replace m7 : Upd g3 w6 w7 := m7
          have x7 : Ext w2 w7 := (x5.trans x6).upd m7 (by omega)
          rw [hhi]
          exact Exists.intro (()) ⟨esub_over (by repeat (first | exact trivial | refine And.intro rfl ?_)) (by repeat (first | exact trivial | refine And.intro rfl ?_)), hsub_over (by repeat (first | exact trivial | refine And.intro rfl ?_)) (by repeat (first | exact trivial | refine And.intro rfl ?_)), x7, by omega⟩
        · have hk : ¬ x.kind = 2 := of_decide_eq_false h
          have hhi : heightI L1 x = 0 := by unfold heightI; rw [if_neg hk]
          rw [hhi]
          exact Exists.intro (()) ⟨esub_over (by repeat (first | exact trivial | refine And.intro rfl ?_)) (by repeat (first | exact trivial | refine And.intro rfl ?_)), hsub_over (by repeat (first | exact trivial | refine And.intro rfl ?_)) (by repeat (first | exact trivial | refine And.intro rfl ?_)), x5, Nat.le_refl _⟩
        rintro ⟨⟩ w8 hh8 ⟨x8, q8⟩
        refine vcZ (valued_runs x.kind w8) hh8 fun w9 x9 z9 hh9 => ?_
        have y9 := x8.trans x9
        refine vJoin_upd (σ := List Value) [55, 56] (fun _ => []) [1] (fun s => [(1, [.v (.int .u8 (setH x (heightI L1 x)).kind), .v (.string (setH x (heightI L1 x)).name), .v (.int .i64 (setH x (heightI L1 x)).params), .v (.int .u8 kt), .v (.int .i64 nt), .v (.string st), .v (.slice lat lst.length lct), .v (.slice tat tst.length tct), .v (s.getD 0 undef), .v (s.getD 1 undef), .v (s.getD 2 undef), .v (s.getD 3 undef), .v (s.getD 4 undef), .v (.int .i64 (setH x (heightI L1 x)).height), .v (.string (setH x (heightI L1 x)).block), .v (.string (setH x (heightI L1 x)).of_), .v (.int .i64 (setH x (heightI L1 x)).fixed), .v (.int .i64 (setH x (heightI L1 x)).index), .v (.int .i64 (setH x (heightI L1 x)).no), .v (.int .i64 (setH x (heightI L1 x)).fields), .v (.int .i64 (setH x (heightI L1 x)).motives), .v (.int .i64 (setH x (heightI L1 x)).minors), .v (.slice ra (setH x (heightI L1 x)).rules.length rc), .v (.int .i64 (setH x (heightI L1 x)).ctors), .v (.bool (setH x (heightI L1 x)).record)])]) (fun s w' => Ext w2 w' ∧ w9.heap.size ≤ w'.heap.size ∧ VT w' R' [s.getD 0 undef, s.getD 1 undef, s.getD 2 undef, s.getD 3 undef, s.getD 4 undef] (valI x)) (fun _ => ⟨rfl, rfl⟩) (fun h => ?_) (fun h => ?_) ?_
        · have hvi : valI x = tZ := by unfold valI; rw [if_neg (by simpa using h)]
          rw [hvi]
          intro w10 m10 z10 hh10
          replace m10 : Upd g3 w9 w10 := m10
          have x10 : Ext w2 w10 := y9.upd m10 (by omega)
          exact Exists.intro (noTc) ⟨esub_over (by repeat (first | exact trivial | refine And.intro rfl ?_)) (by repeat (first | exact trivial | refine And.intro rfl ?_)), hsub_over (by repeat (first | exact trivial | refine And.intro rfl ?_)) (by repeat (first | exact trivial | refine And.intro rfl ?_)), x10, by omega, tZ_rep _ _⟩
        · have hvi : valI x = x.val := by unfold valI; rw [if_pos (by simpa using h)]
          rw [hvi]
          exact Exists.intro ([.int .u8 kv, .int .i64 nv, .string sv, .slice lav lsv.length lcv, .slice tav tsv.length tcv]) ⟨esub_over (by repeat (first | exact trivial | refine And.intro rfl ?_)) (by repeat (first | exact trivial | refine And.intro rfl ?_)), hsub_over (by repeat (first | exact trivial | refine And.intro rfl ?_)) (by repeat (first | exact trivial | refine And.intro rfl ?_)), y9, Nat.le_refl _, hvl.ext y9⟩
        rintro vs w11 hh11 ⟨x11, q11, hval⟩
        refine vcV (CloneR_runs (R := R') ra x.rules rc w11 (hru.ext x11) (fun k hk => by have := hR'w k hk; omega) (by omega)) hh11 fun v12 w12 x12 z12 hh12 p12 => ?_
        obtain ⟨A12, c12, rfl, o12⟩ := p12
        intro w13 m13 z13 hh13
        replace m13 : Upd g3 w12 w13 := m13
        have x13 : Ext w2 w13 := (x11.trans x12).upd m13 (by omega)
        have hE13 := hE2.ext x13
        have q13 := x13.size
        have hmine := hE13.mine_lt
        have hmine2 := hE2.mine_lt
        obtain ⟨ok1, ok2, ok3, ok4, ok5⟩ := hok
        have hhI : 0 ≤ heightI L1 x ∧ heightI L1 x ≤ L1.length + 1 := by unfold heightI; split <;> omega
        have hok' : (addOne L1 x).ok := ⟨ok1, ok2, ok3, by show i64ok (heightI L1 x); simp only [i64ok]; omega, ok5⟩
        have hsl : Sl encR w13 (fun k => R1 k ∨ (w11.heap.size ≤ k ∧ k < w12.heap.size)) A12 x.rules := by
          refine (o12.sl.mod (S := fun k => k = g3) m13 fun k hk e => ?_).mono fun k hk => ?_
          · rcases hk.1 with h | h
            · have := hR'w k h; have := M2.size; omega
            · omega
          · rcases hk.1 with h | h
            · exact .inl (r1 k (hR' k h))
            · exact .inr ⟨h, hk.2⟩
        have hcs : VI w13 (fun k => R1 k ∨ (w11.heap.size ≤ k ∧ k < w12.heap.size)) ((addOne L1 x).cells [.int .u8 kt, .int .i64 nt, .string st, .slice lat lst.length lct, .slice tat tst.length tct] [vs.getD 0 undef, vs.getD 1 undef, vs.getD 2 undef, vs.getD 3 undef, vs.getD 4 undef] A12 c12) (addOne L1 x) :=
          ⟨_, _, A12, c12, rfl, (hty.ext x13).mono fun k h => .inl (r1 k (hR' k h)), (hval.mod (S := fun k => k = g3) ((Mod.mono x12 fun _ h => h.elim).trans m13) fun k h e => by have := hR'w k h; have := M2.size; omega).mono fun k h => .inl (r1 k (hR' k h)), hsl, o12.le, hok'⟩
        refine vDrw_mk [7] (.one 0 (.one 1 (.one 2 (.one 3 (.one 4 (.one 5 (.one 6 (.one 7 .nil)))))))) rfl fun w14 x14 hh14 => ?_
        obtain ⟨es, hM, hes⟩ := hE13.map
        refine OpT.mapUpdate Tryz.underlying89 keyS rfl rfl rfl (hM.ext x14) fun w15 m15 hM15 => ?_
        have hne := hE2.ne
        have hh15 := hh14.mod m15 (outR.get (S := fun k => k = m) (ρ := [e, g3]) ⟨hne.1, by have := hM.lt; have := (hmine2 m (.inr (.inl rfl))).2; show ¬ g3 = m; omega, trivial⟩)
        refine Lands.v hh15 ?_
        have q15 := m15.size
        have q14 := x14.size
        have hown : OwnE encS w15 lo 9 (fun _ => False) A1 c1 (L1.map (·.name)) := by
          obtain ⟨css, o1, o2⟩ := (hE13.ext x14).own
          exact ⟨css, o1.mod m15 (fun a ha e => hne.2.2 ⟨a, ha, e.symm⟩), o2.1, fun i cs x hx hy => o2.2 i cs x hx hy⟩
        have hlo2 : lo ≤ w2.heap.size := by have := hE2.box.lt; have := hE2.lo_; omega
        have hmA : ∀ k, ownOf A1 k → lo ≤ k ∧ k < w2.heap.size := fun k hk => hmine2 k (.inr (.inr hk))
        have hHS : outR (fun k => ownOf A1 k ∨ w15.heap.size ≤ k) [e, g3] := ⟨fun h => h.elim hne.2.1 (by have := hE2.box.lt; omega), fun h => h.elim (fun h => by have := hmA _ h; omega) (by omega), trivial⟩
        refine vDrwM_mk (fun k => ownOf A1 k ∨ w15.heap.size ≤ k) (outR.get hHS) [7, 8, 11] (.one 0 (.one 1 (.one 2 (.one 3 (.one 4 (.one 5 (.one 6 (.one 7 (.one 8 (.one 9 (.one 10 (.one 11 .nil)))))))))))) rfl fun w16 x16 q16 hh16 => ?_
        refine OpT.buildE (E := encS) (R := (fun _ => False)) (vs := [_]) (l := [x.name]) Tryz.zeroValue9 (.cons rfl (.nil)) Tryz.underlying28 Tryz.sizeOf9 rfl rfl (Reps.cons (⟨rfl, ok2⟩) (Reps.nil _ _ _)) rfl rfl hh16 fun w17 g17 e17 x17 z17 o17 hh17 => ?_
        refine And.intro (x17.mono fun _ h => h.elim) ?_
        have y17 := x16.trans x17
        have hLn : (L1.map (·.name)).length = L1.length := List.length_map _
        refine OpT.appendG (E := encS) (l3 := (addAll l (xs.take (i + 1))).map (·.name)) elS1 Tryz.underlying28 Tryz.underlying28 rfl rfl hLn.symm rfl (by rw [hnext, List.map_append]; rfl) (n' := (addAll l (xs.take (i + 1))).length) (by rw [List.length_map]) (hown.ext y17) o17.sl
          (fun k hk hks => ⟨.inr (by rcases hk.1 with h | h; exact h.elim; omega), fun ho => by have := hmA k ho; rcases hk.1 with h | h; exact h.elim; omega⟩) (by have := hE2.box.lt; have := hE2.lo_; omega) (fun k h => h.elim) hh17 (outR.get (S := ownOf A1) ⟨fun h => hne.2.1 h, fun h => by have := hmA _ h; omega, trivial⟩)
          (by rw [List.length_map, hnext, List.length_append]; simp; omega) fun w18 A18 c18 m18 z18 o18 f18 hh18 => ?_
        refine And.intro (m18.mono fun k h => .inl h) ?_
        intro w19 m19 z19 hh19
        replace m19 : Upd e w18 w19 := m19
        refine vsd (by simp only [inKind]; omega) ?_
        have e18 : ∀ k, ownOf A18 k → ownOf A1 k ∨ w17.heap.size ≤ k := f18
        have M19 : Bw.Mod (mine e m A1) w13 w19 := by
          refine ((Mod.mono x14 fun _ h => h.elim).trans ((m15.mono fun k h => .inr (.inl h)).trans ((Mod.mono y17 fun _ h => h.elim).trans ((m18.mono fun k h => .inr (.inr h)).trans (m19.mono fun k h => .inl h)))))
        have q19 := M19.size
        have hbig : EA w19 (fun k => R1 k ∨ (w11.heap.size ≤ k ∧ k < w12.heap.size)) lo e m A18 c18 (addAll l (xs.take (i + 1))) := by
          have hRn : ∀ k, (R1 k ∨ (w11.heap.size ≤ k ∧ k < w12.heap.size)) → ¬ mine e m A1 k ∧ k < w13.heap.size := fun k hk => by
            rcases hk with h | h
            · have := hE2.far k h; exact ⟨this.1, by omega⟩
            · exact ⟨fun hm => by have := hmine2 k hm; omega, by have := m13.size; omega⟩
          have hMm : m < w2.heap.size := (hmine2 m (.inr (.inl rfl))).2
          have hbx : Box w19 e [.map (some m), .slice A18 (addAll l (xs.take (i + 1))).length c18] := hh19.box 0 _ rfl
          rw [hnext] at hbx o18 ⊢
          refine ⟨hbx, ⟨_, ?_, ((hes.mono fun k h => .inl h).put (y := addOne L1 x) hcs hfind).mod M19 (fun k hk => (hRn k hk).1)⟩, ?_, ⟨hne.1, fun h => ?_, fun h => ?_⟩, hE2.lo_, fun k hk => ⟨?_, ?_⟩, fun y hy => ?_, ?_, fun y hy => ?_⟩
          · exact (((hM15.ext y17).mod m18 hne.2.2).mod m19 (fun e => hne.1 e.symm))
          · obtain ⟨css, o1, o2⟩ := o18
            exact ⟨css, o1.mod m19 (fun a ha e' => by rcases e18 a.block ⟨a, ha, rfl⟩ with h | h; rw [e'] at h; exact hne.2.1 h; have := hE2.box.lt; omega), o2.1, fun i cs x hx hy => o2.2 i cs x hx hy⟩
          · rcases e18 e h with h | h
            · exact hne.2.1 h
            · have := hE2.box.lt; omega
          · rcases e18 m h with h | h
            · exact hne.2.2 h
            · omega
          · have h1 := hRn k hk
            rintro (h | h | h)
            · exact h1.1 (.inl h)
            · exact h1.1 (.inr (.inl h))
            · rcases e18 k h with h | h
              · exact h1.1 (.inr (.inr h))
              · omega
          · have := hRn k hk; omega
          · rw [List.length_append]
            rcases List.mem_append.1 hy with h | h
            · have := hE2.hts y h; simp; omega
            · rw [List.mem_singleton] at h; subst h
              have : (addOne L1 x).height = heightI L1 x := rfl
              simp; omega
          · rw [List.length_append]; simp; omega
          · rcases List.mem_append.1 hy with h | h
            · exact hE2.rls y h
            · rw [List.mem_singleton] at h; subst h; exact hxr
        have hMM : Bw.Mod (mine e m A) w w19 := M2.trans' ((Mod.mono x13 fun _ h => h.elim).trans M19) fun k hk hs => by
          rcases hs with h | h | h
          · exact .inl h
          · exact .inr (.inl h)
          · rcases r3 k h with h | h
            · exact .inr (.inr h)
            · omega
        exact Exists.intro ((i + 1, A18, c18, fun k => R1 k ∨ (w11.heap.size ≤ k ∧ k < w12.heap.size))) ⟨by simp only; omega, esub_over (by repeat (first | exact trivial | refine And.intro rfl ?_)) (by repeat (first | exact trivial | refine And.intro rfl ?_)), hsub_over (by repeat (first | exact trivial | refine And.intro rfl ?_)) (by repeat (first | exact trivial | refine And.intro rfl ?_)), hil, hMM, hbig, fun k h => .inl (r1 k h), fun k h => h.elim (r2 k) fun h => .inr (by have := M2.size; omega), fun k h => (e18 k h).elim (r3 k) fun h => .inr (by have := M2.size; omega)⟩
      · obtain rfl : i = xs.length := by have := of_decide_eq_false h; simp only at this; omega
        rw [List.take_length] at hE2
        exact ⟨rfl, M2, R1, A1, c1, hE2, r1, r2, r3⟩
end Go.Proofs.YtfljbnhhkdaobaaGreat

/-
  Levels: join, plus.
-/
namespace Go.Proofs.YtfljbnhhkdaobaaGreat
open Go Go.RowKit Go.Proofs.Bw
set_option linter.unusedVariables false
set_option linter.unusedSimpArgs false
def setP (l : L) (i : Nat) (v : Int) : L := match i with
  | 0 => { l with p0 := v }
  | 1 => { l with p1 := v }
  | 2 => { l with p2 := v }
  | _ => { l with p3 := v }
def mx (a c : Int) : Int := if c > a then c else a
def joinF (b a : L) (pre : List (Fin 4)) : L := pre.foldl (fun a i => setP a i.val (mx (a.p i.val) (b.p i.val))) a
def joinL (a b : L) : L := joinF b { a with c := mx a.c b.c } (upF b 4)
end Go.Proofs.YtfljbnhhkdaobaaGreat

/-
  Levels: plus, told, Zero.
-/
namespace Go.Proofs.YtfljbnhhkdaobaaGreat
open Go Go.RowKit Go.Proofs.Bw
set_option linter.unusedVariables false
set_option linter.unusedSimpArgs false
def plusF (l : L) (b : Int) (q : L) (pre : List (Fin 4)) : L := pre.foldl (fun q i => setP q i.val (l.p i.val + b)) q
def plusL (l : L) (b : Int) : L := plusF { l with c := l.c + b } b { l with c := l.c + b } (upF { l with c := l.c + b } 4)
def l00 : L := ⟨0, 0, 0, 0, 0⟩
def toldL (l : L) : L × Int := if l.form.may = true then (l.form, 0) else (l00, 4)
end Go.Proofs.YtfljbnhhkdaobaaGreat

/-
  Levels: Inst.
-/
namespace Go.Proofs.YtfljbnhhkdaobaaGreat
open Go Go.RowKit Go.Proofs.Bw
set_option linter.unusedVariables false
set_option linter.unusedSimpArgs false
def lvsOk (l : L) (bs : List L) : Bool := bs.foldl (fun b x => b && x.may) l.may
def instF (l : L) (bs : List L) : List (Fin 4) → L → Option L
  | [], o => some o
  | i :: r, o => if h : i.val < bs.length then instF l bs r (joinL o (plusL bs[i.val] (l.p i.val))) else none
def inst0 (l : L) : L := { lZero with c := l.c }
def instL (l : L) (bs : List L) : L × Int := if lvsOk l bs = false then (l00, 1) else match instF l bs (upF l 4) (inst0 l) with
  | none => (l00, 8)
  | some o => toldL o
end Go.Proofs.YtfljbnhhkdaobaaGreat

/-
  Terms with levels in the place of parameters.
-/
namespace Go.Proofs.YtfljbnhhkdaobaaGreat
open Go Go.RowKit Go.Proofs.Bw
set_option linter.unusedVariables false
set_option linter.unusedSimpArgs false
mutual
def lvE (bs : List L) : T → Int
  | .mk _ _ _ ls ts => if firstB (fun l => (instL l bs).2) ls ≠ 0 then firstB (fun l => (instL l bs).2) ls else lvEs bs ts
def lvEs (bs : List L) : List T → Int
  | [] => 0
  | t :: r => if lvE bs t ≠ 0 then lvE bs t else lvEs bs r
end
mutual
def lvO (bs : List L) : T → T
  | .mk k n s ls ts => .mk k n s (ls.map fun l => (instL l bs).1) (lvOs bs ts)
def lvOs (bs : List L) : List T → List T
  | [] => []
  | t :: r => lvO bs t :: lvOs bs r
end
theorem node_small {k n : Int} {s : ByteArray} {ls : List L} {ts : List T} (h : nodeB (.mk k n s ls ts) = true) : ls.length ≤ 4 ∧ ts.length ≤ 3 := by
  obtain ⟨h1, h2, _, _, _, h3⟩ := (nodeB_iff k n s ls ts).1 h
  refine ⟨by split at h3; omega; split at h3 <;> omega, ?_⟩
  have : kidsI k ≤ 3 := by unfold kidsI; (repeat' split) <;> omega
  omega
theorem firstB_zero {α : Type} {f : α → Int} : ∀ {l : List α}, firstB f l = 0 → ∀ x ∈ l, f x = 0
  | [], _, x, h => by cases h
  | y :: r, h, x, hx => by
    rw [firstB] at h
    by_cases h0 : f y ≠ 0
    · rw [if_pos h0] at h; exact absurd h h0
    · rw [if_neg h0] at h
      rcases List.mem_cons.1 hx with rfl | hx
      · simpa using h0
      · exact firstB_zero h x hx
end Go.Proofs.YtfljbnhhkdaobaaGreat

/-
  A map that is copied; With; what a Const stands for.
-/
namespace Go.Proofs.YtfljbnhhkdaobaaGreat
open Go Go.RowKit Go.Proofs.Bw
set_option linter.unusedVariables false
set_option linter.unusedSimpArgs false
/-! at -/
def T.s' : T → ByteArray | .mk _ _ s _ _ => s
def T.ls' : T → List L | .mk _ _ _ ls _ => ls
def atBad (t : T) : Prop := t.k ≠ 3 ∨ mayT t = false
instance (t : T) : Decidable (atBad t) := by unfold atBad; infer_instance
end Go.Proofs.YtfljbnhhkdaobaaGreat

/-
  Type, Value, With.
-/
namespace Go.Proofs.YtfljbnhhkdaobaaGreat
open Go Go.RowKit Go.Proofs.Bw
set_option linter.unusedVariables false
set_option linter.unusedSimpArgs false
end Go.Proofs.YtfljbnhhkdaobaaGreat

/-
  The law's own bounds: Few.
-/
namespace Go.Proofs.YtfljbnhhkdaobaaGreat
open Go Go.RowKit Go.Proofs.Bw
set_option linter.unusedVariables false
set_option linter.unusedSimpArgs false
theorem _root_.Go.Proofs.Bw.RowAt.sub {w : World} {p : Addr} {cs cs' : List Value} (h : RowAt w p cs) (k n : Nat) (e : (cs.drop k).take n = cs') : RowAt w (p.add k) cs' := by
  subst e
  refine RowAt.take (fun j u hu => ?_) n
  rw [List.getElem?_drop] at hu
  rw [Addr.add_add]
  exact h _ u hu
theorem gT {b : Bool} (h : b = false) : (true && !b) = true := by rw [h]; rfl
theorem gF {b : Bool} (h : b = true) : (true && !b) = false := by rw [h]; rfl
def rlsB (l : List Rl) : Bool := l.all fun r => !isDeep r.b
def fewI (x : Inf) : Bool := !(decide (20 < (x.rules.length : Int)) || isDeep x.ty || isDeep x.val || decide (100 < (x.name.size : Int))) && rlsB x.rules
def fewB (l : List Inf) : Bool := !decide (40 < (l.length : Int)) && l.all fewI
theorem all_drop {α : Type} (p : α → Bool) (l : List α) (i : Nat) (h : i < l.length) : (l.drop i).all p = (p l[i] && (l.drop (i + 1)).all p) := by
  rw [List.drop_eq_getElem_cons h, List.all_cons]
set_option maxHeartbeats 1000000 in
set_option maxRecDepth 20000 in
theorem Few_runs {R : Nat → Prop} (A : Option Addr) (l : List Inf) (c : Nat) (w : World) (hl : Sl encInf w R A l) (hB : lenOk l.length c) :
    Runs Tryz.prog 12 #[.slice A l.length c] w fun v w' => v = .bool (fewB l) ∧ Ext w w' := by
  refine Runs.of_vc (ρ := []) cx_ok [0, 2, 3, 4, 7, 11, 45, 53, 65] [.v _] Tryz.func12 rfl rfl rfl (Holds.nil w) ?_
  unfold fewB
  refine Or.inl (And.intro (fun h => ?_) (fun h => ?_))
  · have h : (40 < (l.length : Int)) := of_decide_eq_true h
    exact ⟨by rw [decide_eq_true h]; rfl, Ext.refl _⟩
  · rw [show decide (40 < (l.length : Int)) = false from h]
    refine vLoop_upd (σ := Nat) [2, 3, 4, 8, 9, 10, 11, 12, 13, 14, 15, 16, 17, 18, 19, 20, 21, 22, 23, 24, 25, 26, 27, 28, 29, 30, 31, 32, 33, 34, 35, 36, 37, 38, 39, 40, 41, 42, 43, 44, 45, 46, 47, 48, 49, 50, 51, 52, 53, 54, 55, 56, 57, 58, 59, 60, 61, 62, 63, 64, 65] (fun i => [(3, .v (.int .i64 i))]) [] (fun _ => []) (fun i w' => Ext w w' ∧ i ≤ l.length ∧ l.all fewI = (l.drop i).all fewI) (fun i => l.length - i) 0 (fun _ => ⟨rfl, rfl⟩)
      ⟨(by repeat (first | exact trivial | refine And.intro rfl ?_)), (by repeat (first | exact trivial | refine And.intro rfl ?_)), (by repeat (first | exact trivial | refine And.intro rfl ?_)), (by repeat (first | exact trivial | refine And.intro rfl ?_)), Ext.refl _, Nat.zero_le _, rfl⟩ ?_
    rintro i w1 hh1 ⟨x1, hi, hx⟩
    refine Or.inl (And.intro (fun h => ?_) (fun h => ?_))
    · have hil : i < l.length := by have := of_decide_eq_true h; omega
      rw [all_drop fewI l i hil] at hx
      obtain ⟨a1, cs, ha1, _, hrow, hv⟩ := (hl.ext x1).at hil
      generalize l[i] = x at *
      have hv : VI w1 R cs x := hv
      obtain ⟨ct, cv, ra, rc, rfl, hty, hvl, hru, hrl, hok⟩ := hv; obtain ⟨kt, nt, st, lst, tst, lat, lct, tat, tct, ety, rfl, hkt, hnt, hst, hllt, hltt, hLt, hTt⟩ := hty.inv; obtain ⟨kv, nv, sv, lsv, tsv, lav, lcv, tav, tcv, evl, rfl, hkv, hnv, hsv, hllv, hltv, hLv, hTv⟩ := hvl.inv
      refine OpT.indexAddr Tryz.underlying22 Tryz.sizeOf36 rfl rfl ha1 (by first | omega | (simp only [lenOk] at *; omega)) ?_; refine Lands.v hh1 ?_
      refine OpT.load Tryz.isAgg34 rfl (hrow.cell 22 rfl) ?_; refine Lands.v hh1 ?_
      have hfx : fewI x = (!(decide (20 < (x.rules.length : Int)) || isDeep x.ty || isDeep x.val || decide (100 < (x.name.size : Int))) && rlsB x.rules) := rfl
      cases h1 : decide (20 < (x.rules.length : Int)) with
      | true =>
        refine vskip (gF (by simp [sel, *])) ?_
        refine vskip (gF (by simp [sel, *])) ?_
        refine vskip (gF (by simp [sel, *])) ?_
        refine vskip (gF (by simp [sel, *])) ?_
        refine OpT.pickT rfl (by simp [sel, *]) rfl ?_
        refine Lands.v hh1 ?_
        refine vskip rfl ?_
        refine vskip rfl ?_
        refine vskip rfl ?_
        refine vskip rfl ?_
        refine OpT.pickT rfl rfl rfl ?_
        refine Lands.v hh1 ?_
        refine vskip rfl ?_
        refine vskip rfl ?_
        refine vskip rfl ?_
        refine vskip rfl ?_
        refine vskip rfl ?_
        refine OpT.pickT rfl rfl rfl ?_
        refine Lands.v hh1 ?_
        refine Or.inl (And.intro (fun _ => ?_) (fun hx => nomatch (rfl).symm.trans hx))
        refine ⟨?_, x1⟩
        have hf : fewI x = false := by rw [hfx, h1]; rfl
        rw [hx, hf]; rfl
      | false =>
        refine vyes (gT h1) ?_
        refine OpT.indexAddr Tryz.underlying22 Tryz.sizeOf36 rfl rfl ha1 (by first | omega | (simp only [lenOk] at *; omega)) ?_; refine Lands.v hh1 ?_
        refine vyes (gT h1) ?_
        refine OpT.loadA Tryz.isAgg33 (by exact Tryz.sizeOf33) rfl (hrow.sub 3 5 rfl) ?_; refine Lands.ret (s := .a [.v (.int .u8 kt), .v (.int .i64 nt), .v (.string st), .v (.slice lat lst.length lct), .v (.slice tat tst.length tct)]) rfl rfl hh1 ?_
        refine vyes (gT h1) ?_
        refine vcZ (rDeep_runs x.ty _ w1 R hty) hh1 fun w2 x2 z2 hh2 => ?_
        have hrow2 := hrow.ext x2
        cases h2 : isDeep x.ty with
        | true =>
          refine vskip (gF (by simp [sel, *])) ?_
          refine vskip (gF (by simp [sel, *])) ?_
          refine vskip (gF (by simp [sel, *])) ?_
          refine vskip (gF (by simp [sel, *])) ?_
          refine OpT.pickT rfl (by simp [sel, *]) rfl ?_
          refine Lands.v hh2 ?_
          refine vskip rfl ?_
          refine vskip rfl ?_
          refine vskip rfl ?_
          refine vskip rfl ?_
          refine vskip rfl ?_
          refine OpT.pickT rfl rfl rfl ?_
          refine Lands.v hh2 ?_
          refine Or.inl (And.intro (fun _ => ?_) (fun hx => nomatch (rfl).symm.trans hx))
          refine ⟨?_, x1.trans x2⟩
          have hf : fewI x = false := by rw [hfx, h1, h2]; rfl
          rw [hx, hf]; rfl
        | false =>
          refine vyes (gT (by simp [sel, *])) ?_
          refine OpT.indexAddr Tryz.underlying22 Tryz.sizeOf36 rfl rfl ha1 (by first | omega | (simp only [lenOk] at *; omega)) ?_; refine Lands.v hh2 ?_
          refine vyes (gT (by simp [sel, *])) ?_
          refine OpT.loadA Tryz.isAgg33 (by exact Tryz.sizeOf33) rfl (hrow2.sub 8 5 rfl) ?_; refine Lands.ret (s := .a [.v (.int .u8 kv), .v (.int .i64 nv), .v (.string sv), .v (.slice lav lsv.length lcv), .v (.slice tav tsv.length tcv)]) rfl rfl hh2 ?_
          refine vyes (gT (by simp [sel, *])) ?_
          refine vcZ (rDeep_runs x.val _ w2 R (hvl.ext x2)) hh2 fun w3 x3 z3 hh3 => ?_
          have hrow3 := hrow2.ext x3
          cases h3 : isDeep x.val with
          | true =>
            refine vskip (gF (by simp [sel, *])) ?_
            refine vskip (gF (by simp [sel, *])) ?_
            refine vskip (gF (by simp [sel, *])) ?_
            refine vskip (gF (by simp [sel, *])) ?_
            refine vskip (gF (by simp [sel, *])) ?_
            refine OpT.pickT rfl (by simp [sel, *]) rfl ?_
            refine Lands.v hh3 ?_
            refine Or.inl (And.intro (fun _ => ?_) (fun hx => nomatch (rfl).symm.trans hx))
            refine ⟨?_, x1.trans (x2.trans x3)⟩
            have hf : fewI x = false := by rw [hfx, h1, h2, h3]; rfl
            rw [hx, hf]; rfl
          | false =>
            refine vyes (gT (by simp [sel, *])) ?_
            refine OpT.indexAddr Tryz.underlying22 Tryz.sizeOf36 rfl rfl ha1 (by first | omega | (simp only [lenOk] at *; omega)) ?_; refine Lands.v hh3 ?_
            refine vyes (gT (by simp [sel, *])) ?_
            refine OpT.load Tryz.isAgg9 rfl (hrow3.cell 1 rfl) ?_; refine Lands.v hh3 ?_
            have y3 : Ext w w3 := x1.trans (x2.trans x3)
            have hrl3 : Sl encR w3 R ra x.rules := hru.ext (x2.trans x3)
            refine Or.inl (And.intro (fun h => ?_) (fun h => ?_))
            · have h : decide (100 < (x.name.size : Int)) = true := by simpa [sel, h1, h2, h3] using h
              refine ⟨?_, y3⟩
              have hf : fewI x = false := by rw [hfx, h1, h2, h3, h]; rfl
              rw [hx, hf]; rfl
            · have h : decide (100 < (x.name.size : Int)) = false := by simpa [sel, h1, h2, h3] using h
              have hf : fewI x = rlsB x.rules := by rw [hfx, h1, h2, h3, h]; rfl
              rw [hf] at hx
              refine vLoop_upd (σ := Nat) [2, 4, 46, 47, 48, 49, 50, 51, 52, 53, 54, 55, 56, 57, 58, 59, 60, 61, 62, 63, 64, 65] (fun j => [(3, .v (.int .i64 i)), (4, .v (.int .i64 j))]) [] (fun _ => []) (fun j w' => Ext w3 w' ∧ j ≤ x.rules.length ∧ rlsB x.rules = rlsB (x.rules.drop j)) (fun j => x.rules.length - j) 0 (fun _ => ⟨rfl, rfl⟩)
                ⟨(by repeat (first | exact trivial | refine And.intro rfl ?_)), (by repeat (first | exact trivial | refine And.intro rfl ?_)), (by repeat (first | exact trivial | refine And.intro rfl ?_)), (by repeat (first | exact trivial | refine And.intro rfl ?_)), Ext.refl _, Nat.zero_le _, rfl⟩ ?_
              rintro j w4 hh4 ⟨x4, hj, hy⟩
              have hrow4 := hrow3.ext x4
              refine OpT.indexAddr Tryz.underlying22 Tryz.sizeOf36 rfl rfl ha1 (by first | omega | (simp only [lenOk] at *; omega)) ?_; refine Lands.v hh4 ?_
              refine OpT.load Tryz.isAgg34 rfl (hrow4.cell 22 rfl) ?_; refine Lands.v hh4 ?_
              refine Or.inl (And.intro (fun h => ?_) (fun h => ?_))
              · have hjl : j < x.rules.length := by have := of_decide_eq_true h; omega
                rw [show rlsB (x.rules.drop j) = (!isDeep (x.rules[j]).b && rlsB (x.rules.drop (j + 1))) from all_drop _ x.rules j hjl] at hy
                obtain ⟨a4, cr, ha4, _, hrw, hr⟩ := (hrl3.ext x4).at hjl
                generalize x.rules[j] = r at *
                have hr : VR w4 R cr r := hr
                obtain ⟨cbr, rfl, hbor, hrfr, hrcr⟩ := hr; obtain ⟨krb, nrb, srb, lsrb, tsrb, larb, lcrb, tarb, tcrb, ebor, rfl, hkrb, hnrb, hsrb, hllrb, hltrb, hLrb, hTrb⟩ := hbor.inv
                refine OpT.indexAddr Tryz.underlying22 Tryz.sizeOf36 rfl rfl ha1 (by first | omega | (simp only [lenOk] at *; omega)) ?_; refine Lands.v hh4 ?_
                refine OpT.load Tryz.isAgg34 rfl (hrow4.cell 22 rfl) ?_; refine Lands.v hh4 ?_
                refine OpT.indexAddr Tryz.underlying34 Tryz.sizeOf84 rfl rfl ha4 (by first | omega | (simp only [lenOk] at *; omega)) ?_; refine Lands.v hh4 ?_
                refine OpT.loadA Tryz.isAgg33 (by exact Tryz.sizeOf33) rfl (hrw.sub 2 5 rfl) ?_; refine Lands.ret (s := .a [.v (.int .u8 krb), .v (.int .i64 nrb), .v (.string srb), .v (.slice larb lsrb.length lcrb), .v (.slice tarb tsrb.length tcrb)]) rfl rfl hh4 ?_
                refine vcZ (rDeep_runs r.b _ w4 R hbor) hh4 fun w5 x5 z5 hh5 => ?_
                refine Or.inl (And.intro (fun h => ?_) (fun h => ?_))
                · rw [h] at hy
                  exact ⟨by rw [hx, hy]; rfl, y3.trans (x4.trans x5)⟩
                · rw [h] at hy
                  refine vsd (by simp only [inKind]; have := hrl; simp only [lenOk] at this; omega) ?_
                  exact Exists.intro (j + 1) ⟨by omega, esub_over (by repeat (first | exact trivial | refine And.intro rfl ?_)) (by repeat (first | exact trivial | refine And.intro rfl ?_)), hsub_over (by repeat (first | exact trivial | refine And.intro rfl ?_)) (by repeat (first | exact trivial | refine And.intro rfl ?_)), x4.trans x5, hjl, hy⟩
              · obtain rfl : j = x.rules.length := by have := of_decide_eq_false h; omega
                rw [List.drop_length] at hy
                rw [hy] at hx
                refine vsd (by simp only [inKind]; have := hB; simp only [lenOk] at this; omega) ?_
                exact Exists.intro (i + 1) ⟨by omega, esub_over (by repeat (first | exact trivial | refine And.intro rfl ?_)) (by repeat (first | exact trivial | refine And.intro rfl ?_)), hsub_over (by repeat (first | exact trivial | refine And.intro rfl ?_)) (by repeat (first | exact trivial | refine And.intro rfl ?_)), y3.trans x4, hil, hx⟩
    · obtain rfl : i = l.length := by have := of_decide_eq_false h; omega
      rw [List.drop_length] at hx
      exact ⟨by rw [hx]; rfl, x1⟩
end Go.Proofs.YtfljbnhhkdaobaaGreat

/-
  Same of infos.
-/
namespace Go.Proofs.YtfljbnhhkdaobaaGreat
open Go Go.RowKit Go.Proofs.Bw
set_option linter.unusedVariables false
set_option linter.unusedSimpArgs false
theorem notT {b : Bool} (h : (!b) = true) : b = false := by cases b <;> simp_all
theorem notF {b : Bool} (h : (!b) = false) : b = true := by cases b <;> simp_all
end Go.Proofs.YtfljbnhhkdaobaaGreat

/-
  The chapter's example.
-/
namespace Go.Proofs.YtfljbnhhkdaobaaGreat
open Go Go.RowKit Go.Proofs.Bw
set_option linter.unusedVariables false
set_option linter.unusedSimpArgs false
def sA : ByteArray := ⟨#[65]⟩
def sD : ByteArray := ⟨#[68]⟩
def axI (s : ByteArray) (t : T) : Inf := ⟨1, s, 0, t, tZ, 0, noS, noS, 0, 0, 0, 0, 0, 0, [], 0, false⟩
def dfI (s : ByteArray) (t v : T) (h : Int) : Inf := ⟨2, s, 0, t, v, h, noS, noS, 0, 0, 0, 0, 0, 0, [], 0, false⟩
def L1 : List Inf := [axI sA tS]
def L2 : List Inf := [axI sA tS, dfI sD tS (tC sA) 1]
set_option maxRecDepth 100000
theorem w5 : findI L2 sD = some (dfI sD tS (tC sA) 1) := by rfl
/-! the environment, with all that is not its own and not in X there to be read -/
def EX (w : World) (X : Nat → Prop) (lo e m : Nat) (A : Option Addr) (c : Nat) (l : List Inf) : Prop := EA w (fun k => (k < w.heap.size ∧ ¬ X k) ∧ ¬ mine e m A k) lo e m A c l
section
variable {w w' : World} {X X' R : Nat → Prop} {lo e m c : Nat} {A : Option Addr} {l : List Inf}
theorem EA.wide {R2 : Nat → Prop} (h : EA w R lo e m A c l) (hr : ∀ k, R k → R2 k) (hf : ∀ k, R2 k → ¬ mine e m A k ∧ k < w.heap.size) : EA w R2 lo e m A c l := by
  obtain ⟨es, hM, hE⟩ := h.map
  exact ⟨h.box, ⟨es, hM, hE.mono hr⟩, h.own, h.ne, h.lo_, hf, h.hts, h.few, h.rls⟩
theorem EA.ex (h : EA w R lo e m A c l) (hX : ∀ k, R k → ¬ X k) : EX w X lo e m A c l :=
  h.wide (fun k hk => ⟨⟨(h.far k hk).2, hX k hk⟩, (h.far k hk).1⟩) fun k hk => ⟨hk.2, hk.1.1⟩
theorem EX.lt (h : EX w X lo e m A c l) : ∀ k, mine e m A k → lo ≤ k ∧ k < w.heap.size := h.mine_lt
theorem EX.mod {S : Nat → Prop} (h : EX w X lo e m A c l) (hm : Bw.Mod S w w') (hS : ∀ k, k < w.heap.size → S k → X k) (hX : ∀ k, X k → ¬ mine e m A k) (hX' : ∀ k, k < w.heap.size → X' k → X k) : EX w' X' lo e m A c l :=
  (EA.mod h hm (fun k hk hs => hX k (hS k hk hs)) (fun k hk hs => hk.1.2 (hS k hk.1.1 hs)) (fun k hk hs => .inr (hX k (hS k hk hs)))).ex fun k hk hx => hk.1.2 (hX' k hk.1.1 hx)
theorem EX.ext (h : EX w X lo e m A c l) (hm : Ext w w') : EX w' X lo e m A c l :=
  (EA.ext h hm).ex fun k hk => hk.1.2
end
theorem Add_x {X R' : Nat → Prop} {lo : Nat} (e m : Nat) (A B : Option Addr) (c bc : Nat) (l xs : List Inf) (w : World) (hE : EX w X lo e m A c l) (hX : ∀ k, X k → k < w.heap.size) (hl : Sl encInf w R' B xs) (hR' : ∀ k, R' k → (k < w.heap.size ∧ ¬ X k) ∧ ¬ mine e m A k) (hB : lenOk xs.length bc) (hsz : xs.length ≤ 1000000) (hrl : ∀ x ∈ xs, x.rules.length ≤ 1000) :
    Runs Tryz.prog 18 #[.pointer (some ⟨e, 0, none⟩), .slice B xs.length bc] w fun v w' => Bw.Mod (mine e m A) w w' ∧ v = .int .i64 (addE l xs) ∧
      ∃ A2 c2, EX w' X lo e m A2 c2 (addL l xs) ∧ (∀ k, mine e m A2 k → mine e m A k ∨ w.heap.size ≤ k) :=
  (Add_runs e m A B c bc l xs w hE hl hR' hB hsz hrl).mono fun v w' ⟨h1, h2, R2, A2, c2, h3, h4, h5, h6⟩ => ⟨h2, h1, A2, c2, h3.ex (fun k hk hx => by
    rcases h5 k hk with h | h
    · exact h.1.2 hx
    · have := hX k hx; omega), fun k hk => by
    rcases hk with hk | hk | hk
    · exact .inl (.inl hk)
    · exact .inl (.inr (.inl hk))
    · exact (h6 k hk).imp (fun h => .inr (.inr h)) id⟩
theorem vcM {C : Cx} {ρ : List Nat} {H : Heap} {w : World} {f : Nat} {args : Array Value} {k : SV → List Nat → Heap → World → Prop} {S : Nat → Prop} {p : Value → World → Prop} (h : Runs C.P f args w fun u w' => Bw.Mod S w w' ∧ p u w') (hH : Holds ρ H w) (hρ : outR S ρ)
    (hk : ∀ v w', Bw.Mod S w w' → w.heap.size ≤ w'.heap.size → Holds ρ H w' → p v w' → k (.v v) ρ H w') : Runs C.P f args w (Lands ρ k) :=
  h.mono fun v w' ⟨m, hp⟩ => have hh := hH.mod m (outR.get hρ); Lands.v hh (hk v w' m m.size hh hp)
theorem EX.out {w : World} {X : Nat → Prop} {lo e m c g : Nat} {A : Option Addr} {l : List Inf} (h : EX w X lo e m A c l) (hg : w.heap.size ≤ g) : ¬ mine e m A g := fun hm => by have := h.lt g hm; omega
theorem i0 : i64ok 0 := by simp [i64ok]
theorem n0 : noS.size ≤ 9223372036854775807 := by decide
end Go.Proofs.YtfljbnhhkdaobaaGreat

/-
  Infos that are kept beside an environment; what a list of infos is after some were added.
-/
namespace Go.Proofs.YtfljbnhhkdaobaaGreat
open Go Go.RowKit Go.Proofs.Bw
set_option linter.unusedVariables false
set_option linter.unusedSimpArgs false
def IX (w : World) (M : Nat → Prop) (lo : Nat) (A : Option Addr) (c : Nat) (l : List Inf) : Prop :=
  ∃ css, OwnR w lo 36 encInf.sz A c css ∧ Reps encInf w (fun k => (k < w.heap.size ∧ ¬ M k) ∧ ¬ ownOf A k) css l
section
variable {w w' : World} {M M' : Nat → Prop} {lo c : Nat} {A : Option Addr} {l : List Inf}
theorem IX.nil (w : World) (M : Nat → Prop) (lo : Nat) : IX w M lo none 0 [] := ⟨[], OwnR.nil _ _ _ _, Reps.nil _ _ _⟩
theorem IX.le (h : IX w M lo A c l) : lenOk l.length c := by
  obtain ⟨css, h1, h2⟩ := h
  have := h1.le
  rw [h2.1] at this
  exact this
theorem IX.own (h : IX w M lo A c l) : ∀ k, ownOf A k → lo ≤ k ∧ k < w.heap.size := by
  obtain ⟨css, h1, h2⟩ := h
  rintro k ⟨a, ha, rfl⟩
  exact h1.block ha
theorem IX.sl (h : IX w M lo A c l) : Sl encInf w (fun k => k < w.heap.size) A l := by
  obtain ⟨css, h1, h2⟩ := h
  refine (h2.mono fun k hk => hk.1.1).sl fun i r hi => ?_
  obtain ⟨a, h3, h4, h5⟩ := h1.rd i r hi
  exact ⟨a, h3, h4.2, h5⟩
theorem IX.mod {S : Nat → Prop} (h : IX w M lo A c l) (hm : Bw.Mod S w w') (hS : ∀ k, k < w.heap.size → S k → M k) (hMo : ∀ k, M k → ¬ ownOf A k) (hM : ∀ k, k < w.heap.size → M' k → M k) : IX w' M' lo A c l := by
  have ho := h.own
  obtain ⟨css, h1, h2⟩ := h
  have := hm.size
  exact ⟨css, h1.mod hm fun a ha hs => hMo _ (hS _ (ho _ ⟨a, ha, rfl⟩).2 hs) ⟨a, ha, rfl⟩, (h2.mod hm fun k hk hs => hk.1.2 (hS k hk.1.1 hs)).mono fun k hk => ⟨⟨by have := hk.1.1; omega, fun h => hk.1.2 (hM k hk.1.1 h)⟩, hk.2⟩⟩
theorem IX.ext (h : IX w M lo A c l) (hm : Ext w w') (hMo : ∀ k, M k → ¬ ownOf A k) : IX w' M lo A c l := h.mod hm (fun _ _ h => h.elim) hMo fun _ _ h => h
variable {P : Program} {e : Env} {K : Value → World → Prop} {d : Option Tmp} {t : TypeId} {pos : String} {af : Array Edge} {g' : Option (Nat × Bool)} {ρ : List Nat} {H : Heap} {k : SV → List Nat → Heap → World → Prop}
theorem OpT.appendI {x y : Operand} {st tx : TypeId} {bytes m n cc n' : Nat} {B : Option Addr} {R2 : Nat → Prop} {l2 l3 : List Inf} (hel : ElOk P 36 encInf.sz bytes) (ht : P.underlying st = some (.slice 36)) (htx : P.underlying tx = some (.slice 36))
    (hx : evalO e x = some (.slice A n c)) (hy : evalO e y = some (.slice B m cc)) (hn : n = l.length) (hm : m = l2.length) (h3 : l ++ l2 = l3) (hn' : n' = l3.length) (hown : IX w M lo A c l) (hR : Sl encInf w R2 B l2)
    (hR2 : ∀ k, R2 k → k < w.heap.size → ¬ M k ∧ ¬ ownOf A k) (hlo : lo ≤ w.heap.size) (hM : ∀ k, M k → k < w.heap.size)
    (hH : Holds ρ H w) (hρ : ∀ i, i < ρ.length → ¬ ownOf A (adr ρ i))
    (h63 : l3.length * bytes ≤ 140737488355328 ∧ l3.length ≤ 9223372036854775807)
    (h : ∀ w' A' c', Bw.Mod (ownOf A) w w' → w.heap.size ≤ w'.heap.size → IX w' M lo A' c' l3 → (∀ k, ownOf A' k → ownOf A k ∨ w.heap.size ≤ k) → Holds ρ H w' → k (.v (.slice A' n' c')) ρ H w') :
    OpT P e w ⟨d, .call ⟨.builtin .append, #[x, y], #[st, tx]⟩, t, pos, af, g'⟩ (Lands ρ k) := by
  subst hn; subst hm; subst h3; subst hn'
  obtain ⟨css, h1, h2⟩ := hown
  obtain ⟨news, q1, q2⟩ := hR.small.reps
  have hl1 := h2.1
  have hl2 := q1.1
  have hs := q2.src (P := P) (tx := tx) htx q1.lens q1.ones cc
  rw [hl2] at hs
  have h63' : (css.length + news.length) * bytes ≤ 140737488355328 ∧ css.length + news.length ≤ 9223372036854775807 := by
    rw [hl1, hl2]; rw [List.length_append] at h63; exact h63
  refine OpT.appendS' (news := news) (m := l2.length) hel ht (by rw [hl1]; exact hx) hy h1 hs hl2.symm q1.lens h63' hlo fun w' A' c' m' o' f' => ?_
  have hlen : (css ++ news).length = (l ++ l2).length := by rw [List.length_append, List.length_append, hl1, hl2]
  rw [hlen]
  have hH' : Holds ρ H w' := hH.mod m' hρ
  refine Lands.v hH' (h w' A' c' m' m'.size ⟨css ++ news, o', ?_⟩ f' hH')
  have r1 : Reps encInf w (fun k => (k < w.heap.size ∧ ¬ M k) ∧ ¬ ownOf A k) (css ++ news) (l ++ l2) := h2.append (q1.mono fun k hk => ⟨⟨hk.2, (hR2 k hk.1 hk.2).1⟩, (hR2 k hk.1 hk.2).2⟩)
  refine (r1.mod m' fun k hk => hk.2).mono fun k hk => ⟨⟨Nat.lt_of_lt_of_le hk.1.1 m'.size, hk.1.2⟩, fun h4 => ?_⟩
  rcases f' k h4 with h5 | h5
  · exact hk.2 h5
  · have := hk.1.1; omega
end
/-! what has been added -/
theorem addL_one {L : List Inf} {x : Inf} (h : addE L [x] = 0) : addL L [x] = L ++ [addOne L x] := by unfold addL; rw [if_pos h]; rfl
theorem addL_no {L : List Inf} {x : Inf} (h : addE L [x] ≠ 0) : addL L [x] = L := by unfold addL; rw [if_neg h]
theorem addE_one {L : List Inf} {x : Inf} (h : addE L [x] = 0) : checkB L [x] 0 x = 0 := by
  unfold addE at h
  by_cases h1 : 4096 < L.length + [x].length
  · rw [if_pos h1] at h; cases h
  · rw [if_neg h1] at h
    exact checks_ok [x] 0 h 0 (by simp)
structure Good (L : List Inf) : Prop where
  nd : (L.map (·.name)).Nodup
  h0 : ∀ x ∈ L, x.kind ≠ 2 → x.height = 0
  h1 : ∀ x ∈ L, x.kind = 2 → x.height = 1 + heightB L x.val
  ns : ∀ x ∈ L, x.kind = 2 → ∀ s ∈ nms x.val, (findI L s).isSome = true
theorem Good.nil : Good [] := ⟨by simp, by simp, by simp, by simp⟩
theorem findI_snoc {L : List Inf} {s : ByteArray} (h : (findI L s).isSome = true) (y : Inf) : findI (L ++ [y]) s = findI L s := by
  unfold findI at *
  rw [List.find?_append]
  cases hq : List.find? (fun x => decide (x.name = s)) L with
  | none => rw [hq] at h; cases h
  | some z => rfl
theorem heightB_snoc {L : List Inf} {t : T} (h : ∀ s ∈ nms t, (findI L s).isSome = true) (y : Inf) : heightB (L ++ [y]) t = heightB L t := by
  have key : ∀ (q : List ByteArray) (n : Int), (∀ s ∈ q, (findI L s).isSome = true) → q.foldl (fun n s => max n (getI (L ++ [y]) s).height) n = q.foldl (fun n s => max n (getI L s).height) n := by
    intro q
    induction q with
    | nil => intro n _; rfl
    | cons s r ih =>
      intro n hq
      rw [List.foldl_cons, List.foldl_cons, ih _ fun s hs => hq s (List.mem_cons_of_mem _ hs)]
      unfold getI
      rw [findI_snoc (hq s List.mem_cons_self)]
  exact key _ _ h
theorem checkB_last {L xs : List Inf} {i : Nat} {x : Inf} (h : checkB L xs i x = 0) : firstB (namesE L (if valB x.kind = true then xs.take i else xs)) (infT x) = 0 := by
  unfold checkB at h
  split at h
  · cases h
  split at h
  · cases h
  split at h
  · cases h
  split at h
  · rename_i h1; exact absurd h h1
  · exact h
theorem val_names {L : List Inf} {x : Inf} (h : checkB L [x] 0 x = 0) (hk : x.kind = 2) : ∀ s ∈ nms x.val, (findI L s).isSome = true := by
  have hv : valB x.kind = true := by rw [hk]; rfl
  have h1 := checkB_last h
  rw [if_pos hv] at h1
  have h2 := firstB_zero h1 x.val (by unfold infT; rw [if_pos hv]; simp)
  intro s hs
  have h3 := firstB_zero h2 s hs
  unfold thereE at h3
  by_cases h4 : (findI L s).isSome = false ∧ nameIn (List.take 0 [x]) s = false
  · rw [if_pos h4] at h3; cases h3
  · cases hq : (findI L s).isSome with
    | true => rfl
    | false => exact absurd ⟨hq, rfl⟩ h4
theorem Good.add {L : List Inf} {x : Inf} (h : Good L) (ha : addE L [x] = 0) : Good (L ++ [addOne L x]) := by
  have hc := addE_one ha
  have hf := (checkB_fresh hc).1
  have hn : ∀ y ∈ L, y.name ≠ x.name := findI_none.1 (by
    cases hq : findI L x.name with
    | none => rfl
    | some z => rw [hq] at hf; cases hf)
  have hmem : ∀ y ∈ L ++ [addOne L x], y ∈ L ∨ y = addOne L x := fun y hy => by simpa using hy
  refine ⟨?_, ?_, ?_, ?_⟩
  · rw [List.map_append, List.nodup_append]
    refine ⟨h.nd, by simp, ?_⟩
    intro a ha b hb
    simp only [List.map_cons, List.map_nil, List.mem_singleton] at hb
    subst hb
    obtain ⟨y, hy, rfl⟩ := List.mem_map.1 ha
    exact hn y hy
  · intro y hy hk
    rcases hmem y hy with hy | rfl
    · exact h.h0 y hy hk
    · have hk : x.kind ≠ 2 := hk
      show heightI L x = 0
      unfold heightI; rw [if_neg hk]
  · intro y hy hk
    rcases hmem y hy with hy | rfl
    · rw [heightB_snoc (h.ns y hy hk)]; exact h.h1 y hy hk
    · have hk : x.kind = 2 := hk
      have hv : valI x = x.val := by unfold valI; rw [if_pos (by rw [hk]; rfl)]
      show heightI L x = 1 + heightB (L ++ [addOne L x]) (valI x)
      rw [hv, heightB_snoc (val_names hc hk)]
      unfold heightI; rw [if_pos hk]
  · intro y hy hk s hs
    rcases hmem y hy with hy | rfl
    · rw [findI_snoc (h.ns y hy hk s hs)]; exact h.ns y hy hk s hs
    · have hk : x.kind = 2 := hk
      have hv : valI x = x.val := by unfold valI; rw [if_pos (by rw [hk]; rfl)]
      have hs : s ∈ nms x.val := by rw [← hv]; exact hs
      rw [findI_snoc (val_names hc hk s hs)]; exact val_names hc hk s hs
theorem Good.one {L : List Inf} (h : Good L) (x : Inf) : Good (addL L [x]) := by
  by_cases ha : addE L [x] = 0
  · rw [addL_one ha]; exact h.add ha
  · rw [addL_no ha]; exact h
end Go.Proofs.YtfljbnhhkdaobaaGreat
